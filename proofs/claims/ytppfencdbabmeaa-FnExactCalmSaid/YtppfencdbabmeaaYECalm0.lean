/- Printed, and by hand: the functions that FnExactCalm reaches come to their end; the program's answer as the reference's. -/
import Derived.Test.YtppfencdbabmeaaXECalm0
import Derived.KernelRfl
set_option linter.unusedVariables false
set_option linter.unusedSimpArgs false
namespace Go.Proofs.Ytppfencdbabmeaa
open Go Go.T Go.Proofs
theorem ZaA (n : Int) : n = 1 ∨ n = 2 ∨ n = 3 ∨ n = 4 ∨ n = 5 ∨ ((n == 1) = false ∧ (n == 2) = false ∧ (n == 3) = false ∧ (n == 4) = false ∧ (n == 5) = false) := by
  simp only [beq_eq_false_iff_ne]
  omega
theorem delR_deep {pr : List D → Option Bool} {q : List D → Bool} : ∀ {e : List (List D)}, (∀ r ∈ e, pr r = some (q r)) → delR pr (Zb e) = some (Zb (e.filter fun r => !q r))
  | [], _ => rfl
  | r :: e, h => by
    simp only [Zb, delR, ZcQ, h r (by simp), delR_deep (e := e) fun x hx => h x (by simp [hx])]
    rw [List.filter_cons]
    cases q r <;> rfl
theorem delK_deep {ix : List (List D) → Option Int} {pr : List D → Option Bool} {q : List D → Bool} {d : List (List D)} (hl : d.length ≤ 1048576) (hix : ix d = some (Zbo (fun i => q (gR d (i : Int))) d.length)) (h : ∀ r ∈ d, pr r = some (q r)) : delK ix pr (Zb d) = some (Zb (d.filter fun r => !q r)) := by
  unfold delK
  rw [ZO, hix]
  have hg : ∀ i (hi : i < d.length), gR d (i : Int) = d[i] := fun i hi => by
    have := gR_at (xs := d) (v := (i : Int)) (by omega) (by omega)
    rw [Int.toNat_natCast, List.getElem?_eq_getElem hi] at this
    injection this with this
    exact this.symm
  by_cases hz : Zbo (fun i => q (gR d (i : Int))) d.length < 0
  · obtain ⟨h1, h2⟩ := findI_none hz
    simp only [h1, if_true]
    congr 2
    symm
    rw [List.filter_eq_self]
    intro x hx
    obtain ⟨i, hi, rfl⟩ := List.mem_iff_getElem.mp hx
    have := h2 i hi
    rw [hg i hi] at this
    rw [this]; rfl
  · obtain ⟨h1, h2, h3, h4⟩ := findI_some (p := fun i => q (gR d (i : Int))) (n := d.length) (by omega)
    generalize Zbo (fun i => q (gR d (i : Int))) d.length = z at *
    simp only [show ¬ z = -1 by omega, if_false]
    rw [ZaP ⟨by omega, by rw [Zw]; omega, by rw [Zw]; omega⟩]
    have ht : ∀ m, m ≤ d.length → (Zb d).take m = Zb (d.take m) ∧ (Zb d).drop m = Zb (d.drop m) := fun m hm => by
      have e : Zb d = Zb (d.take m) ++ Zb (d.drop m) := by rw [← Zai, List.take_append_drop]
      have l : (Zb (d.take m)).length = m := by rw [Zw, List.length_take]; omega
      rw [e]
      exact ⟨List.take_left' l, List.drop_left' l⟩
    rw [(ht z.toNat (by omega)).1, (ht (z.toNat + 1) (by omega)).2, delR_deep fun r hr => h r (List.mem_of_mem_drop hr)]
    simp only []
    rw [← Zai]
    congr 2
    have h5 : d = d.take z.toNat ++ (d[z.toNat] :: d.drop (z.toNat + 1)) := by rw [List.getElem_cons_drop, List.take_append_drop]
    conv => rhs; rw [h5]
    rw [List.filter_append, List.filter_cons]
    have h7 : q d[z.toNat] = true := by have := h2; rwa [hg _ h1] at this
    rw [h7]
    simp only [Bool.not_true, Bool.false_eq_true, if_false]
    congr 1
    symm
    rw [List.filter_eq_self]
    intro x hx
    obtain ⟨i, hi, rfl⟩ := List.mem_iff_getElem.mp hx
    rw [List.length_take] at hi
    have := h4 i (by omega)
    rw [hg i (by omega)] at this
    rw [List.getElem_take, this]; rfl
theorem Yu.tm {ι α : Type} {ok : ι → Prop} {ψ : α → Prop} {p : ι → Nat} {B : Nat} (hp : ∀ i, ok i → B ≤ p i) {a0 a1 φ} (h : Tm (fun k => B ≤ k) (fun k => Yu.t k a0 a1) φ) {G : ι → Int → Option α} (hG : ∀ z0, φ z0 → Tm ok (fun i => G i z0) ψ) : Tm ok (fun i => Yu.f (p i) a0 a1 (G i)) ψ := ZK (t := fun k => Yu.t k a0 a1) hp h hG
def RS (B : Nat) (r : List D) : Prop := ∃ (c0 : ByteArray), r = [.str c0] ∧ c0.size ≤ B ∧ True
theorem RS.open {B : Nat} {r : List D} (h : RS B r) : ∃ (c0 : ByteArray), r = [.str c0] ∧ c0.size ≤ B ∧ True := h
theorem RS.mono {B B' : Nat} (hb : B ≤ B') {r : List D} (h : RS B r) : RS B' r := by
  obtain ⟨c0, rfl, k0, _⟩ := h
  exact ⟨_, rfl, (Nat.le_trans k0 hb), trivial⟩
theorem RS.wide {xs : List (List D)} (h : Zi RS lim xs) : Zi RS 2097152 xs := ⟨Nat.le_trans h.1 (by decide), fun r hr => (h.2 r hr).mono (by decide)⟩
theorem RS.len {B : Nat} {r : List D} (h : RS B r) : r.length = 1 := by
  obtain ⟨c0, rfl, _⟩ := h.open
  rfl
theorem RS.flat {B : Nat} {xs : List (List D)} (h : ∀ r ∈ xs, RS B r) : ZaZ 1 xs := fun r hr => by
  obtain ⟨c0, rfl, _⟩ := (h r hr).open
  exact ⟨rfl, by simp [Zau]⟩
theorem RS.wt {B : Nat} {xs : List (List D)} (h : ∀ r ∈ xs, RS B r) : Zp xs = 1 * xs.length := wt_flat (R := RS B) (fun r h => by obtain ⟨c0, rfl, _⟩ := h; rfl) xs h
theorem RS.deep {B : Nat} {xs : List (List D)} (h : ∀ r ∈ xs, RS B r) : Zb xs = xs.map (·.map C.d) := deep_flat (R := RS B) (fun r h => by obtain ⟨c0, rfl, _⟩ := h; rfl) xs h
theorem RS.gets {B : Nat} {xs : List (List D)} (h : ∀ r ∈ xs, RS B r) {v : Int} (h0 : 0 ≤ v) (h1 : v < xs.length) : gR xs v = [.str (gS xs v 0)] ∧ (gS xs v 0).size ≤ B ∧ True := by
  obtain ⟨c0, e, k0, _⟩ := (h (gR xs v) (gR_mem h0 h1)).open
  unfold gS
  rw [e]
  exact ⟨rfl, k0, trivial⟩
theorem RS.rows {B : Nat} {xs : List (List D)} (h : ∀ r ∈ xs, RS B r) {v : Int} (h0 : 0 ≤ v) (h1 : v < xs.length) {β : Type} (F : List D → Option β) : Zbw xs v F = F [.str (gS xs v 0)] := by
  rw [← (RS.gets h h0 h1).1]
  exact Zbp h0 h1 F
theorem RS.get {B : Nat} {xs : List (List D)} (h : Zi RS B xs) {v : Int} (h0 : 0 ≤ v) (h1 : v < xs.length) : gR xs v = [.str (gS xs v 0)] ∧ (gS xs v 0).size ≤ B ∧ True := RS.gets h.2 h0 h1
theorem RS.row {B : Nat} {xs : List (List D)} (h : Zi RS B xs) {v : Int} (h0 : 0 ≤ v) (h1 : v < xs.length) {β : Type} (F : List D → Option β) : Zbw xs v F = F [.str (gS xs v 0)] := RS.rows h.2 h0 h1 F
set_option maxRecDepth 100000 in
theorem Yu.T {a0 : List (List D)} {a1 : Int} (h0 : 0 ≤ a1) (h1 : a1 ≤ 1048576) (ga0 : Zi RS maxLen a0) : Tm Z3 (fun k => Yu.t k a0 a1) (fun r => r < 0 ∨ 0 ≤ r ∧ r ≤ a1 ∧ Zi RS lim a0 ∧ ((Zp a0 : Nat) : Int) ≤ 64 * (a1 - r) ∧ True) := by
  unfold Yu.t Yu.g
  have hm := Zy
  have hlim : lim = 1048576 := rfl
  have hlen := ga0.1
  try rw [Zj (x := a1 - (a0.length : Int)) (by omega) (by omega)]
  refine Tm.ite (fun h1 => ?_) (fun h1 => ?_)
  · try simp only [bz0, bz1, bz2, bz3, bz4, bz5, bz6, bz7, bz8, bz9, bza] at h1
    exact Tm.ret (by first | (left; omega) | (right; refine ⟨?_, ?_, ?_, ?_, trivial⟩ <;> first | assumption | omega))
  · try simp only [bz0, bz1, bz2, bz3, bz4, bz5, bz6, bz7, bz8, bz9, bza] at h1
    refine Tm.loop (okk := Z3) (p := fun k => k) (fun i hi => hi) (b := fun k => Yu.l0 k a0 (fun z0 => some z0)) (fun v => match v with | (u0, i) => (((a0.length : Int)) - i).toNat) (fun v => match v with | (u0, i) => 0 ≤ u0 ∧ u0 ≤ a1 ∧ 0 ≤ i ∧ i ≤ (a0.length : Int) ∧ (∀ r ∈ a0.take i.toNat, RS lim r) ∧ ((Zp (a0.take i.toNat) : Nat) : Int) ≤ 64 * (a1 - a0.length - u0 + i)) ?_ ?_ ?_
    · rintro ⟨u0, i⟩ hI
      try simp only [] at hI ⊢
      have : big = 2 ^ 64 := rfl
      have := ga0.1
      omega
    · exact ⟨by omega, by omega, by omega, by simp, by simp, by simp [Zp]⟩
    · rintro ⟨u0, i⟩ hI L hL
      try simp only [] at hI
      obtain ⟨u0a, u0b, i0, i1, hr, hwt⟩ := hI
      simp only [Yu.l0, atR, rdQ, Q.ask]
      refine Tm.ite (fun h2 => ?_) (fun h2 => ?_)
      · try simp only [bz0, bz1, bz2, bz3, bz4, bz5, bz6, bz7, bz8, bz9, bza] at h2
        refine Tm.atRow (by first | assumption | omega) (by first | assumption | omega) (fun x3 hx4 hm5 => ?_)
        obtain ⟨c6, rfl, g7, _⟩ := (ga0.2 x3 hm5).open
        refine Tm.uncons ?_
        refine Tm.dStr ?_
        refine Tm.atEnd ?_
        try rw [Zj (x := u0 - (c6.size : Int)) (by omega) (by omega)]
        refine Tm.ite (fun h8 => ?_) (fun h8 => ?_)
        · try simp only [bz0, bz1, bz2, bz3, bz4, bz5, bz6, bz7, bz8, bz9, bza] at h8
          exact Tm.ret (by first | (left; omega) | (rw [List.take_of_length_le (by omega)] at hwt; exact .inr ⟨by omega, by omega, ⟨by simp only [lim]; omega, ZcD (by omega) hr⟩, by omega, trivial⟩))
        · try simp only [bz0, bz1, bz2, bz3, bz4, bz5, bz6, bz7, bz8, bz9, bza] at h8
          try rw [Zj (x := i + 1) (by omega) (by omega)]
          have hwx := wt_take i0 hx4
          simp only [ZbG, wtD] at hwx
          refine hL ((u0 - (c6.size : Int)), (i + 1)) ⟨by omega, by omega, by omega, by omega, take_rows i0 hx4 hr ⟨_, rfl, by first | assumption | omega, trivial⟩, by omega⟩ (by (try simp only []); omega)
      · try simp only [bz0, bz1, bz2, bz3, bz4, bz5, bz6, bz7, bz8, bz9, bza] at h2
        exact Tm.ret (by first | (left; omega) | (rw [List.take_of_length_le (by omega)] at hwt; exact .inr ⟨by omega, by omega, ⟨by simp only [lim]; omega, ZcD (by omega) hr⟩, by omega, trivial⟩))
theorem Yn.tm {ι α : Type} {ok : ι → Prop} {ψ : α → Prop} {p : ι → Nat} {B : Nat} (hp : ∀ i, ok i → B ≤ p i) {a0 a1 φ} (h : Tm (fun k => B ≤ k) (fun k => Yn.t k a0 a1) φ) {G : ι → Int → Option α} (hG : ∀ z0, φ z0 → Tm ok (fun i => G i z0) ψ) : Tm ok (fun i => Yn.f (p i) a0 a1 (G i)) ψ := ZK (t := fun k => Yn.t k a0 a1) hp h hG
inductive YY (B : Nat) : Nat → List D → Prop
  | mk {h : Nat} (c0 : Int) (c1 : ByteArray) (c2 : Int) (c3 : List (List D)) (c4 : List (List D)) (k0 : (Lit.int .i64 c0).wf = true) (k1 : c1.size ≤ B) (k2 : (Lit.int .i64 c2).wf = true) (k3 : Zi RS B c3) (k4 : c4.length ≤ B) (m4 : ∀ r ∈ c4, YY B h r) : YY B (h + 1) [.int .i64 c0, .str c1, .int .i64 c2, .sl c3, .sl c4]
def YJ (B : Nat) (r : List D) : Prop := ∃ h, (B ≤ 1099511627776 → h ≤ 1099511627776) ∧ YY B h r
theorem YJ.open {B : Nat} {r : List D} (h : YJ B r) : ∃ (c0 : Int) (c1 : ByteArray) (c2 : Int) (c3 : List (List D)) (c4 : List (List D)), r = [.int .i64 c0, .str c1, .int .i64 c2, .sl c3, .sl c4] ∧ (Lit.int .i64 c0).wf = true ∧ c1.size ≤ B ∧ (Lit.int .i64 c2).wf = true ∧ Zi RS B c3 ∧ Zi YJ B c4 ∧ True := by
  obtain ⟨h, hh, h1⟩ := h
  cases h1 with
  | mk c0 c1 c2 c3 c4 k0 k1 k2 k3 k4 m4 => exact ⟨c0, c1, c2, c3, c4, rfl, k0, k1, k2, k3, ⟨k4, fun r hr => ⟨_, fun hb => by have := hh hb; omega, m4 r hr⟩⟩, trivial⟩
theorem YY.up {B B' : Nat} (hb : B ≤ B') : ∀ {h : Nat} {r : List D}, YY B h r → YY B' h r
  | _ + 1, _, .mk c0 c1 c2 c3 c4 k0 k1 k2 k3 k4 m4 => .mk c0 c1 c2 c3 c4 k0 (Nat.le_trans k1 hb) k2 ⟨Nat.le_trans k3.1 hb, fun r hr => (k3.2 r hr).mono hb⟩ (Nat.le_trans k4 hb) (fun r hr => YY.up hb (m4 r hr))
theorem YJ.mono {B B' : Nat} (hb : B ≤ B') {r : List D} (h : YJ B r) : YJ B' r := by
  obtain ⟨h, hh, h1⟩ := h
  exact ⟨h, fun h2 => hh (Nat.le_trans hb h2), h1.up hb⟩
theorem YY.mono {B : Nat} : ∀ {h h' : Nat} {r : List D}, h ≤ h' → YY B h r → YY B h' r
  | _, 0, _, hl, .mk .. => by omega
  | _ + 1, _ + 1, _, hl, .mk c0 c1 c2 c3 c4 k0 k1 k2 k3 k4 m4 => .mk c0 c1 c2 c3 c4 k0 k1 k2 k3 k4 (fun r hr => YY.mono (by omega) (m4 r hr))
theorem YJ.wide {xs : List (List D)} (h : Zi YJ lim xs) : Zi YJ 2097152 xs := ⟨Nat.le_trans h.1 (by decide), fun r hr => (h.2 r hr).mono (by decide)⟩
theorem YJ.len {B : Nat} {r : List D} (h : YJ B r) : r.length = 5 := by
  obtain ⟨c0, c1, c2, c3, c4, rfl, _⟩ := h.open
  rfl
theorem YJ.gets {B : Nat} {xs : List (List D)} (h : ∀ r ∈ xs, YJ B r) {v : Int} (h0 : 0 ≤ v) (h1 : v < xs.length) : gR xs v = [.int .i64 (gI xs v 0), .str (gS xs v 1), .int .i64 (gI xs v 2), .sl (gL xs v 3), .sl (gL xs v 4)] ∧ (Lit.int .i64 (gI xs v 0)).wf = true ∧ (gS xs v 1).size ≤ B ∧ (Lit.int .i64 (gI xs v 2)).wf = true ∧ Zi RS B (gL xs v 3) ∧ Zi YJ B (gL xs v 4) ∧ True := by
  obtain ⟨c0, c1, c2, c3, c4, e, k0, k1, k2, k3, k4, _⟩ := (h (gR xs v) (gR_mem h0 h1)).open
  unfold gI gL gS
  rw [e]
  exact ⟨rfl, k0, k1, k2, k3, k4, trivial⟩
theorem YJ.rows {B : Nat} {xs : List (List D)} (h : ∀ r ∈ xs, YJ B r) {v : Int} (h0 : 0 ≤ v) (h1 : v < xs.length) {β : Type} (F : List D → Option β) : Zbw xs v F = F [.int .i64 (gI xs v 0), .str (gS xs v 1), .int .i64 (gI xs v 2), .sl (gL xs v 3), .sl (gL xs v 4)] := by
  rw [← (YJ.gets h h0 h1).1]
  exact Zbp h0 h1 F
theorem YJ.get {B : Nat} {xs : List (List D)} (h : Zi YJ B xs) {v : Int} (h0 : 0 ≤ v) (h1 : v < xs.length) : gR xs v = [.int .i64 (gI xs v 0), .str (gS xs v 1), .int .i64 (gI xs v 2), .sl (gL xs v 3), .sl (gL xs v 4)] ∧ (Lit.int .i64 (gI xs v 0)).wf = true ∧ (gS xs v 1).size ≤ B ∧ (Lit.int .i64 (gI xs v 2)).wf = true ∧ Zi RS B (gL xs v 3) ∧ Zi YJ B (gL xs v 4) ∧ True := YJ.gets h.2 h0 h1
theorem YJ.row {B : Nat} {xs : List (List D)} (h : Zi YJ B xs) {v : Int} (h0 : 0 ≤ v) (h1 : v < xs.length) {β : Type} (F : List D → Option β) : Zbw xs v F = F [.int .i64 (gI xs v 0), .str (gS xs v 1), .int .i64 (gI xs v 2), .sl (gL xs v 3), .sl (gL xs v 4)] := YJ.rows h.2 h0 h1 F
theorem YE.tm {ι α : Type} {ok : ι → Prop} {ψ : α → Prop} {p : ι → Nat} {B : Nat} (hp : ∀ i, ok i → B ≤ p i) {aA aB aF aD aC a1 φ} (h : Tm (fun k => B ≤ k) (fun k => YE.t k aA aB aF aD aC a1) φ) {G : ι → Int → Option α} (hG : ∀ z0, φ z0 → Tm ok (fun i => G i z0) ψ) : Tm ok (fun i => YE.f (p i) aA aB aF aD aC a1 (G i)) ψ := ZK (t := fun k => YE.t k aA aB aF aD aC a1) hp h hG
set_option maxRecDepth 100000 in
theorem szVal (n : Nat) : (∀ (left : Int) (a : List (List D)), 0 ≤ left → left ≤ n → left ≤ 1048576 → Zi YJ maxLen a → Tm (fun k => big + 2 * n + 1 ≤ k) (fun k => Yn.t k a left) (fun r => r < 0 ∨ 0 ≤ r ∧ r ≤ left ∧ a.length ≤ lim ∧ (∀ x ∈ a, YY lim (left - r).toNat x) ∧ ((Zp a : Nat) : Int) ≤ 64 * (left - r))) ∧
    (∀ (left c0 : Int) (c1 : ByteArray) (c2 : Int) (c3 c4 : List (List D)), 0 ≤ left → left ≤ n → left ≤ 1048576 → c1.size ≤ maxLen → Zi RS maxLen c3 → Zi YJ maxLen c4 → Tm (fun k => big + 2 * n + 2 ≤ k) (fun k => YE.t k c0 c1 c2 c3 c4 left) (fun r => r < 0 ∨ 0 ≤ r ∧ r ≤ left ∧ c1.size ≤ lim ∧ Zi RS lim c3 ∧ c4.length ≤ lim ∧ (∀ x ∈ c4, YY lim (left - r).toNat x) ∧ ((Zp c3 + Zp c4 : Nat) : Int) ≤ 64 * (left - r))) := by
  have hm := Zy
  have hlim : lim = 1048576 := rfl
  have hb : big = 2 ^ 64 := rfl
  induction n using Nat.strongRecOn with
  | ind n ih =>
  have S : ∀ (left : Int) (a : List (List D)), 0 ≤ left → left ≤ n → left ≤ 1048576 → Zi YJ maxLen a → Tm (fun k => big + 2 * n + 1 ≤ k) (fun k => Yn.t k a left) (fun r => r < 0 ∨ 0 ≤ r ∧ r ≤ left ∧ a.length ≤ lim ∧ (∀ x ∈ a, YY lim (left - r).toNat x) ∧ ((Zp a : Nat) : Int) ≤ 64 * (left - r)) := by
    intro left a h0 h1 h2 g
    have hlen := g.1
    refine Tm.succ (g := fun k => Yn.g k a left (fun z0 => some z0)) (fun k => Yn.t_succ k a left) ?_
    unfold Yn.g Yn.body
    rw [Zj (x := left - a.length) (by omega) (by omega)]
    refine Tm.ite (fun h3 => Tm.ret (.inl (by omega))) (fun h3 => ?_)
    simp only [decide_eq_false_iff_not, Int.not_lt] at h3
    refine Tm.loop (okk := fun k => big + 2 * n ≤ k) (p := fun k => k) (fun i hi => by omega) (b := fun k => Yn.l0 k (Yn.f k) (YE.f k) a (fun z0 => some z0)) (fun v => match v with | (u0, i) => (((a.length : Int)) - i).toNat) (fun v => match v with | (u0, i) => 0 ≤ u0 ∧ u0 ≤ left - a.length ∧ 0 ≤ i ∧ i ≤ (a.length : Int) ∧ (∀ r ∈ a.take i.toNat, YY lim (left - u0).toNat r) ∧ ((Zp (a.take i.toNat) : Nat) : Int) ≤ 64 * (left - a.length - u0 + i)) ?_ ?_ ?_
    · rintro ⟨u0, i⟩ hI
      simp only [] at hI ⊢
      omega
    · exact ⟨by omega, by omega, by omega, by omega, by simp, by simp [Zp]⟩
    · rintro ⟨u0, i⟩ hI L hL
      simp only [] at hI
      obtain ⟨u0a, u0b, i0, i1, hr, hwt⟩ := hI
      simp only [Yn.l0, atR, rdQ, Q.ask]
      refine Tm.ite (fun h4 => ?_) (fun h4 => ?_)
      · simp only [decide_eq_true_eq] at h4
        refine Tm.atRow (by omega) (by omega) (fun x5 hx6 hm7 => ?_)
        obtain ⟨c0, c1, c2, c3, c4, rfl, w0, g1, w2, g3, g4, _⟩ := (g.2 x5 hm7).open
        refine Tm.uncons (Tm.dInt (Tm.uncons (Tm.dStr (Tm.uncons (Tm.dInt (Tm.uncons (Tm.dSl (Tm.uncons (Tm.dSl (Tm.atEnd ?_))))))))))
        refine YE.tm (B := big + 2 * (n - 1) + 2) (fun i hi => by have := hi.1; omega) ((ih (n - 1) (by omega)).2 u0 c0 c1 c2 c3 c4 u0a (by omega) (by omega) g1 g3 g4) (fun y hy => ?_)
        rcases hy with hy | ⟨y0, y1, q1, q3, q4, q5, qw⟩
        · exact Tm.ite (fun _ => Tm.ret (.inl (by omega))) (fun h => by simp at h; omega)
        refine Tm.ite (fun h8 => by simp at h8; omega) (fun h8 => ?_)
        rw [Zj (x := i + 1) (by omega) (by omega)]
        have hwx := wt_take i0 hx6
        simp only [ZbG, wtD] at hwx
        refine hL (y, i + 1) ⟨by omega, by omega, by omega, by omega, take_rows i0 hx6 (fun r hr' => (hr r hr').mono (by omega)) ?_, by omega⟩ (by simp only []; omega)
        exact YY.mono (h := (u0 - y).toNat + 1) (by omega) (.mk _ _ _ _ _ w0 q1 w2 q3 q4 q5)
      · simp only [decide_eq_false_iff_not, Int.not_lt] at h4
        rw [List.take_of_length_le (by omega)] at hwt
        exact Tm.ret (.inr ⟨by omega, by omega, by omega, fun x hx => (ZcD (by omega) hr x hx).mono (by omega), by omega⟩)
  refine ⟨S, ?_⟩
  intro left c0 c1 c2 c3 c4 h0 h1 h2 g1 g3 g4
  refine Tm.succ (g := fun k => YE.g k c0 c1 c2 c3 c4 left (fun z0 => some z0)) (fun k => YE.t_succ k c0 c1 c2 c3 c4 left) ?_
  unfold YE.g YE.body
  rw [Zj (x := left - c1.size) (by omega) (by omega)]
  refine Tm.ite (fun h3 => Tm.ret (.inl (by omega))) (fun h3 => ?_)
  simp only [decide_eq_false_iff_not, Int.not_lt] at h3
  refine Yu.tm (B := big) (fun i hi => by omega) (Yu.T (by omega) (by omega) g3) (fun y hy => ?_)
  rcases hy with hy | ⟨y0, y1, q3, qw, _⟩
  · exact Tm.ite (fun _ => Tm.ret (.inl (by omega))) (fun h => by simp at h; omega)
  refine Tm.ite (fun h8 => by simp at h8; omega) (fun h8 => ?_)
  refine Yn.tm (B := big + 2 * n + 1) (fun i hi => hi) (S y c4 y0 (by omega) (by omega) g4) (fun y' hy' => ?_)
  rcases hy' with hy' | ⟨y0', y1', q4, q5, qw'⟩
  · exact Tm.ite (fun _ => Tm.ret (.inl (by omega))) (fun h => by simp at h; omega)
  refine Tm.ite (fun h8 => by simp at h8; omega) (fun h8 => ?_)
  exact Tm.ret (.inr ⟨by omega, by omega, by omega, q3, q4, fun x hx => (q5 x hx).mono (by omega), by omega⟩)
theorem big_lv1 {n : Nat} (h : n ≤ 4398046511104) : big + n ≤ lv 1 := by
  have hb : big = 2 ^ 64 := rfl
  have : lv 1 = 2 ^ 65 := rfl
  omega
theorem YE.T {aA : Int} {aB : ByteArray} {aF : Int} {aD aC : List (List D)} {a1 : Int} (h0 : 0 ≤ a1) (h1 : a1 ≤ 1048576) (g1 : aB.size ≤ maxLen) (g3 : Zi RS maxLen aD) (g4 : Zi YJ maxLen aC) : Tm (ZF 1) (fun k => YE.t k aA aB aF aD aC a1) (fun r => r < 0 ∨ 0 ≤ r ∧ r ≤ a1 ∧ aB.size ≤ lim ∧ Zi RS lim aD ∧ Zi YJ lim aC ∧ ((Zp aD + Zp aC : Nat) : Int) ≤ 64 * (a1 - r) ∧ True) :=
  (((szVal a1.toNat).2 a1 aA aB aF aD aC h0 (by omega) h1 g1 g3 g4).up (big_lv1 (n := 2 * a1.toNat + 2) (by omega))).mono fun r hr => by
    rcases hr with hr | ⟨r0, r1, r2, r3, r4, r5, r6⟩
    · exact .inl hr
    · exact .inr ⟨r0, r1, r2, r3, ⟨r4, fun x hx => ⟨_, fun _ => by omega, r5 x hx⟩⟩, r6, trivial⟩
theorem Yae.tm {ι α : Type} {ok : ι → Prop} {ψ : α → Prop} {p : ι → Nat} {B : Nat} (hp : ∀ i, ok i → B ≤ p i) {aA aB aF aD aC aX aY a1 φ} (h : Tm (fun k => B ≤ k) (fun k => Yae.t k aA aB aF aD aC aX aY a1) φ) {G : ι → Int → Option α} (hG : ∀ z0, φ z0 → Tm ok (fun i => G i z0) ψ) : Tm ok (fun i => Yae.f (p i) aA aB aF aD aC aX aY a1 (G i)) ψ := ZK (t := fun k => Yae.t k aA aB aF aD aC aX aY a1) hp h hG
theorem Yae.T {aA aB aF : Int} {aD : ByteArray} {aC : Int} {aX aY : List (List D)} {a1 : Int} (h0 : 0 ≤ a1) (h1 : a1 ≤ 1048576) (ga0_3 : aD.size ≤ maxLen) (ga0_5 : Zi RS maxLen aX) (ga0_6 : Zi YJ maxLen aY) : Tm (ZF 1) (fun k => Yae.t k aA aB aF aD aC aX aY a1) (fun r => r < 0 ∨ 0 ≤ r ∧ r ≤ a1 ∧ aD.size ≤ lim ∧ Zi RS lim aX ∧ Zi YJ lim aY ∧ ((Zp aX + Zp aY : Nat) : Int) ≤ 64 * (a1 - r) ∧ True) := by
  unfold Yae.t Yae.g
  have hm := Zy
  have hlim : lim = 1048576 := rfl
  refine YE.tm (fun i hi => hi) (YE.T (by first | assumption | omega) (by first | assumption | omega) (by first | assumption | omega) (by first | assumption | omega) (by first | assumption | omega)) (fun y2 hy1 => ?_)
  rcases hy1 with hy1 | ⟨p7, p8, q3, q4, q5, q6, _⟩
  · exact Tm.ite (fun _ => Tm.ret (by left; omega)) (fun h => by simp at h; omega)
  refine Tm.ite (fun h9 => ?_) (fun h9 => ?_)
  · try simp only [bz0, bz1, bz2, bz3, bz4, bz5, bz6, bz7, bz8, bz9, bza] at h9
    exact Tm.ret (by first | (left; omega) | (right; refine ⟨?_, ?_, ?_, ?_, ?_, ?_, trivial⟩ <;> first | assumption | omega))
  · try simp only [bz0, bz1, bz2, bz3, bz4, bz5, bz6, bz7, bz8, bz9, bza] at h9
    exact Tm.ret (by first | (left; omega) | (right; refine ⟨?_, ?_, ?_, ?_, ?_, ?_, trivial⟩ <;> first | assumption | omega))
theorem YG.tm {ι α : Type} {ok : ι → Prop} {ψ : α → Prop} {p : ι → Nat} {B : Nat} (hp : ∀ i, ok i → B ≤ p i) {a0 a1 φ} (h : Tm (fun k => B ≤ k) (fun k => YG.t k a0 a1) φ) {G : ι → Int → Option α} (hG : ∀ z0, φ z0 → Tm ok (fun i => G i z0) ψ) : Tm ok (fun i => YG.f (p i) a0 a1 (G i)) ψ := ZK (t := fun k => YG.t k a0 a1) hp h hG
def Yc (B : Nat) (r : List D) : Prop := ∃ (c0 : Int) (c1 : Int) (c2 : Int) (c3 : ByteArray) (c4 : Int) (c5 : List (List D)) (c6 : List (List D)), r = [.int .i64 c0, .int .i64 c1, .int .i64 c2, .str c3, .int .i64 c4, .sl c5, .sl c6] ∧ (Lit.int .i64 c0).wf = true ∧ (Lit.int .i64 c1).wf = true ∧ (Lit.int .i64 c2).wf = true ∧ c3.size ≤ B ∧ (Lit.int .i64 c4).wf = true ∧ Zi RS B c5 ∧ Zi YJ B c6 ∧ True
theorem Yc.open {B : Nat} {r : List D} (h : Yc B r) : ∃ (c0 : Int) (c1 : Int) (c2 : Int) (c3 : ByteArray) (c4 : Int) (c5 : List (List D)) (c6 : List (List D)), r = [.int .i64 c0, .int .i64 c1, .int .i64 c2, .str c3, .int .i64 c4, .sl c5, .sl c6] ∧ (Lit.int .i64 c0).wf = true ∧ (Lit.int .i64 c1).wf = true ∧ (Lit.int .i64 c2).wf = true ∧ c3.size ≤ B ∧ (Lit.int .i64 c4).wf = true ∧ Zi RS B c5 ∧ Zi YJ B c6 ∧ True := h
theorem Yc.mono {B B' : Nat} (hb : B ≤ B') {r : List D} (h : Yc B r) : Yc B' r := by
  obtain ⟨c0, c1, c2, c3, c4, c5, c6, rfl, k0, k1, k2, k3, k4, k5, k6, _⟩ := h
  exact ⟨_, _, _, _, _, _, _, rfl, k0, k1, k2, (Nat.le_trans k3 hb), k4, ⟨Nat.le_trans k5.1 hb, fun r hr => (k5.2 r hr).mono hb⟩, ⟨Nat.le_trans k6.1 hb, fun r hr => (k6.2 r hr).mono hb⟩, trivial⟩
theorem Yc.wide {xs : List (List D)} (h : Zi Yc lim xs) : Zi Yc 2097152 xs := ⟨Nat.le_trans h.1 (by decide), fun r hr => (h.2 r hr).mono (by decide)⟩
theorem Yc.len {B : Nat} {r : List D} (h : Yc B r) : r.length = 7 := by
  obtain ⟨c0, c1, c2, c3, c4, c5, c6, rfl, _⟩ := h.open
  rfl
theorem Yc.gets {B : Nat} {xs : List (List D)} (h : ∀ r ∈ xs, Yc B r) {v : Int} (h0 : 0 ≤ v) (h1 : v < xs.length) : gR xs v = [.int .i64 (gI xs v 0), .int .i64 (gI xs v 1), .int .i64 (gI xs v 2), .str (gS xs v 3), .int .i64 (gI xs v 4), .sl (gL xs v 5), .sl (gL xs v 6)] ∧ (Lit.int .i64 (gI xs v 0)).wf = true ∧ (Lit.int .i64 (gI xs v 1)).wf = true ∧ (Lit.int .i64 (gI xs v 2)).wf = true ∧ (gS xs v 3).size ≤ B ∧ (Lit.int .i64 (gI xs v 4)).wf = true ∧ Zi RS B (gL xs v 5) ∧ Zi YJ B (gL xs v 6) ∧ True := by
  obtain ⟨c0, c1, c2, c3, c4, c5, c6, e, k0, k1, k2, k3, k4, k5, k6, _⟩ := (h (gR xs v) (gR_mem h0 h1)).open
  unfold gI gL gS
  rw [e]
  exact ⟨rfl, k0, k1, k2, k3, k4, k5, k6, trivial⟩
theorem Yc.rows {B : Nat} {xs : List (List D)} (h : ∀ r ∈ xs, Yc B r) {v : Int} (h0 : 0 ≤ v) (h1 : v < xs.length) {β : Type} (F : List D → Option β) : Zbw xs v F = F [.int .i64 (gI xs v 0), .int .i64 (gI xs v 1), .int .i64 (gI xs v 2), .str (gS xs v 3), .int .i64 (gI xs v 4), .sl (gL xs v 5), .sl (gL xs v 6)] := by
  rw [← (Yc.gets h h0 h1).1]
  exact Zbp h0 h1 F
theorem Yc.get {B : Nat} {xs : List (List D)} (h : Zi Yc B xs) {v : Int} (h0 : 0 ≤ v) (h1 : v < xs.length) : gR xs v = [.int .i64 (gI xs v 0), .int .i64 (gI xs v 1), .int .i64 (gI xs v 2), .str (gS xs v 3), .int .i64 (gI xs v 4), .sl (gL xs v 5), .sl (gL xs v 6)] ∧ (Lit.int .i64 (gI xs v 0)).wf = true ∧ (Lit.int .i64 (gI xs v 1)).wf = true ∧ (Lit.int .i64 (gI xs v 2)).wf = true ∧ (gS xs v 3).size ≤ B ∧ (Lit.int .i64 (gI xs v 4)).wf = true ∧ Zi RS B (gL xs v 5) ∧ Zi YJ B (gL xs v 6) ∧ True := Yc.gets h.2 h0 h1
theorem Yc.row {B : Nat} {xs : List (List D)} (h : Zi Yc B xs) {v : Int} (h0 : 0 ≤ v) (h1 : v < xs.length) {β : Type} (F : List D → Option β) : Zbw xs v F = F [.int .i64 (gI xs v 0), .int .i64 (gI xs v 1), .int .i64 (gI xs v 2), .str (gS xs v 3), .int .i64 (gI xs v 4), .sl (gL xs v 5), .sl (gL xs v 6)] := Yc.rows h.2 h0 h1 F
set_option maxRecDepth 100000 in
theorem YG.T {a0 : List (List D)} {a1 : Int} (h0 : 0 ≤ a1) (h1 : a1 ≤ 1048576) (ga0 : Zi Yc maxLen a0) : Tm (ZF 1) (fun k => YG.t k a0 a1) (fun r => r < 0 ∨ 0 ≤ r ∧ r ≤ a1 ∧ Zi Yc lim a0 ∧ ((Zp a0 : Nat) : Int) ≤ 64 * (a1 - r) ∧ True) := by
  unfold YG.t YG.g
  have hm := Zy
  have hlim : lim = 1048576 := rfl
  have hlen := ga0.1
  try rw [Zj (x := a1 - (a0.length : Int)) (by omega) (by omega)]
  refine Tm.ite (fun h1 => ?_) (fun h1 => ?_)
  · try simp only [bz0, bz1, bz2, bz3, bz4, bz5, bz6, bz7, bz8, bz9, bza] at h1
    exact Tm.ret (by first | (left; omega) | (right; refine ⟨?_, ?_, ?_, ?_, trivial⟩ <;> first | assumption | omega))
  · try simp only [bz0, bz1, bz2, bz3, bz4, bz5, bz6, bz7, bz8, bz9, bza] at h1
    refine Tm.loop (okk := (ZF 1)) (p := fun k => k) (fun i hi => up0 hi) (b := fun k => YG.l0 k a0 (fun z0 => some z0)) (fun v => match v with | (u0, i) => (((a0.length : Int)) - i).toNat) (fun v => match v with | (u0, i) => 0 ≤ u0 ∧ u0 ≤ a1 ∧ 0 ≤ i ∧ i ≤ (a0.length : Int) ∧ (∀ r ∈ a0.take i.toNat, Yc lim r) ∧ ((Zp (a0.take i.toNat) : Nat) : Int) ≤ 64 * (a1 - a0.length - u0 + i)) ?_ ?_ ?_
    · rintro ⟨u0, i⟩ hI
      try simp only [] at hI ⊢
      have : big = 2 ^ 64 := rfl
      have := ga0.1
      omega
    · exact ⟨by omega, by omega, by omega, by simp, by simp, by simp [Zp]⟩
    · rintro ⟨u0, i⟩ hI L hL
      try simp only [] at hI
      obtain ⟨u0a, u0b, i0, i1, hr, hwt⟩ := hI
      simp only [YG.l0, atR, rdQ, Q.ask]
      refine Tm.ite (fun h2 => ?_) (fun h2 => ?_)
      · try simp only [bz0, bz1, bz2, bz3, bz4, bz5, bz6, bz7, bz8, bz9, bza] at h2
        refine Tm.atRow (by first | assumption | omega) (by first | assumption | omega) (fun x3 hx4 hm5 => ?_)
        obtain ⟨c6, c7, c8, c9, c10, c11, c12, rfl, g13, g14, g15, g16, g17, g18, g19, _⟩ := (ga0.2 x3 hm5).open
        refine Tm.uncons ?_
        refine Tm.dInt ?_
        refine Tm.uncons ?_
        refine Tm.dInt ?_
        refine Tm.uncons ?_
        refine Tm.dInt ?_
        refine Tm.uncons ?_
        refine Tm.dStr ?_
        refine Tm.uncons ?_
        refine Tm.dInt ?_
        refine Tm.uncons ?_
        refine Tm.dSl ?_
        refine Tm.uncons ?_
        refine Tm.dSl ?_
        refine Tm.atEnd ?_
        refine Yae.tm (fun i hi => hi.1) (Yae.T (by first | assumption | omega) (by first | assumption | omega) (by first | assumption | omega) (by first | assumption | omega) (by first | assumption | omega)) (fun y21 hy20 => ?_)
        rcases hy20 with hy20 | ⟨p26, p27, q22, q23, q24, q25, _⟩
        · exact Tm.ite (fun _ => Tm.ret (by left; omega)) (fun h => by simp at h; omega)
        refine Tm.ite (fun h28 => ?_) (fun h28 => ?_)
        · try simp only [bz0, bz1, bz2, bz3, bz4, bz5, bz6, bz7, bz8, bz9, bza] at h28
          exact Tm.ret (by first | (left; omega) | (rw [List.take_of_length_le (by omega)] at hwt; exact .inr ⟨by omega, by omega, ⟨by simp only [lim]; omega, ZcD (by omega) hr⟩, by omega, trivial⟩))
        · try simp only [bz0, bz1, bz2, bz3, bz4, bz5, bz6, bz7, bz8, bz9, bza] at h28
          try rw [Zj (x := i + 1) (by omega) (by omega)]
          have hwx := wt_take i0 hx4
          simp only [ZbG, wtD] at hwx
          refine hL (y21, (i + 1)) ⟨by omega, by omega, by omega, by omega, take_rows i0 hx4 hr ⟨_, _, _, _, _, _, _, rfl, by first | assumption | omega, by first | assumption | omega, by first | assumption | omega, by first | assumption | omega, by first | assumption | omega, by first | assumption | omega, by first | assumption | omega, trivial⟩, by omega⟩ (by (try simp only []); omega)
      · try simp only [bz0, bz1, bz2, bz3, bz4, bz5, bz6, bz7, bz8, bz9, bza] at h2
        exact Tm.ret (by first | (left; omega) | (rw [List.take_of_length_le (by omega)] at hwt; exact .inr ⟨by omega, by omega, ⟨by simp only [lim]; omega, ZcD (by omega) hr⟩, by omega, trivial⟩))
theorem Yaf.tm {ι α : Type} {ok : ι → Prop} {ψ : α → Prop} {p : ι → Nat} {B : Nat} (hp : ∀ i, ok i → B ≤ p i) {a0 a1 φ} (h : Tm (fun k => B ≤ k) (fun k => Yaf.t k a0 a1) φ) {G : ι → Int → Option α} (hG : ∀ z0, φ z0 → Tm ok (fun i => G i z0) ψ) : Tm ok (fun i => Yaf.f (p i) a0 a1 (G i)) ψ := ZK (t := fun k => Yaf.t k a0 a1) hp h hG
def RII (B : Nat) (r : List D) : Prop := ∃ (c0 : Int) (c1 : Int), r = [.int .i64 c0, .int .i64 c1] ∧ (Lit.int .i64 c0).wf = true ∧ (Lit.int .i64 c1).wf = true ∧ True
theorem RII.open {B : Nat} {r : List D} (h : RII B r) : ∃ (c0 : Int) (c1 : Int), r = [.int .i64 c0, .int .i64 c1] ∧ (Lit.int .i64 c0).wf = true ∧ (Lit.int .i64 c1).wf = true ∧ True := h
theorem RII.mono {B B' : Nat} (hb : B ≤ B') {r : List D} (h : RII B r) : RII B' r := by
  obtain ⟨c0, c1, rfl, k0, k1, _⟩ := h
  exact ⟨_, _, rfl, k0, k1, trivial⟩
theorem RII.wide {xs : List (List D)} (h : Zi RII lim xs) : Zi RII 2097152 xs := ⟨Nat.le_trans h.1 (by decide), fun r hr => (h.2 r hr).mono (by decide)⟩
theorem RII.len {B : Nat} {r : List D} (h : RII B r) : r.length = 2 := by
  obtain ⟨c0, c1, rfl, _⟩ := h.open
  rfl
theorem RII.flat {B : Nat} {xs : List (List D)} (h : ∀ r ∈ xs, RII B r) : ZaZ 2 xs := fun r hr => by
  obtain ⟨c0, c1, rfl, _⟩ := (h r hr).open
  exact ⟨rfl, by simp [Zau]⟩
theorem RII.wt {B : Nat} {xs : List (List D)} (h : ∀ r ∈ xs, RII B r) : Zp xs = 2 * xs.length := wt_flat (R := RII B) (fun r h => by obtain ⟨c0, c1, rfl, _⟩ := h; rfl) xs h
theorem RII.deep {B : Nat} {xs : List (List D)} (h : ∀ r ∈ xs, RII B r) : Zb xs = xs.map (·.map C.d) := deep_flat (R := RII B) (fun r h => by obtain ⟨c0, c1, rfl, _⟩ := h; rfl) xs h
theorem RII.gets {B : Nat} {xs : List (List D)} (h : ∀ r ∈ xs, RII B r) {v : Int} (h0 : 0 ≤ v) (h1 : v < xs.length) : gR xs v = [.int .i64 (gI xs v 0), .int .i64 (gI xs v 1)] ∧ (Lit.int .i64 (gI xs v 0)).wf = true ∧ (Lit.int .i64 (gI xs v 1)).wf = true ∧ True := by
  obtain ⟨c0, c1, e, k0, k1, _⟩ := (h (gR xs v) (gR_mem h0 h1)).open
  unfold gI
  rw [e]
  exact ⟨rfl, k0, k1, trivial⟩
theorem RII.rows {B : Nat} {xs : List (List D)} (h : ∀ r ∈ xs, RII B r) {v : Int} (h0 : 0 ≤ v) (h1 : v < xs.length) {β : Type} (F : List D → Option β) : Zbw xs v F = F [.int .i64 (gI xs v 0), .int .i64 (gI xs v 1)] := by
  rw [← (RII.gets h h0 h1).1]
  exact Zbp h0 h1 F
theorem RII.get {B : Nat} {xs : List (List D)} (h : Zi RII B xs) {v : Int} (h0 : 0 ≤ v) (h1 : v < xs.length) : gR xs v = [.int .i64 (gI xs v 0), .int .i64 (gI xs v 1)] ∧ (Lit.int .i64 (gI xs v 0)).wf = true ∧ (Lit.int .i64 (gI xs v 1)).wf = true ∧ True := RII.gets h.2 h0 h1
theorem RII.row {B : Nat} {xs : List (List D)} (h : Zi RII B xs) {v : Int} (h0 : 0 ≤ v) (h1 : v < xs.length) {β : Type} (F : List D → Option β) : Zbw xs v F = F [.int .i64 (gI xs v 0), .int .i64 (gI xs v 1)] := RII.rows h.2 h0 h1 F
theorem Yaf.T {a0 : List (List D)} {a1 : Int} (h0 : 0 ≤ a1) (h1 : a1 ≤ 1048576) (ga0 : Zi RII maxLen a0) : Tm Z3 (fun k => Yaf.t k a0 a1) (fun r => r < 0 ∨ 0 ≤ r ∧ r ≤ a1 ∧ Zi RII lim a0 ∧ ((Zp a0 : Nat) : Int) ≤ 64 * (a1 - r) ∧ True) := by
  unfold Yaf.t Yaf.g
  have hm := Zy
  have hlim : lim = 1048576 := rfl
  have hlen := ga0.1
  try rw [Zj (x := a1 - (a0.length : Int)) (by omega) (by omega)]
  refine Tm.ite (fun h1 => ?_) (fun h1 => ?_)
  · try simp only [bz0, bz1, bz2, bz3, bz4, bz5, bz6, bz7, bz8, bz9, bza] at h1
    exact Tm.ret (by first | (left; omega) | exact .inr ⟨by omega, by omega, ⟨by simp only [lim]; omega, fun r hr => ga0.2 r hr⟩, by rw [RII.wt ga0.2]; omega, trivial⟩)
  · try simp only [bz0, bz1, bz2, bz3, bz4, bz5, bz6, bz7, bz8, bz9, bza] at h1
    exact Tm.ret (by first | (left; omega) | exact .inr ⟨by omega, by omega, ⟨by simp only [lim]; omega, fun r hr => ga0.2 r hr⟩, by rw [RII.wt ga0.2]; omega, trivial⟩)
def ofP (l : List (Int × Int)) : List (List D) := l.map fun p => [.int .i64 p.1, .int .i64 p.2]
def upP (l : List (Int × Int)) : List (List C) := l.map fun p => [.d (.int .i64 p.1), .d (.int .i64 p.2)]
theorem ofP_up (l : List (Int × Int)) : (ofP l).map (·.map C.d) = upP l := by simp [ofP, upP]
theorem Yap (l : List (Int × Int)) : (ofP l).length = l.length := by simp [ofP]
theorem Yas (l : List (Int × Int)) : (upP l).length = l.length := by simp [upP]
theorem upP_app (a b : List (Int × Int)) : upP a ++ upP b = upP (a ++ b) := by simp [upP]
theorem imm_upP : ∀ l : List (Int × Int), C.immRows (upP l) = ofP l
  | [] => rfl
  | p :: l => by simp only [upP, ofP, List.map_cons, C.immRows, C.immCells, C.imm]; exact congrArg _ (imm_upP l)
theorem deep_ofP : ∀ l : List (Int × Int), Zb (ofP l) = upP l
  | [] => rfl
  | p :: l => by simp only [upP, ofP, List.map_cons, Zb, ZZ, ZbW]; exact congrArg _ (deep_ofP l)
theorem ofP_of : ∀ {a : List (List D)}, (∀ r ∈ a, RII lim r) → ∃ l, a = ofP l
  | [], _ => ⟨[], rfl⟩
  | r :: a, h => by
    obtain ⟨l, rfl⟩ := ofP_of (a := a) fun x hx => h x (by simp [hx])
    obtain ⟨u, n, rfl, _⟩ := (h r (by simp)).open
    exact ⟨(u, n) :: l, rfl⟩
theorem ofP_ok {B : Nat} {l : List (Int × Int)} (h : l.length ≤ B) (hw : ∀ p ∈ l, (Lit.int .i64 p.1).wf = true ∧ (Lit.int .i64 p.2).wf = true) : Zi RII B (ofP l) := ⟨by rw [Yap]; exact h, fun r hr => by
  simp only [ofP, List.mem_map] at hr
  obtain ⟨p, hp, rfl⟩ := hr
  exact ⟨p.1, p.2, rfl, (hw p hp).1, (hw p hp).2, trivial⟩⟩
theorem ofP_wf {l : List (Int × Int)} (h : Zi RII lim (ofP l)) : ∀ p ∈ l, (Lit.int .i64 p.1).wf = true ∧ (Lit.int .i64 p.2).wf = true := fun p hp => by
  obtain ⟨u, n, e, h1, h2, _⟩ := (h.2 [.int .i64 p.1, .int .i64 p.2] (by simp only [ofP, List.mem_map]; exact ⟨p, hp, rfl⟩)).open
  injection e with e1 e2
  injection e2 with e2
  injection e1 with _ e1
  injection e2 with _ e2
  subst e1 e2
  exact ⟨h1, h2⟩
theorem gR_ofP {l : List (Int × Int)} {i : Nat} (h : i < l.length) : gR (ofP l) (i : Int) = [.int .i64 l[i].1, .int .i64 l[i].2] := by
  have := gR_at (xs := ofP l) (v := (i : Int)) (by omega) (by rw [Yap]; omega)
  rw [Int.toNat_natCast, List.getElem?_eq_getElem (by rw [Yap]; exact h)] at this
  injection this with this
  rw [← this]
  simp [ofP]
theorem gI_ofP0 {l : List (Int × Int)} {i : Nat} (h : i < l.length) : gI (ofP l) (i : Int) 0 = l[i].1 := by
  unfold gI
  rw [gR_ofP h]
  rfl
theorem gI_ofP1 {l : List (Int × Int)} {i : Nat} (h : i < l.length) : gI (ofP l) (i : Int) 1 = l[i].2 := by
  unfold gI
  rw [gR_ofP h]
  rfl
theorem Yar {l : List (Int × Int)} {i : Nat} (h : i < l.length) {β : Type} (F : List D → Option β) : Zbw (ofP l) (i : Int) F = F [.int .i64 l[i].1, .int .i64 l[i].2] := by
  rw [← gR_ofP h]
  exact Zbp (by omega) (by rw [Yap]; omega) F
theorem atRow_ofPI {l : List (Int × Int)} {v : Int} {i : Nat} (hv : v = (i : Int)) (h : i < l.length) {β : Type} (F : List D → Option β) : Zbw (ofP l) v F = F [.int .i64 l[i].1, .int .i64 l[i].2] := by
  subst hv
  exact Yar h F
def Yaq (uid n : Int) : Bool → List (Int × Int) → List (Int × Int)
  | put, [] => if put then [] else [(uid, n)]
  | put, x :: l => (if put = false ∧ uid ≤ x.1 then [(uid, n)] else []) ++ ((if x.1 = uid then [] else [x]) ++ Yaq uid n (put || decide (uid ≤ x.1)) l)
theorem putR_true {uid n : Int} : ∀ {l : List (Int × Int)}, (∀ p ∈ l, p.1 ≠ uid) → Yaq uid n true l = l
  | [], _ => rfl
  | x :: l, h => by
    have hx := h x (by simp)
    simp only [Yaq, Bool.true_or]
    rw [putR_true fun p hp => h p (by simp [hp])]
    simp [hx]
def Asc (l : List (Int × Int)) : Prop := l.Pairwise fun p q => p.1 < q.1
theorem putR_drop {uid n : Int} {A B : List (Int × Int)} {m : Int} (h : Asc (A ++ (uid, m) :: B)) : Yaq uid n true (A ++ (uid, m) :: B) = A ++ B := by
  have h' := List.pairwise_append.mp h
  have hB : ∀ p ∈ B, p.1 ≠ uid := fun p hp e => by
    have := (List.pairwise_cons.mp h'.2.1).1 p hp
    simp only [] at this
    omega
  induction A with
  | nil => simp only [List.nil_append, Yaq, Bool.true_or]; rw [putR_true hB]; simp
  | cons x A ih =>
    have hx : x.1 ≠ uid := fun e => by
      have := h'.2.2 x (by simp) (uid, m) (by simp)
      simp only [] at this
      omega
    simp only [List.cons_append, Yaq, Bool.true_or]
    rw [ih (List.pairwise_cons.mp h).2 (List.pairwise_append.mp (List.pairwise_cons.mp h).2)]
    simp [hx]
theorem putR_set {uid n : Int} {A B : List (Int × Int)} {m : Int} (h : Asc (A ++ (uid, m) :: B)) : Yaq uid n false (A ++ (uid, m) :: B) = A ++ (uid, n) :: B := by
  have h' := List.pairwise_append.mp h
  have hB : ∀ p ∈ B, p.1 ≠ uid := fun p hp e => by
    have := (List.pairwise_cons.mp h'.2.1).1 p hp
    simp only [] at this
    omega
  induction A with
  | nil => simp only [List.nil_append, Yaq, Bool.false_or, Int.le_refl, decide_true]; rw [putR_true hB]; simp
  | cons x A ih =>
    have hx : x.1 < uid := by
      have := h'.2.2 x (by simp) (uid, m) (by simp)
      simpa using this
    simp only [List.cons_append, Yaq, Bool.false_or]
    rw [decide_eq_false (show ¬ uid ≤ x.1 by omega), ih (List.pairwise_cons.mp h).2 (List.pairwise_append.mp (List.pairwise_cons.mp h).2)]
    simp [show ¬ uid ≤ x.1 by omega, show ¬ x.1 = uid by omega]
theorem putR_new {uid n : Int} {A B : List (Int × Int)} (hA : ∀ p ∈ A, p.1 < uid) (hB : ∀ p ∈ B, uid < p.1) : Yaq uid n false (A ++ B) = A ++ (uid, n) :: B := by
  induction A with
  | nil =>
    cases B with
    | nil => rfl
    | cons x B =>
      have hx := hB x (by simp)
      simp only [List.nil_append, Yaq, Bool.false_or]
      rw [decide_eq_true (show uid ≤ x.1 by omega), putR_true fun p hp e => by have := hB p (by simp [hp]); omega]
      simp [show uid ≤ x.1 by omega, show ¬ x.1 = uid by omega]
  | cons x A ih =>
    have hx := hA x (by simp)
    simp only [List.cons_append, Yaq, Bool.false_or]
    rw [decide_eq_false (show ¬ uid ≤ x.1 by omega), ih fun p hp => hA p (by simp [hp])]
    simp [show ¬ uid ≤ x.1 by omega, show ¬ x.1 = uid by omega]
theorem putR_lenT {uid n : Int} : ∀ (l : List (Int × Int)), (Yaq uid n true l).length ≤ l.length
  | [] => by simp [Yaq]
  | x :: l => by
    have := putR_lenT (uid := uid) (n := n) l
    by_cases h2 : x.1 = uid
    · simp [Yaq, h2]; omega
    · simp [Yaq, h2]; omega
theorem putR_len {uid n : Int} : ∀ (b : Bool) (l : List (Int × Int)), (Yaq uid n b l).length ≤ l.length + 1
  | true, l => Nat.le_succ_of_le (putR_lenT l)
  | false, [] => by simp [Yaq]
  | false, x :: l => by
    have h1 := putR_lenT (uid := uid) (n := n) l
    have h3 := putR_len (uid := uid) (n := n) false l
    by_cases h : uid ≤ x.1
    · by_cases h2 : x.1 = uid
      · simp [Yaq, h, h2]; omega
      · simp [Yaq, h, h2]; omega
    · have h2 : ¬ x.1 = uid := by omega
      simp [Yaq, h, h2]; omega
theorem putR_mem {uid n : Int} {p : Int × Int} : ∀ {b : Bool} {l : List (Int × Int)}, p ∈ Yaq uid n b l → p = (uid, n) ∨ p ∈ l
  | b, [], h => by cases b <;> simp [Yaq] at h; exact .inl h
  | b, x :: l, h => by
    simp only [Yaq, List.mem_append] at h
    rcases h with h | h | h
    · split at h
      · simp at h; exact .inl h
      · simp at h
    · split at h
      · simp at h
      · simp at h; exact .inr (by simp [h])
    · rcases putR_mem h with q | q
      · exact .inl q
      · exact .inr (by simp [q])
theorem Yag.tm {ι α : Type} {ok : ι → Prop} {ψ : α → Prop} {p : ι → Nat} {B : Nat} (hp : ∀ i, ok i → B ≤ p i) {aA aB aF aD aC a1 φ} (h : Tm (fun k => B ≤ k) (fun k => Yag.t k aA aB aF aD aC a1) φ) {G : ι → Int → Option α} (hG : ∀ z0, φ z0 → Tm ok (fun i => G i z0) ψ) : Tm ok (fun i => Yag.f (p i) aA aB aF aD aC a1 (G i)) ψ := ZK (t := fun k => Yag.t k aA aB aF aD aC a1) hp h hG
theorem Yag.T {aA : ByteArray} {aB aF : Int} {aD aC : List (List D)} {a1 : Int} (h0 : 0 ≤ a1) (h1 : a1 ≤ 1048576) (ga0_0 : aA.size ≤ maxLen) (ga0_3 : Zi Yc maxLen aD) (ga0_4 : Zi RII maxLen aC) : Tm (ZF 1) (fun k => Yag.t k aA aB aF aD aC a1) (fun r => r < 0 ∨ 0 ≤ r ∧ r ≤ a1 ∧ aA.size ≤ lim ∧ Zi Yc lim aD ∧ Zi RII lim aC ∧ ((Zp aD + Zp aC : Nat) : Int) ≤ 64 * (a1 - r) ∧ True) := by
  unfold Yag.t Yag.g
  have hm := Zy
  have hlim : lim = 1048576 := rfl
  try rw [Zj (x := a1 - (aA.size : Int)) (by omega) (by omega)]
  refine Tm.ite (fun h1 => ?_) (fun h1 => ?_)
  · try simp only [bz0, bz1, bz2, bz3, bz4, bz5, bz6, bz7, bz8, bz9, bza] at h1
    exact Tm.ret (by first | (left; omega) | (right; refine ⟨?_, ?_, ?_, ?_, ?_, ?_, trivial⟩ <;> first | assumption | omega))
  · try simp only [bz0, bz1, bz2, bz3, bz4, bz5, bz6, bz7, bz8, bz9, bza] at h1
    refine YG.tm (fun i hi => hi) (YG.T (by first | assumption | omega) (by first | assumption | omega) (by first | assumption | omega)) (fun y3 hy2 => ?_)
    rcases hy2 with hy2 | ⟨p6, p7, q4, q5, _⟩
    · exact Tm.ite (fun _ => Tm.ret (by left; omega)) (fun h => by simp at h; omega)
    refine Tm.ite (fun h8 => ?_) (fun h8 => ?_)
    · try simp only [bz0, bz1, bz2, bz3, bz4, bz5, bz6, bz7, bz8, bz9, bza] at h8
      exact Tm.ret (by first | (left; omega) | (right; refine ⟨?_, ?_, ?_, ?_, ?_, ?_, trivial⟩ <;> first | assumption | omega))
    · try simp only [bz0, bz1, bz2, bz3, bz4, bz5, bz6, bz7, bz8, bz9, bza] at h8
      refine Yaf.tm (fun i hi => up0 hi) (Yaf.T (by first | assumption | omega) (by first | assumption | omega) (by first | assumption | omega)) (fun y10 hy9 => ?_)
      rcases hy9 with hy9 | ⟨p13, p14, q11, q12, _⟩
      · exact Tm.ite (fun _ => Tm.ret (by left; omega)) (fun h => by simp at h; omega)
      refine Tm.ite (fun h15 => ?_) (fun h15 => ?_)
      · try simp only [bz0, bz1, bz2, bz3, bz4, bz5, bz6, bz7, bz8, bz9, bza] at h15
        exact Tm.ret (by first | (left; omega) | (right; refine ⟨?_, ?_, ?_, ?_, ?_, ?_, trivial⟩ <;> first | assumption | omega))
      · try simp only [bz0, bz1, bz2, bz3, bz4, bz5, bz6, bz7, bz8, bz9, bza] at h15
        exact Tm.ret (by first | (left; omega) | (right; refine ⟨?_, ?_, ?_, ?_, ?_, ?_, trivial⟩ <;> first | assumption | omega))
theorem Yt.tm {ι α : Type} {ok : ι → Prop} {ψ : α → Prop} {p : ι → Nat} {B : Nat} (hp : ∀ i, ok i → B ≤ p i) {a0 φ} (h : Tm (fun k => B ≤ k) (fun k => Yt.t k a0) φ) {G : ι → (List (List C)) → Option α} (hG : ∀ z0, φ z0 → Tm ok (fun i => G i z0) ψ) : Tm ok (fun i => Yt.f (p i) a0 (G i)) ψ := ZK (t := fun k => Yt.t k a0) hp h hG
set_option maxRecDepth 100000 in
theorem Yt.T {a0 : List (List D)} (ga0 : Zi RS lim a0) : Tm Z3 (fun k => Yt.t k a0) (fun z => z = Zb a0 ∧ True) := by
  unfold Yt.t Yt.g
  have hm := Zy
  have hlim : lim = 1048576 := rfl
  have hlen := ga0.1
  refine Tm.guard (by first | omega | (simp only [lim, Zy, ZN] at *; omega) | (simp only [lim, ZN] at *; refine ⟨?_, ?_, ?_, ?_⟩ <;> omega)) ?_
  refine Tm.loop (okk := Z3) (p := fun k => k) (fun i hi => hi) (b := fun k => Yt.l0 k a0 (fun z0 => some z0)) (fun v => match v with | (i, u1) => (((a0.length : Int)) - i).toNat) (fun v => match v with | (i, u1) => 0 ≤ i ∧ i ≤ (a0.length : Int) ∧ Zbq a0 ([.d (.str (⟨#[]⟩ : ByteArray))] : List C) i u1) ?_ ?_ ?_
  · rintro ⟨i, u1⟩ hI
    try simp only [] at hI ⊢
    have : big = 2 ^ 64 := rfl
    have := ga0.1
    simp only [lim] at this
    omega
  · exact ⟨by omega, by simp, Zbq.start _ _⟩
  · rintro ⟨i, u1⟩ hI L hL
    try simp only [] at hI
    obtain ⟨i0, i1, hF⟩ := hI
    have hFl := hF.len i1
    simp only [Yt.l0, atR, rdQ, Q.ask]
    refine Tm.ite (fun h1 => ?_) (fun h1 => ?_)
    · try simp only [bz0, bz1, bz2, bz3, bz4, bz5, bz6, bz7, bz8, bz9, bza] at h1
      refine Tm.atRow (by first | assumption | omega) (by first | assumption | omega) (fun x2 hx3 hm4 => ?_)
      obtain ⟨c5, rfl, g6, _⟩ := (ga0.2 x2 hm4).open
      refine Tm.uncons ?_
      refine Tm.dStr ?_
      refine Tm.atEnd ?_
      refine Tm.guard (by first | omega | (simp only [lim, Zy, ZN] at *; omega) | (simp only [lim, ZN] at *; refine ⟨?_, ?_, ?_, ?_⟩ <;> omega)) ?_
      refine Tm.guard (by first | omega | (simp only [lim, Zy, ZN] at *; omega) | (simp only [lim, ZN] at *; refine ⟨?_, ?_, ?_, ?_⟩ <;> omega)) ?_
      try rw [Zj (x := i + 1) (by omega) (by omega)]
      refine hL (_, _) ⟨by omega, by omega, hF.next i0 hx3 rfl (by simp [ZZ, ZbW])⟩ (by (try simp only []); omega)
    · try simp only [bz0, bz1, bz2, bz3, bz4, bz5, bz6, bz7, bz8, bz9, bza] at h1
      exact Tm.ret (by exact ⟨hF.all (by omega), trivial⟩)
theorem Yl.tm {ι α : Type} {ok : ι → Prop} {ψ : α → Prop} {p : ι → Nat} {B : Nat} (hp : ∀ i, ok i → B ≤ p i) {a0 φ} (h : Tm (fun k => B ≤ k) (fun k => Yl.t k a0) φ) {G : ι → (List (List C)) → Option α} (hG : ∀ z0, φ z0 → Tm ok (fun i => G i z0) ψ) : Tm ok (fun i => Yl.f (p i) a0 (G i)) ψ := ZK (t := fun k => Yl.t k a0) hp h hG
theorem YD.tm {ι α : Type} {ok : ι → Prop} {ψ : α → Prop} {p : ι → Nat} {B : Nat} (hp : ∀ i, ok i → B ≤ p i) {aA aB aF aD aC φ} (h : Tm (fun k => B ≤ k) (fun k => YD.t k aA aB aF aD aC) φ) {G : ι → Int → ByteArray → Int → (List (List C)) → (List (List C)) → Option α} (hG : ∀ z0 z1 z2 z3 z4, φ (z0, z1, z2, z3, z4) → Tm ok (fun i => G i z0 z1 z2 z3 z4) ψ) : Tm ok (fun i => YD.f (p i) aA aB aF aD aC (G i)) ψ := bd5_tm (t := fun k => YD.t k aA aB aF aD aC) hp h hG
set_option maxRecDepth 100000 in
theorem toVal (n : Nat) : (∀ (a : List (List D)), a.length ≤ lim → (∀ x ∈ a, YY lim n x) → Tm (fun k => big + 2 * n + 1 ≤ k) (fun k => Yl.t k a) (fun z => z = Zb a)) ∧
    (∀ (c0 : Int) (c1 : ByteArray) (c2 : Int) (c3 c4 : List (List D)), c1.size ≤ lim → Zi RS lim c3 → c4.length ≤ lim → (∀ x ∈ c4, YY lim n x) → Tm (fun k => big + 2 * n + 2 ≤ k) (fun k => YD.t k c0 c1 c2 c3 c4) (fun z => z.1 = c0 ∧ z.2.1 = c1 ∧ z.2.2.1 = c2 ∧ z.2.2.2.1 = Zb c3 ∧ z.2.2.2.2 = Zb c4)) := by
  have hm : ZN = 2 ^ 36 := rfl
  have hlim : lim = 1048576 := rfl
  have hb : big = 2 ^ 64 := rfl
  induction n using Nat.strongRecOn with
  | ind n ih =>
  have S : ∀ (a : List (List D)), a.length ≤ lim → (∀ x ∈ a, YY lim n x) → Tm (fun k => big + 2 * n + 1 ≤ k) (fun k => Yl.t k a) (fun z => z = Zb a) := by
    intro a hlen g
    refine Tm.succ (g := fun k => Yl.g k a (fun z0 => some z0)) (fun k => Yl.t_succ k a) ?_
    unfold Yl.g Yl.body Yl.m
    refine Tm.guard ⟨by omega, by omega, by omega, by omega⟩ ?_
    refine Tm.loop (okk := fun k => big + 2 * n ≤ k) (p := fun k => k) (fun i hi => by omega) (b := fun k => Yl.l0 k (Yl.f k) (YD.f k) a (fun z0 => some z0)) (fun v => match v with | (i, u1) => (((a.length : Int)) - i).toNat) (fun v => match v with | (i, u1) => 0 ≤ i ∧ i ≤ (a.length : Int) ∧ Zbq a ([.d (.int .i64 0), .d (.str (⟨#[]⟩ : ByteArray)), .d (.int .i64 0), .own ([] : List (List C)), .own ([] : List (List C))] : List C) i u1) ?_ ?_ ?_
    · rintro ⟨i, u1⟩ hI
      simp only [] at hI ⊢
      omega
    · exact ⟨by omega, by simp, Zbq.start _ _⟩
    · rintro ⟨i, u1⟩ hI L hL
      simp only [] at hI
      obtain ⟨i0, i1, hF⟩ := hI
      have hFl := hF.len i1
      simp only [Yl.l0, atR, rdQ, Q.ask]
      refine Tm.ite (fun h4 => ?_) (fun h4 => ?_)
      · simp only [decide_eq_true_eq] at h4
        refine Tm.atRow (by omega) (by omega) (fun x5 hx6 hm7 => ?_)
        obtain ⟨n', hn', c0, c1, c2, c3, c4, rfl, w0, g1, w2, g3, l4, g4⟩ : ∃ n', n = n' + 1 ∧ ∃ c0 c1 c2 c3 c4, x5 = [.int .i64 c0, .str c1, .int .i64 c2, .sl c3, .sl c4] ∧ (Lit.int .i64 c0).wf = true ∧ c1.size ≤ lim ∧ (Lit.int .i64 c2).wf = true ∧ Zi RS lim c3 ∧ c4.length ≤ lim ∧ ∀ x ∈ c4, YY lim n' x := by
          have := g x5 hm7
          cases this with
          | mk c0 c1 c2 c3 c4 w0 g1 w2 g3 l4 g4 => exact ⟨_, rfl, _, _, _, _, _, rfl, w0, g1, w2, g3, l4, g4⟩
        refine Tm.uncons (Tm.dInt (Tm.uncons (Tm.dStr (Tm.uncons (Tm.dInt (Tm.uncons (Tm.dSl (Tm.uncons (Tm.dSl (Tm.atEnd ?_))))))))))
        refine YD.tm (B := big + 2 * n' + 2) (fun i hi => by have := hi.1; omega) ((ih n' (by omega)).2 c0 c1 c2 c3 c4 g1 g3 l4 g4) (fun y0 y1 y2 y3 y4 hy => ?_)
        simp only [] at hy
        obtain ⟨rfl, rfl, rfl, e3, e4⟩ := hy
        refine Tm.guard (by omega) (Tm.guard (by omega) ?_)
        rw [Zj (x := i + 1) (by omega) (by omega)]
        exact hL (_, _) ⟨by omega, by omega, hF.next i0 hx6 rfl (by simp [ZZ, ZbW, e3, e4])⟩ (by simp only []; omega)
      · simp only [decide_eq_false_iff_not, Int.not_lt] at h4
        exact Tm.ret (hF.all (by omega))
  refine ⟨S, ?_⟩
  intro c0 c1 c2 c3 c4 g1 g3 l4 g4
  refine Tm.succ (g := fun k => YD.g k c0 c1 c2 c3 c4 (fun z0 z1 z2 z3 z4 => some (z0, z1, z2, z3, z4))) (fun k => YD.t_succ k c0 c1 c2 c3 c4) ?_
  unfold YD.g YD.body
  refine Yt.tm (B := big) (fun i hi => by omega) (Yt.T g3) (fun y hy => ?_)
  refine Yl.tm (B := big + 2 * n + 1) (fun i hi => hi) (S c4 l4 g4) (fun y' hy' => ?_)
  exact Tm.ret ⟨rfl, rfl, rfl, hy.1, hy'⟩
theorem YD.T {aA : Int} {aB : ByteArray} {aF : Int} {aD aC : List (List D)} (g1 : aB.size ≤ lim) (g3 : Zi RS lim aD) (g4 : Zi YJ lim aC) : Tm (ZF 1) (fun k => YD.t k aA aB aF aD aC) (fun z => z.1 = aA ∧ z.2.1 = aB ∧ z.2.2.1 = aF ∧ z.2.2.2.1 = Zb aD ∧ z.2.2.2.2 = Zb aC ∧ True) := by
  have hlim : lim = 1048576 := rfl
  have g' : ∀ x ∈ aC, YY lim 1099511627776 x := fun x hx => by
    obtain ⟨h, hh, hx⟩ := g4.2 x hx
    exact hx.mono (hh (by decide))
  exact (((toVal 1099511627776).2 aA aB aF aD aC g1 g3 g4.1 g').up (big_lv1 (n := 2 * 1099511627776 + 2) (by omega))).mono fun r hr => ⟨hr.1, hr.2.1, hr.2.2.1, hr.2.2.2.1, hr.2.2.2.2, trivial⟩
theorem Y6.f_of {β : Type} {k : Nat} {aA aB aF : Int} {aD : ByteArray} {aC : Int} {aX aY : List (List D)} {z0 z1 z2 : Int} {z3 : ByteArray} {z4 : Int} {z5 z6 : List (List C)} (h : Y6.t k aA aB aF aD aC aX aY = some (z0, z1, z2, z3, z4, z5, z6)) (K : Int → Int → Int → ByteArray → Int → (List (List C)) → (List (List C)) → Option β) : Y6.f k aA aB aF aD aC aX aY K = K z0 z1 z2 z3 z4 z5 z6 := by
  unfold Y6.f
  rw [h]
theorem Y6.tm {ι α : Type} {ok : ι → Prop} {ψ : α → Prop} {p : ι → Nat} {B : Nat} (hp : ∀ i, ok i → B ≤ p i) {aA aB aF : Int} {aD : ByteArray} {aC : Int} {aX aY : List (List D)} {φ : Int × Int × Int × ByteArray × Int × (List (List C)) × (List (List C)) → Prop} (h : Tm (fun k => B ≤ k) (fun k => Y6.t k aA aB aF aD aC aX aY) φ) {G : ι → Int → Int → Int → ByteArray → Int → (List (List C)) → (List (List C)) → Option α} (hG : ∀ z0 z1 z2 z3 z4 z5 z6, φ (z0, z1, z2, z3, z4, z5, z6) → Tm ok (fun ι0 => G ι0 z0 z1 z2 z3 z4 z5 z6) ψ) : Tm ok (fun ι0 => Y6.f (p ι0) aA aB aF aD aC aX aY (G ι0)) ψ := by
  obtain ⟨⟨z0, z1, z2, z3, z4, z5, z6⟩, h1, h2⟩ := h
  exact (hG z0 z1 z2 z3 z4 z5 z6 h1).congr fun i0 hi0 => Y6.f_of (h2 (p i0) (hp i0 hi0)) _
theorem Y6.T {aA aB aF : Int} {aD : ByteArray} {aC : Int} {aX aY : List (List D)} (ga0_3 : aD.size ≤ lim) (ga0_5 : Zi RS lim aX) (ga0_6 : Zi YJ lim aY) : Tm (ZF 1) (fun k => Y6.t k aA aB aF aD aC aX aY) (fun z => z.1 = aA ∧ z.2.1 = aB ∧ z.2.2.1 = aF ∧ z.2.2.2.1 = aD ∧ z.2.2.2.2.1 = aC ∧ z.2.2.2.2.2.1 = Zb aX ∧ z.2.2.2.2.2.2 = Zb aY ∧ True) := by
  unfold Y6.t Y6.g
  have hm := Zy
  have hlim : lim = 1048576 := rfl
  refine YD.tm (fun i hi => hi) (YD.T (by first | assumption | omega) (by first | assumption | omega) (by first | assumption | omega)) (fun y2 y3 y4 y5 y6 hy1 => ?_)
  try simp only [] at hy1
  obtain ⟨rfl, rfl, rfl, rfl, rfl, _⟩ := hy1
  try simp only [ZO]
  exact Tm.ret (by exact ⟨by first | rfl | assumption, by first | rfl | assumption, by first | rfl | assumption, by first | rfl | assumption, by first | rfl | assumption, by first | rfl | assumption, by first | rfl | assumption, trivial⟩)
theorem YB.tm {ι α : Type} {ok : ι → Prop} {ψ : α → Prop} {p : ι → Nat} {B : Nat} (hp : ∀ i, ok i → B ≤ p i) {a0 φ} (h : Tm (fun k => B ≤ k) (fun k => YB.t k a0) φ) {G : ι → (List (List C)) → Option α} (hG : ∀ z0, φ z0 → Tm ok (fun i => G i z0) ψ) : Tm ok (fun i => YB.f (p i) a0 (G i)) ψ := ZK (t := fun k => YB.t k a0) hp h hG
set_option maxRecDepth 100000 in
theorem YB.T {a0 : List (List D)} (ga0 : Zi Yc lim a0) : Tm (ZF 1) (fun k => YB.t k a0) (fun z => z = Zb a0 ∧ True) := by
  unfold YB.t YB.g YB.m
  have hm := Zy
  have hlim : lim = 1048576 := rfl
  have hlen := ga0.1
  refine Tm.guard (by first | omega | (simp only [lim, Zy, ZN] at *; omega) | (simp only [lim, ZN] at *; refine ⟨?_, ?_, ?_, ?_⟩ <;> omega)) ?_
  refine Tm.loop (okk := (ZF 1)) (p := fun k => k) (fun i hi => up0 hi) (b := fun k => YB.l0 k a0 (fun z0 => some z0)) (fun v => match v with | (i, u1) => (((a0.length : Int)) - i).toNat) (fun v => match v with | (i, u1) => 0 ≤ i ∧ i ≤ (a0.length : Int) ∧ Zbq a0 ([.d (.int .i64 0), .d (.int .i64 0), .d (.int .i64 0), .d (.str (⟨#[]⟩ : ByteArray)), .d (.int .i64 0), .own ([] : List (List C)), .own ([] : List (List C))] : List C) i u1) ?_ ?_ ?_
  · rintro ⟨i, u1⟩ hI
    try simp only [] at hI ⊢
    have : big = 2 ^ 64 := rfl
    have := ga0.1
    simp only [lim] at this
    omega
  · exact ⟨by omega, by simp, Zbq.start _ _⟩
  · rintro ⟨i, u1⟩ hI L hL
    try simp only [] at hI
    obtain ⟨i0, i1, hF⟩ := hI
    have hFl := hF.len i1
    simp only [YB.l0, atR, rdQ, Q.ask]
    refine Tm.ite (fun h1 => ?_) (fun h1 => ?_)
    · try simp only [bz0, bz1, bz2, bz3, bz4, bz5, bz6, bz7, bz8, bz9, bza] at h1
      refine Tm.atRow (by first | assumption | omega) (by first | assumption | omega) (fun x2 hx3 hm4 => ?_)
      obtain ⟨c5, c6, c7, c8, c9, c10, c11, rfl, g12, g13, g14, g15, g16, g17, g18, _⟩ := (ga0.2 x2 hm4).open
      refine Tm.uncons ?_
      refine Tm.dInt ?_
      refine Tm.uncons ?_
      refine Tm.dInt ?_
      refine Tm.uncons ?_
      refine Tm.dInt ?_
      refine Tm.uncons ?_
      refine Tm.dStr ?_
      refine Tm.uncons ?_
      refine Tm.dInt ?_
      refine Tm.uncons ?_
      refine Tm.dSl ?_
      refine Tm.uncons ?_
      refine Tm.dSl ?_
      refine Tm.atEnd ?_
      refine Y6.tm (fun i hi => hi.1) (Y6.T (by first | assumption | omega) (by first | assumption | omega) (by first | assumption | omega)) (fun y20 y21 y22 y23 y24 y25 y26 hy19 => ?_)
      try simp only [] at hy19
      obtain ⟨rfl, rfl, rfl, rfl, rfl, rfl, rfl, _⟩ := hy19
      try simp only [ZO]
      refine Tm.guard (by first | omega | (simp only [lim, Zy, ZN] at *; omega) | (simp only [lim, ZN] at *; refine ⟨?_, ?_, ?_, ?_⟩ <;> omega)) ?_
      refine Tm.guard (by first | omega | (simp only [lim, Zy, ZN] at *; omega) | (simp only [lim, ZN] at *; refine ⟨?_, ?_, ?_, ?_⟩ <;> omega)) ?_
      try rw [Zj (x := i + 1) (by omega) (by omega)]
      refine hL (_, _) ⟨by omega, by omega, hF.next i0 hx3 rfl (by simp [ZZ, ZbW])⟩ (by (try simp only []); omega)
    · try simp only [bz0, bz1, bz2, bz3, bz4, bz5, bz6, bz7, bz8, bz9, bza] at h1
      exact Tm.ret (by exact ⟨hF.all (by omega), trivial⟩)
theorem Yak.tm {ι α : Type} {ok : ι → Prop} {ψ : α → Prop} {p : ι → Nat} {B : Nat} (hp : ∀ i, ok i → B ≤ p i) {aA aB φ} (h : Tm (fun k => B ≤ k) (fun k => Yak.t k aA aB) φ) {G : ι → Int → Int → Option α} (hG : ∀ z0 z1, φ (z0, z1) → Tm ok (fun i => G i z0 z1) ψ) : Tm ok (fun i => Yak.f (p i) aA aB (G i)) ψ := bd2_tm (t := fun k => Yak.t k aA aB) hp h hG
theorem Yak.T {aA aB : Int} : Tm Z3 (fun k => Yak.t k aA aB) (fun z => z.1 = aA ∧ z.2 = aB ∧ True) := by
  unfold Yak.t Yak.g
  have hm := Zy
  have hlim : lim = 1048576 := rfl
  exact Tm.ret (by exact ⟨by first | rfl | assumption, by first | rfl | assumption, trivial⟩)
theorem YO.tm {ι α : Type} {ok : ι → Prop} {ψ : α → Prop} {p : ι → Nat} {B : Nat} (hp : ∀ i, ok i → B ≤ p i) {a0 φ} (h : Tm (fun k => B ≤ k) (fun k => YO.t k a0) φ) {G : ι → (List (List C)) → Option α} (hG : ∀ z0, φ z0 → Tm ok (fun i => G i z0) ψ) : Tm ok (fun i => YO.f (p i) a0 (G i)) ψ := ZK (t := fun k => YO.t k a0) hp h hG
set_option maxRecDepth 100000 in
theorem YO.T {a0 : List (List D)} (ga0 : Zi RII lim a0) : Tm Z3 (fun k => YO.t k a0) (fun z => z = Zb a0 ∧ True) := by
  unfold YO.t YO.g
  have hm := Zy
  have hlim : lim = 1048576 := rfl
  have hlen := ga0.1
  refine Tm.guard (by first | omega | (simp only [lim, Zy, ZN] at *; omega) | (simp only [lim, ZN] at *; refine ⟨?_, ?_, ?_, ?_⟩ <;> omega)) ?_
  refine Tm.loop (okk := Z3) (p := fun k => k) (fun i hi => hi) (b := fun k => YO.l0 k a0 (fun z0 => some z0)) (fun v => match v with | (i, u1) => (((a0.length : Int)) - i).toNat) (fun v => match v with | (i, u1) => 0 ≤ i ∧ i ≤ (a0.length : Int) ∧ Zbq a0 ([.d (.int .i64 0), .d (.int .i64 0)] : List C) i u1) ?_ ?_ ?_
  · rintro ⟨i, u1⟩ hI
    try simp only [] at hI ⊢
    have : big = 2 ^ 64 := rfl
    have := ga0.1
    simp only [lim] at this
    omega
  · exact ⟨by omega, by simp, Zbq.start _ _⟩
  · rintro ⟨i, u1⟩ hI L hL
    try simp only [] at hI
    obtain ⟨i0, i1, hF⟩ := hI
    have hFl := hF.len i1
    simp only [YO.l0, atR, rdQ, Q.ask]
    refine Tm.ite (fun h1 => ?_) (fun h1 => ?_)
    · try simp only [bz0, bz1, bz2, bz3, bz4, bz5, bz6, bz7, bz8, bz9, bza] at h1
      refine Tm.atRow (by first | assumption | omega) (by first | assumption | omega) (fun x2 hx3 hm4 => ?_)
      obtain ⟨c5, c6, rfl, g7, g8, _⟩ := (ga0.2 x2 hm4).open
      refine Tm.uncons ?_
      refine Tm.dInt ?_
      refine Tm.uncons ?_
      refine Tm.dInt ?_
      refine Tm.atEnd ?_
      refine Yak.tm (fun i hi => hi.1) (Yak.T) (fun y10 y11 hy9 => ?_)
      try simp only [] at hy9
      obtain ⟨rfl, rfl, _⟩ := hy9
      try simp only [ZO]
      refine Tm.guard (by first | omega | (simp only [lim, Zy, ZN] at *; omega) | (simp only [lim, ZN] at *; refine ⟨?_, ?_, ?_, ?_⟩ <;> omega)) ?_
      refine Tm.guard (by first | omega | (simp only [lim, Zy, ZN] at *; omega) | (simp only [lim, ZN] at *; refine ⟨?_, ?_, ?_, ?_⟩ <;> omega)) ?_
      try rw [Zj (x := i + 1) (by omega) (by omega)]
      refine hL (_, _) ⟨by omega, by omega, hF.next i0 hx3 rfl (by simp [ZZ, ZbW])⟩ (by (try simp only []); omega)
    · try simp only [bz0, bz1, bz2, bz3, bz4, bz5, bz6, bz7, bz8, bz9, bza] at h1
      exact Tm.ret (by exact ⟨hF.all (by omega), trivial⟩)
theorem Y4.tm {ι α : Type} {ok : ι → Prop} {ψ : α → Prop} {p : ι → Nat} {B : Nat} (hp : ∀ i, ok i → B ≤ p i) {aA aB aF aD aC φ} (h : Tm (fun k => B ≤ k) (fun k => Y4.t k aA aB aF aD aC) φ) {G : ι → ByteArray → Int → Int → (List (List C)) → (List (List C)) → Option α} (hG : ∀ z0 z1 z2 z3 z4, φ (z0, z1, z2, z3, z4) → Tm ok (fun i => G i z0 z1 z2 z3 z4) ψ) : Tm ok (fun i => Y4.f (p i) aA aB aF aD aC (G i)) ψ := bd5_tm (t := fun k => Y4.t k aA aB aF aD aC) hp h hG
theorem Y4.T {aA : ByteArray} {aB aF : Int} {aD aC : List (List D)} (ga0_0 : aA.size ≤ lim) (ga0_3 : Zi Yc lim aD) (ga0_4 : Zi RII lim aC) : Tm (ZF 1) (fun k => Y4.t k aA aB aF aD aC) (fun z => z.1 = aA ∧ z.2.1 = aB ∧ z.2.2.1 = aF ∧ z.2.2.2.1 = Zb aD ∧ z.2.2.2.2 = Zb aC ∧ True) := by
  unfold Y4.t Y4.g
  have hm := Zy
  have hlim : lim = 1048576 := rfl
  refine YB.tm (fun i hi => hi) (YB.T (by first | assumption | omega)) (fun y2 hy1 => ?_)
  try simp only [] at hy1
  obtain ⟨rfl, _⟩ := hy1
  try simp only [ZO]
  refine YO.tm (fun i hi => up0 hi) (YO.T (by first | assumption | omega)) (fun y4 hy3 => ?_)
  try simp only [] at hy3
  obtain ⟨rfl, _⟩ := hy3
  try simp only [ZO]
  exact Tm.ret (by exact ⟨by first | rfl | assumption, by first | rfl | assumption, by first | rfl | assumption, by first | rfl | assumption, by first | rfl | assumption, trivial⟩)
theorem Yr.f_of {β : Type} {k aA aB aF aD aC z0 z1 z2 z3 z4} (h : Yr.t k aA aB aF aD aC = some (z0, z1, z2, z3, z4)) (K : Int → ByteArray → Int → (List (List C)) → (List (List C)) → Option β) : Yr.f k aA aB aF aD aC K = K z0 z1 z2 z3 z4 := by unfold Yr.f Yr.w; rw [h]; rfl
theorem YA.f_of {β : Type} {k a0 z0} (h : YA.t k a0 = some z0) (K : (List (List C)) → Option β) : YA.f k a0 K = K z0 := by unfold YA.f; rw [h]; rfl
theorem Yac.f_of {β : Type} {k aA aB aF aD aC z0 z1 z2 z3 z4} (h : Yac.t k aA aB aF aD aC = some (z0, z1, z2, z3, z4)) (K : ByteArray → Int → Int → (List (List C)) → (List (List C)) → Option β) : Yac.f k aA aB aF aD aC K = K z0 z1 z2 z3 z4 := by unfold Yac.f; rw [h]; rfl
theorem Yy.f_of {β : Type} {k a0 a1 a2 z0} (h : Yy.t k a0 a1 a2 = some z0) (K : Bool → Option β) : Yy.f k a0 a1 a2 K = K z0 := by unfold Yy.f; rw [h]; rfl
theorem Yy.tm {ι α : Type} {ok : ι → Prop} {ψ : α → Prop} {p : ι → Nat} {B : Nat} (hp : ∀ i, ok i → B ≤ p i) {a0 a1 a2 φ} (h : Tm (fun k => B ≤ k) (fun k => Yy.t k a0 a1 a2) φ) {G : ι → Bool → Option α} (hG : ∀ z0, φ z0 → Tm ok (fun i => G i z0) ψ) : Tm ok (fun i => Yy.f (p i) a0 a1 a2 (G i)) ψ := ZK (t := fun k => Yy.t k a0 a1 a2) hp h hG
theorem Yy.T {a0 a1 a2 : Int} : Tm Z3 (fun k => Yy.t k a0 a1 a2) (fun r => r = true → a1 ≤ a0 ∧ a0 ≤ a2) := by
  unfold Yy.t Yy.g
  have hm := Zy
  have hlim : lim = 1048576 := rfl
  refine Tm.ite (fun h1 => ?_) (fun h1 => ?_)
  · try simp only [bz0, bz1, bz2, bz3, bz4, bz5, bz6, bz7, bz8, bz9, bza] at h1
    exact Tm.ret (by first | (intro h; simp at h; omega) | (intro h; cases h))
  · try simp only [bz0, bz1, bz2, bz3, bz4, bz5, bz6, bz7, bz8, bz9, bza] at h1
    exact Tm.ret (by first | (intro h; simp at h; omega) | (intro h; cases h))
theorem l1In_f {β : Type} {k : Nat} {a b c : Int} (K : Bool → Option β) : Yy.f k a b c K = K (decide (b ≤ a) && decide (a ≤ c)) := by
  refine Yy.f_of ?_ K
  unfold Yy.t Yy.g
  by_cases h : b ≤ a <;> simp [h]
def inB (a b c : Int) : Bool := decide (b ≤ a) && decide (a ≤ c)
theorem l1In_fv {β : Type} {k : Nat} {a b c : Int} (K : Bool → Option β) : Yy.f k a b c K = K (inB a b c) := l1In_f K
theorem Yk.f_of {β : Type} {k a0 z0} (h : Yk.t k a0 = some z0) (K : Bool → Option β) : Yk.f k a0 K = K z0 := by unfold Yk.f; rw [h]; rfl
theorem Yk.tm {ι α : Type} {ok : ι → Prop} {ψ : α → Prop} {p : ι → Nat} {B : Nat} (hp : ∀ i, ok i → B ≤ p i) {a0 φ} (h : Tm (fun k => B ≤ k) (fun k => Yk.t k a0) φ) {G : ι → Bool → Option α} (hG : ∀ z0, φ z0 → Tm ok (fun i => G i z0) ψ) : Tm ok (fun i => Yk.f (p i) a0 (G i)) ψ := ZK (t := fun k => Yk.t k a0) hp h hG
theorem Yk.T {a0 : ByteArray} (ga0 : a0.size ≤ lim) : Tm Z3 (fun k => Yk.t k a0) (fun _ => True) := by
  unfold Yk.t Yk.g
  have hm := Zy
  have hlim : lim = 1048576 := rfl
  refine Tm.loop (okk := Z3) (p := fun k => k) (fun i hi => hi) (b := fun k => Yk.l0 k a0 (fun z0 => some z0)) (fun i => (((a0.size : Int)) - i).toNat) (fun i => 0 ≤ i ∧ i ≤ (a0.size : Int)) ?_ ?_ ?_
  · rintro i hI
    try simp only [] at hI ⊢
    have : big = 2 ^ 64 := rfl
    omega
  · ((try simp only []); omega)
  · rintro i hI L hL
    try simp only [] at hI
    obtain ⟨i0, i1⟩ := hI
    simp only [Yk.l0]
    refine Tm.ite (fun h1 => ?_) (fun h1 => ?_)
    · try simp only [bz0, bz1, bz2, bz3, bz4, bz5, bz6, bz7, bz8, bz9, bza] at h1
      refine Tm.atStr (by first | assumption | omega) (by first | assumption | omega) (fun b2 hb3 => ?_)
      try rw [Zj (x := (b2.toNat : Int)) (by omega) (by omega)]
      refine Yy.tm (fun i hi => hi.1) (Yy.T) (fun y5 hy4 => ?_)
      refine Tm.ite (fun h6 => ?_) (fun h6 => ?_)
      · try simp only [bz0, bz1, bz2, bz3, bz4, bz5, bz6, bz7, bz8, bz9, bza] at h6
        refine Tm.atStr (by first | assumption | omega) (by first | assumption | omega) (fun b7 hb8 => ?_)
        try rw [Zj (x := (b7.toNat : Int)) (by omega) (by omega)]
        refine Yy.tm (fun i hi => hi.1) (Yy.T) (fun y10 hy9 => ?_)
        refine Tm.ite (fun h11 => ?_) (fun h11 => ?_)
        · try simp only [bz0, bz1, bz2, bz3, bz4, bz5, bz6, bz7, bz8, bz9, bza] at h11
          refine Tm.atStr (by first | assumption | omega) (by first | assumption | omega) (fun b12 hb13 => ?_)
          refine Tm.ite (fun h14 => ?_) (fun h14 => ?_)
          · try simp only [bz0, bz1, bz2, bz3, bz4, bz5, bz6, bz7, bz8, bz9, bza] at h14
            exact Tm.ret (by trivial)
          · try simp only [bz0, bz1, bz2, bz3, bz4, bz5, bz6, bz7, bz8, bz9, bza] at h14
            try rw [Zj (x := i + 1) (by omega) (by omega)]
            exact hL _ (by (try simp only []); omega) (by (try simp only []); omega)
        · try simp only [bz0, bz1, bz2, bz3, bz4, bz5, bz6, bz7, bz8, bz9, bza] at h11
          have z15 := hy9 h11
          try rw [Zj (x := i + 1) (by omega) (by omega)]
          exact hL _ (by (try simp only []); omega) (by (try simp only []); omega)
      · try simp only [bz0, bz1, bz2, bz3, bz4, bz5, bz6, bz7, bz8, bz9, bza] at h6
        have z16 := hy4 h6
        try rw [Zj (x := i + 1) (by omega) (by omega)]
        exact hL _ (by (try simp only []); omega) (by (try simp only []); omega)
    · try simp only [bz0, bz1, bz2, bz3, bz4, bz5, bz6, bz7, bz8, bz9, bza] at h1
      refine Yy.tm (fun i hi => hi.1) (Yy.T) (fun y18 hy17 => ?_)
      refine Tm.ite (fun h19 => ?_) (fun h19 => ?_)
      · try simp only [bz0, bz1, bz2, bz3, bz4, bz5, bz6, bz7, bz8, bz9, bza] at h19
        have z20 := hy17 h19
        refine Tm.atStr (by first | assumption | omega) (by first | assumption | omega) (fun b21 hb22 => ?_)
        refine Tm.ite (fun h23 => ?_) (fun h23 => ?_)
        · try simp only [bz0, bz1, bz2, bz3, bz4, bz5, bz6, bz7, bz8, bz9, bza] at h23
          try rw [Zj (x := (a0.size : Int) - 1) (by omega) (by omega)]
          refine Tm.atStr (by first | assumption | omega) (by first | assumption | omega) (fun b24 hb25 => ?_)
          exact Tm.ret (by trivial)
        · try simp only [bz0, bz1, bz2, bz3, bz4, bz5, bz6, bz7, bz8, bz9, bza] at h23
          exact Tm.ret (by trivial)
      · try simp only [bz0, bz1, bz2, bz3, bz4, bz5, bz6, bz7, bz8, bz9, bza] at h19
        exact Tm.ret (by trivial)
noncomputable def Yk.v (a0 : ByteArray) : Bool := (Yk.t big a0).getD default
theorem Yk.tv {a0 : ByteArray} (ga0 : a0.size ≤ lim) {k : Nat} (hk : Z3 k) : Yk.t k a0 = some (Yk.v a0) := (Yk.T ga0).val hk
theorem Yk.fv {a0 : ByteArray} (ga0 : a0.size ≤ lim) {k : Nat} (hk : Z3 k) {β : Type} (K : Bool → Option β) : Yk.f k a0 K = K (Yk.v a0) := Yk.f_of (Yk.tv ga0 hk) K
noncomputable def namesB (xs : List (List D)) : Bool := (List.range xs.length).all fun i => Yk.v (gS xs (i : Int) 0) && (!decide ((i : Int) > 0) || ZbO (gS xs ((i : Int) - 1) 0) (gS xs (i : Int) 0))
theorem YT.f_of {β : Type} {k a0 z0} (h : YT.t k a0 = some z0) (K : Bool → Option β) : YT.f k a0 K = K z0 := by unfold YT.f; rw [h]; rfl
def textB (s : ByteArray) : Bool := (List.range s.size).all fun i => inB (bS s (i : Int)) 32 126
theorem l4Text_fv {s : ByteArray} (g : s.size ≤ lim) {k : Nat} (hk : Z3 k) {β : Type} (K : Bool → Option β) : YT.f k s K = K (textB s && decide ((s.size : Int) ≤ 100)) := YT.f_of (by
  have hlim : lim = 1048576 := rfl
  have hb : big = 2 ^ 64 := rfl
  unfold YT.t YT.g textB
  rw [Zb6 (n := s.size) (fun i => inB (bS s (i : Int)) 32 126) (r1 := some false) (r2 := some (decide ((s.size : Int) ≤ 100))) (by unfold Z3 at hk; omega)]
  · generalize List.all _ _ = x
    cases x <;> rfl
  · intro L i hi
    simp (disch := omega) only [YT.l0, ZQ (show (i : Int) < s.size by omega), cond_true, atStr_at, wrap_b, l1In_fv, Zj]
    generalize inB _ _ _ = x
    cases x <;> rfl
  · intro L
    simp [YT.l0]) K
theorem YR.f_of {β : Type} {k aA aB aF aD aC z0} (h : YR.t k aA aB aF aD aC = some z0) (K : Bool → Option β) : YR.f k aA aB aF aD aC K = K z0 := by unfold YR.f; rw [h]; rfl
theorem Yp.f_of {β : Type} {k aA aB aF aD aC a1 z0} (h : Yp.t k aA aB aF aD aC a1 = some z0) (K : Int → Option β) : Yp.f k aA aB aF aD aC a1 K = K z0 := by unfold Yp.f Yp.w; rw [h]; rfl
theorem Yp.tm {ι α : Type} {ok : ι → Prop} {ψ : α → Prop} {p : ι → Nat} {B : Nat} (hp : ∀ i, ok i → B ≤ p i) {aA aB aF aD aC a1 φ} (h : Tm (fun k => B ≤ k) (fun k => Yp.t k aA aB aF aD aC a1) φ) {G : ι → Int → Option α} (hG : ∀ z0, φ z0 → Tm ok (fun i => G i z0) ψ) : Tm ok (fun i => Yp.f (p i) aA aB aF aD aC a1 (G i)) ψ := ZK (t := fun k => Yp.t k aA aB aF aD aC a1) hp h hG
set_option maxRecDepth 100000 in
theorem l4Keys_fv {c0 : Int} {c1 : ByteArray} {c2 : Int} {c3 c4 : List (List D)} (g : Zi RS lim c3) {k : Nat} (hk : Z3 k) {β : Type} (K : Bool → Option β) : YR.f k c0 c1 c2 c3 c4 K = K (namesB c3 && (c3.length : Int) == (c4.length : Int)) := YR.f_of (by
  have hl := g.1
  have hlim : lim = 1048576 := rfl
  have hb : big = 2 ^ 64 := rfl
  unfold YR.t YR.g
  rw [Zb6 (n := c3.length) (fun i => Yk.v (gS c3 (i : Int) 0) && (!decide ((i : Int) > 0) || ZbO (gS c3 ((i : Int) - 1) 0) (gS c3 (i : Int) 0))) (r1 := some false) (r2 := some ((c3.length : Int) == (c4.length : Int))) (by unfold Z3 at hk; omega)]
  · unfold namesB
    generalize List.all _ _ = x
    cases x <;> rfl
  · intro L i hi
    have k0 := (RS.get g (v := (i : Int)) (by omega) (by omega)).2.1
    simp (disch := omega) only [YR.l0, atR, rdQ, Q.ask, ZQ (show (i : Int) < c3.length by omega), cond_true, RS.row g, ZY, Zaj, Z6, Yk.fv k0 hk, Zj]
    by_cases h0 : (i : Int) > 0
    · simp (disch := omega) only [ZQ h0, cond_true, RS.row g, ZY, Zaj, Z6]
      cases Yk.v (gS c3 (i : Int) 0) <;> cases ZbO (gS c3 ((i : Int) - 1) 0) (gS c3 (i : Int) 0) <;> rfl
    · simp only [ZV h0, cond_false]
      cases Yk.v (gS c3 (i : Int) 0) <;> rfl
  · intro L
    simp [YR.l0, atR, rdQ, Q.ask]) K
def bareText : ByteArray := (⟨#[]⟩ : ByteArray)
noncomputable def Yat (kind : Int) (text : ByteArray) (num : Int) (keys kids : List (List D)) : Bool :=
  bif kind == 1 then (keys.length : Int) == 0 && ((kids.length : Int) == 0 && (num == 0 && (textB text && decide ((text.size : Int) ≤ 100))))
  else bif kind == 2 then (keys.length : Int) == 0 && ((kids.length : Int) == 0 && Zae text bareText)
  else bif kind == 3 then (keys.length : Int) == 0 && ((kids.length : Int) == 0 && (Zae text bareText && inB num 0 1))
  else bif kind == 4 then (keys.length : Int) == 0 && (Zae text bareText && num == 0)
  else bif kind == 5 then (namesB keys && (keys.length : Int) == (kids.length : Int)) && (Zae text bareText && num == 0)
  else false
def sumL (f : List D → Int) : List (List D) → Int → Int
  | [], n => n
  | r :: rs, n => if f r = 0 ∨ n + f r > 300 then 0 else sumL f rs (n + f r)
noncomputable def Yao : Nat → List D → Int
  | 0, _ => 0
  | d + 1, r => bif sumL (Yao d) (rL r 4) 1 == 0 then 0 else bif Yat (rI r 0) (rS r 1) (rI r 2) (rL r 3) (rL r 4) then sumL (Yao d) (rL r 4) 1 else 0
theorem sumL_range {f : List D → Int} (hf : ∀ r, 0 ≤ f r) : ∀ {rs : List (List D)} {n : Int}, 1 ≤ n → n ≤ 300 → 0 ≤ sumL f rs n ∧ sumL f rs n ≤ 300 ∧ (sumL f rs n ≠ 0 → n + rs.length ≤ 300)
  | [], n, h, h' => by simp only [sumL, List.length_nil]; omega
  | r :: rs, n, h, h' => by
    have := hf r
    simp only [sumL]
    split
    · omega
    · have := sumL_range hf (rs := rs) (n := n + f r) (by omega) (by omega)
      simp only [List.length_cons]
      omega
theorem Yaw : ∀ (d : Nat) (r : List D), 0 ≤ Yao d r ∧ Yao d r ≤ 300
  | 0, r => by simp [Yao]
  | d + 1, r => by
    have := sumL_range (f := Yao d) (fun r => (Yaw d r).1) (rs := rL r 4) (n := 1) (by omega) (by omega)
    simp only [Yao]
    generalize sumL (Yao d) (rL r 4) 1 = n at *
    cases n == 0 <;> cases Yat (rI r 0) (rS r 1) (rI r 2) (rL r 3) (rL r 4) <;> simp <;> omega
set_option maxRecDepth 100000 in
theorem look_t (d : Nat) : ∀ {c0 : Int} {c1 : ByteArray} {c2 : Int} {c3 c4 : List (List D)}, c1.size ≤ lim → Zi RS lim c3 → Zi YJ lim c4 → d ≤ 6 → ∀ {k : Nat}, big + d + 1 ≤ k → Yp.t k c0 c1 c2 c3 c4 (d : Int) = some (Yao d [.int .i64 c0, .str c1, .int .i64 c2, .sl c3, .sl c4]) := by
  have hlim : lim = 1048576 := rfl
  have hb : big = 2 ^ 64 := rfl
  induction d with
  | zero =>
    intro c0 c1 c2 c3 c4 g1 g3 g4 hd k hk
    cases k with
    | zero => omega
    | succ k => rfl
  | succ d ih =>
    intro c0 c1 c2 c3 c4 g1 g3 g4 hd k hk
    cases k with
    | zero => omega
    | succ k =>
    have hl := g4.1
    have hk0 : Z3 k := by unfold Z3; omega
    rw [Yp.t_succ]
    unfold Yp.g Yp.body
    rw [show (((d + 1 : Nat) : Int) == 0) = false by rw [beq_eq_false_iff_ne]; omega, cond_false]
    have key := iter_val (b := Yp.l0 k (Yp.f k) ((d + 1 : Nat) : Int) c0 c1 c2 c3 c4 fun z0 => some z0) (fun v => ((c4.length : Int) - v.2).toNat) (fun v => 0 ≤ v.2 ∧ v.2 ≤ c4.length ∧ 1 ≤ v.1 ∧ v.1 ≤ 300)
      (fun v => bif sumL (Yao d) (c4.drop v.2.toNat) v.1 == 0 then some 0 else bif Yat c0 c1 c2 c3 c4 then some (sumL (Yao d) (c4.drop v.2.toNat) v.1) else some 0) ?_ k (1, 0) (by simp only []; omega) (by simp only []; omega)
    · rw [key]
      simp only [Yao]
      show (bif sumL (Yao d) (List.drop 0 c4) 1 == 0 then some 0 else bif Yat c0 c1 c2 c3 c4 then some (sumL (Yao d) (List.drop 0 c4) 1) else some 0) = some (bif sumL (Yao d) c4 1 == 0 then 0 else bif Yat c0 c1 c2 c3 c4 then sumL (Yao d) c4 1 else 0)
      rw [List.drop_zero]
      cases sumL (Yao d) c4 1 == 0 <;> cases Yat c0 c1 c2 c3 c4 <;> rfl
    · rintro ⟨n, i⟩ ⟨i0, i1, n0, n1⟩ L hL
      simp only [] at i0 i1 n0 n1 hL ⊢
      by_cases hi : i < c4.length
      · have hg := YJ.get g4 i0 hi
        have hr := Yaw d (gR c4 i)
        have ih' := ih (c0 := gI c4 i 0) (c2 := gI c4 i 2) hg.2.2.1 hg.2.2.2.2.1 hg.2.2.2.2.2.1 (by omega) (k := k) (by omega)
        rw [← hg.1] at ih'
        simp (disch := omega) only [Yp.l0, atR, rdQ, Q.ask, ZQ hi, cond_true, YJ.row g4, ZY, Zaj, Zad, Za7, Z6, Zj, show ((d + 1 : Nat) : Int) - 1 = (d : Int) by omega]
        rw [Yp.f_of ih', drop_gR i0 hi]
        simp only [sumL]
        by_cases hz : Yao d (gR c4 i) = 0
        · rw [hz]
          simp
        · rw [show (Yao d (gR c4 i) == 0) = false by rw [beq_eq_false_iff_ne]; exact hz, cond_false, Zj (by omega) (by omega)]
          by_cases hn : n + Yao d (gR c4 i) > 300
          · rw [ZQ hn, if_pos (.inr hn)]
            rfl
          · rw [ZV hn, if_neg (by omega), cond_false, hL _ ⟨by simp only []; omega, by simp only []; omega, by simp only []; omega, by simp only []; omega⟩ (by simp only []; omega)]
      · rw [drop_end (by omega)]
        simp only [Yp.l0, atR, rdQ, Q.ask, ZV hi, cond_false, sumL, l4Keys_fv g3 hk0, l1In_fv, l4Text_fv g1 hk0]
        rw [show (n == 0) = false by rw [beq_eq_false_iff_ne]; omega, cond_false]
        unfold Yat
        generalize (textB c1 && decide ((c1.size : Int) ≤ 100)) = b1
        generalize hb2 : Zae c1 (⟨#[]⟩ : ByteArray) = b2
        have hb3 : Zae c1 bareText = b2 := hb2
        rw [hb3]
        generalize namesB c3 = b3
        generalize inB c2 0 1 = b4
        generalize (c2 == 0) = b5
        generalize ((c4.length : Int) == 0) = b6
        generalize ((c3.length : Int) == (c4.length : Int)) = b7
        generalize ((c3.length : Int) == 0) = b8
        rcases ZaA c0 with rfl | rfl | rfl | rfl | rfl | ⟨e1, e2, e3, e4, e5⟩
        · cases b1 <;> cases b5 <;> cases b6 <;> cases b8 <;> rfl
        · cases b2 <;> cases b6 <;> cases b8 <;> rfl
        · cases b2 <;> cases b4 <;> cases b6 <;> cases b8 <;> rfl
        · cases b2 <;> cases b5 <;> cases b8 <;> rfl
        · cases b2 <;> cases b3 <;> cases b5 <;> cases b7 <;> cases b8 <;> rfl
        · cases b8 <;> simp only [e1, e2, e3, e4, e5, cond_false, cond_true]
theorem look_fv {d c0 : Int} {c1 : ByteArray} {c2 : Int} {c3 c4 : List (List D)} (hd0 : 0 ≤ d) (hd : d ≤ 6) (g1 : c1.size ≤ lim) (g3 : Zi RS lim c3) (g4 : Zi YJ lim c4) {k : Nat} (hk : ZF 1 k) {β : Type} (K : Int → Option β) : Yp.f k c0 c1 c2 c3 c4 d K = K (Yao d.toNat [.int .i64 c0, .str c1, .int .i64 c2, .sl c3, .sl c4]) := by
  have hb : big = 2 ^ 64 := rfl
  have h1 : lv 1 = 2 ^ 65 := rfl
  obtain ⟨n, rfl⟩ : ∃ n : Nat, d = n := ⟨d.toNat, by omega⟩
  exact Yp.f_of (look_t n g1 g3 g4 (by omega) (by unfold ZF at hk; omega)) K
theorem Yp.T {aA : Int} {aB : ByteArray} {aF : Int} {aD aC : List (List D)} {a1 : Int} (h0 : 0 ≤ a1) (h1 : a1 ≤ 6) (g1 : aB.size ≤ lim) (g3 : Zi RS lim aD) (g4 : Zi YJ lim aC) : Tm (ZF 1) (fun k => Yp.t k aA aB aF aD aC a1) (fun _ => True) := by
  have hb : big = 2 ^ 64 := rfl
  have h2 : lv 1 = 2 ^ 65 := rfl
  obtain ⟨n, rfl⟩ : ∃ n : Nat, a1 = n := ⟨a1.toNat, by omega⟩
  exact Tm.of (fun k hk => look_t n g1 g3 g4 (by omega) (by omega)) trivial
theorem Y0.f_of {β : Type} {k aA aB aF aD aC z0} (h : Y0.t k aA aB aF aD aC = some z0) (K : Bool → Option β) : Y0.f k aA aB aF aD aC K = K z0 := by unfold Y0.f; rw [h]; rfl
theorem Y0.tm {ι α : Type} {ok : ι → Prop} {ψ : α → Prop} {p : ι → Nat} {B : Nat} (hp : ∀ i, ok i → B ≤ p i) {aA aB aF aD aC φ} (h : Tm (fun k => B ≤ k) (fun k => Y0.t k aA aB aF aD aC) φ) {G : ι → Bool → Option α} (hG : ∀ z0, φ z0 → Tm ok (fun i => G i z0) ψ) : Tm ok (fun i => Y0.f (p i) aA aB aF aD aC (G i)) ψ := ZK (t := fun k => Y0.t k aA aB aF aD aC) hp h hG
theorem Y0.T {aA : Int} {aB : ByteArray} {aF : Int} {aD aC : List (List D)} (ga0_1 : aB.size ≤ lim) (ga0_3 : Zi RS lim aD) (ga0_4 : Zi YJ lim aC) : Tm (ZF 1) (fun k => Y0.t k aA aB aF aD aC) (fun _ => True) := by
  unfold Y0.t Y0.g
  have hm := Zy
  have hlim : lim = 1048576 := rfl
  have la0_3 := ga0_3.1
  have la0_4 := ga0_4.1
  refine Yp.tm (fun i hi => hi) (Yp.T (by first | assumption | omega) (by first | assumption | omega) (by first | assumption | omega) (by first | assumption | omega) (by first | assumption | omega)) (fun y2 hy1 => ?_)
  exact Tm.ret (by trivial)
theorem Yh.f_of {β : Type} {k a0 z0} (h : Yh.t k a0 = some z0) (K : Bool → Option β) : Yh.f k a0 K = K z0 := by unfold Yh.f; rw [h]; rfl
theorem Yh.tm {ι α : Type} {ok : ι → Prop} {ψ : α → Prop} {p : ι → Nat} {B : Nat} (hp : ∀ i, ok i → B ≤ p i) {a0 φ} (h : Tm (fun k => B ≤ k) (fun k => Yh.t k a0) φ) {G : ι → Bool → Option α} (hG : ∀ z0, φ z0 → Tm ok (fun i => G i z0) ψ) : Tm ok (fun i => Yh.f (p i) a0 (G i)) ψ := ZK (t := fun k => Yh.t k a0) hp h hG
set_option maxRecDepth 100000 in
theorem Yh.T {a0 : List (List D)} (ga0 : Zi Yc lim a0) : Tm (ZF 1) (fun k => Yh.t k a0) (fun _ => True) := by
  unfold Yh.t Yh.g
  have hm := Zy
  have hlim : lim = 1048576 := rfl
  have la0 := ga0.1
  refine Tm.loop (okk := (ZF 1)) (p := fun k => k) (fun i hi => up0 hi) (b := fun k => Yh.l0 k a0 (fun z0 => some z0)) (fun i => (((a0.length : Int)) - i).toNat) (fun i => 0 ≤ i ∧ i ≤ (a0.length : Int)) ?_ ?_ ?_
  · rintro i hI
    try simp only [] at hI ⊢
    have : big = 2 ^ 64 := rfl
    omega
  · ((try simp only []); omega)
  · rintro i hI L hL
    try simp only [] at hI
    obtain ⟨i0, i1⟩ := hI
    simp only [Yh.l0, atR, rdQ, Q.ask]
    refine Tm.ite (fun h1 => ?_) (fun h1 => ?_)
    · try simp only [bz0, bz1, bz2, bz3, bz4, bz5, bz6, bz7, bz8, bz9, bza] at h1
      refine Tm.atRow (by first | assumption | omega) (by first | assumption | omega) (fun x2 hx3 hm4 => ?_)
      obtain ⟨c5, c6, c7, c8, c9, c10, c11, rfl, g12, g13, g14, g15, g16, g17, g18, _⟩ := (ga0.2 x2 hm4).open
      refine Tm.uncons ?_
      refine Tm.dInt ?_
      refine Tm.uncons ?_
      refine Tm.dInt ?_
      refine Tm.uncons ?_
      refine Tm.dInt ?_
      refine Tm.uncons ?_
      refine Tm.dStr ?_
      refine Tm.uncons ?_
      refine Tm.dInt ?_
      refine Tm.uncons ?_
      refine Tm.dSl ?_
      refine Tm.uncons ?_
      refine Tm.dSl ?_
      refine Tm.atEnd ?_
      refine Yy.tm (fun i hi => up0 hi.1) (Yy.T) (fun y20 hy19 => ?_)
      refine Tm.ite (fun h21 => ?_) (fun h21 => ?_)
      · try simp only [bz0, bz1, bz2, bz3, bz4, bz5, bz6, bz7, bz8, bz9, bza] at h21
        exact Tm.ret (by trivial)
      · try simp only [bz0, bz1, bz2, bz3, bz4, bz5, bz6, bz7, bz8, bz9, bza] at h21
        have z22 := hy19 h21
        refine Yy.tm (fun i hi => up0 hi.1) (Yy.T) (fun y24 hy23 => ?_)
        refine Tm.ite (fun h25 => ?_) (fun h25 => ?_)
        · try simp only [bz0, bz1, bz2, bz3, bz4, bz5, bz6, bz7, bz8, bz9, bza] at h25
          exact Tm.ret (by trivial)
        · try simp only [bz0, bz1, bz2, bz3, bz4, bz5, bz6, bz7, bz8, bz9, bza] at h25
          have z26 := hy23 h25
          refine Y0.tm (fun i hi => hi.1) (Y0.T (by first | assumption | omega) (by first | assumption | omega) (by first | assumption | omega)) (fun y28 hy27 => ?_)
          refine Tm.ite (fun h29 => ?_) (fun h29 => ?_)
          · try simp only [bz0, bz1, bz2, bz3, bz4, bz5, bz6, bz7, bz8, bz9, bza] at h29
            exact Tm.ret (by trivial)
          · try simp only [bz0, bz1, bz2, bz3, bz4, bz5, bz6, bz7, bz8, bz9, bza] at h29
            refine Tm.ite (fun h30 => ?_) (fun h30 => ?_)
            · try simp only [bz0, bz1, bz2, bz3, bz4, bz5, bz6, bz7, bz8, bz9, bza] at h30
              try rw [Zj (x := i - 1) (by omega) (by omega)]
              refine Tm.atRow (by first | assumption | omega) (by first | assumption | omega) (fun x31 hx32 hm33 => ?_)
              obtain ⟨c34, c35, c36, c37, c38, c39, c40, rfl, g41, g42, g43, g44, g45, g46, g47, _⟩ := (ga0.2 x31 hm33).open
              refine Tm.uncons ?_
              refine Tm.dInt ?_
              refine Tm.uncons ?_
              refine Tm.dInt ?_
              refine Tm.uncons ?_
              refine Tm.dInt ?_
              refine Tm.uncons ?_
              refine Tm.dStr ?_
              refine Tm.uncons ?_
              refine Tm.dInt ?_
              refine Tm.uncons ?_
              refine Tm.dSl ?_
              refine Tm.uncons ?_
              refine Tm.dSl ?_
              refine Tm.atEnd ?_
              refine Tm.ite (fun h48 => ?_) (fun h48 => ?_)
              · try simp only [bz0, bz1, bz2, bz3, bz4, bz5, bz6, bz7, bz8, bz9, bza] at h48
                exact Tm.ret (by trivial)
              · try simp only [bz0, bz1, bz2, bz3, bz4, bz5, bz6, bz7, bz8, bz9, bza] at h48
                try rw [Zj (x := i + 1) (by omega) (by omega)]
                exact hL _ (by (try simp only []); omega) (by (try simp only []); omega)
            · try simp only [bz0, bz1, bz2, bz3, bz4, bz5, bz6, bz7, bz8, bz9, bza] at h30
              try rw [Zj (x := i + 1) (by omega) (by omega)]
              exact hL _ (by (try simp only []); omega) (by (try simp only []); omega)
    · try simp only [bz0, bz1, bz2, bz3, bz4, bz5, bz6, bz7, bz8, bz9, bza] at h1
      exact Tm.ret (by trivial)
noncomputable def Yh.v (a0 : List (List D)) : Bool := (Yh.t (lv 1) a0).getD default
theorem Yh.tv {a0 : List (List D)} (ga0 : Zi Yc lim a0) {k : Nat} (hk : (ZF 1) k) : Yh.t k a0 = some (Yh.v a0) := (Yh.T ga0).val hk
theorem Yh.fv {a0 : List (List D)} (ga0 : Zi Yc lim a0) {k : Nat} (hk : (ZF 1) k) {β : Type} (K : Bool → Option β) : Yh.f k a0 K = K (Yh.v a0) := Yh.f_of (Yh.tv ga0 hk) K
theorem Ys.f_of {β : Type} {k a0 a1 z0} (h : Ys.t k a0 a1 = some z0) (K : Bool → Option β) : Ys.f k a0 a1 K = K z0 := by unfold Ys.f; rw [h]; rfl
theorem Ys.tm {ι α : Type} {ok : ι → Prop} {ψ : α → Prop} {p : ι → Nat} {B : Nat} (hp : ∀ i, ok i → B ≤ p i) {a0 a1 φ} (h : Tm (fun k => B ≤ k) (fun k => Ys.t k a0 a1) φ) {G : ι → Bool → Option α} (hG : ∀ z0, φ z0 → Tm ok (fun i => G i z0) ψ) : Tm ok (fun i => Ys.f (p i) a0 a1 (G i)) ψ := ZK (t := fun k => Ys.t k a0 a1) hp h hG
set_option maxRecDepth 100000 in
theorem Ys.T {a0 : List (List D)} {a1 : Int} (ga0 : Zi RII lim a0) : Tm Z3 (fun k => Ys.t k a0 a1) (fun _ => True) := by
  unfold Ys.t Ys.g
  have hm := Zy
  have hlim : lim = 1048576 := rfl
  have la0 := ga0.1
  refine Tm.loop (okk := Z3) (p := fun k => k) (fun i hi => hi) (b := fun k => Ys.l0 k a0 a1 (fun z0 => some z0)) (fun i => (((a0.length : Int)) - i).toNat) (fun i => 0 ≤ i ∧ i ≤ (a0.length : Int)) ?_ ?_ ?_
  · rintro i hI
    try simp only [] at hI ⊢
    have : big = 2 ^ 64 := rfl
    omega
  · ((try simp only []); omega)
  · rintro i hI L hL
    try simp only [] at hI
    obtain ⟨i0, i1⟩ := hI
    simp only [Ys.l0, atR, rdQ, Q.ask]
    refine Tm.ite (fun h1 => ?_) (fun h1 => ?_)
    · try simp only [bz0, bz1, bz2, bz3, bz4, bz5, bz6, bz7, bz8, bz9, bza] at h1
      refine Tm.atRow (by first | assumption | omega) (by first | assumption | omega) (fun x2 hx3 hm4 => ?_)
      obtain ⟨c5, c6, rfl, g7, g8, _⟩ := (ga0.2 x2 hm4).open
      refine Tm.uncons ?_
      refine Tm.dInt ?_
      refine Tm.uncons ?_
      refine Tm.dInt ?_
      refine Tm.atEnd ?_
      refine Yy.tm (fun i hi => hi.1) (Yy.T) (fun y10 hy9 => ?_)
      refine Tm.ite (fun h11 => ?_) (fun h11 => ?_)
      · try simp only [bz0, bz1, bz2, bz3, bz4, bz5, bz6, bz7, bz8, bz9, bza] at h11
        exact Tm.ret (by trivial)
      · try simp only [bz0, bz1, bz2, bz3, bz4, bz5, bz6, bz7, bz8, bz9, bza] at h11
        have z12 := hy9 h11
        refine Tm.atRow (by first | assumption | omega) (by first | assumption | omega) (fun x13 hx14 hm15 => ?_)
        rw [hx3] at hx14
        injection hx14 with hx14
        subst hx14
        refine Tm.uncons ?_
        refine Tm.dInt ?_
        refine Tm.uncons ?_
        refine Tm.dInt ?_
        refine Tm.atEnd ?_
        refine Yy.tm (fun i hi => hi.1) (Yy.T) (fun y19 hy18 => ?_)
        refine Tm.ite (fun h20 => ?_) (fun h20 => ?_)
        · try simp only [bz0, bz1, bz2, bz3, bz4, bz5, bz6, bz7, bz8, bz9, bza] at h20
          exact Tm.ret (by trivial)
        · try simp only [bz0, bz1, bz2, bz3, bz4, bz5, bz6, bz7, bz8, bz9, bza] at h20
          have z21 := hy18 h20
          refine Tm.ite (fun h22 => ?_) (fun h22 => ?_)
          · try simp only [bz0, bz1, bz2, bz3, bz4, bz5, bz6, bz7, bz8, bz9, bza] at h22
            try rw [Zj (x := i - 1) (by omega) (by omega)]
            refine Tm.atRow (by first | assumption | omega) (by first | assumption | omega) (fun x23 hx24 hm25 => ?_)
            obtain ⟨c26, c27, rfl, g28, g29, _⟩ := (ga0.2 x23 hm25).open
            refine Tm.uncons ?_
            refine Tm.dInt ?_
            refine Tm.uncons ?_
            refine Tm.dInt ?_
            refine Tm.atEnd ?_
            refine Tm.atRow (by first | assumption | omega) (by first | assumption | omega) (fun x30 hx31 hm32 => ?_)
            rw [hx3] at hx31
            injection hx31 with hx31
            subst hx31
            refine Tm.uncons ?_
            refine Tm.dInt ?_
            refine Tm.uncons ?_
            refine Tm.dInt ?_
            refine Tm.atEnd ?_
            refine Tm.ite (fun h35 => ?_) (fun h35 => ?_)
            · try simp only [bz0, bz1, bz2, bz3, bz4, bz5, bz6, bz7, bz8, bz9, bza] at h35
              exact Tm.ret (by trivial)
            · try simp only [bz0, bz1, bz2, bz3, bz4, bz5, bz6, bz7, bz8, bz9, bza] at h35
              try rw [Zj (x := i + 1) (by omega) (by omega)]
              exact hL _ (by (try simp only []); omega) (by (try simp only []); omega)
          · try simp only [bz0, bz1, bz2, bz3, bz4, bz5, bz6, bz7, bz8, bz9, bza] at h22
            try rw [Zj (x := i + 1) (by omega) (by omega)]
            exact hL _ (by (try simp only []); omega) (by (try simp only []); omega)
    · try simp only [bz0, bz1, bz2, bz3, bz4, bz5, bz6, bz7, bz8, bz9, bza] at h1
      exact Tm.ret (by trivial)
def runP (xs : List (List D)) (low : Int) (i : Nat) : Bool := inB (gI xs (i : Int) 0) 1 1000000 && (inB (gI xs (i : Int) 1) low 10000 && (!decide ((i : Int) > 0) || !decide (gI xs ((i : Int) - 1) 0 ≥ gI xs (i : Int) 0)))
def runsB (xs : List (List D)) (low : Int) : Bool := (List.range xs.length).all fun i => runP xs low i
set_option maxRecDepth 100000 in
theorem l11Runs_fv {a : List (List D)} {low : Int} (g : Zi RII lim a) {k : Nat} (hk : Z3 k) {β : Type} (K : Bool → Option β) : Ys.f k a low K = K (runsB a low && decide ((a.length : Int) ≤ 80)) := Ys.f_of (by
  have hl := g.1
  have hlim : lim = 1048576 := rfl
  have hb : big = 2 ^ 64 := rfl
  unfold Ys.t Ys.g
  rw [Zb6 (n := a.length) (runP a low) (r1 := some false) (r2 := some (decide ((a.length : Int) ≤ 80))) (by unfold Z3 at hk; omega)]
  · unfold runsB
    generalize List.all _ _ = x
    cases x <;> rfl
  · intro L i hi
    unfold runP
    simp (disch := omega) only [Ys.l0, atR, rdQ, Q.ask, ZQ (show (i : Int) < a.length by omega), cond_true, RII.row g, ZY, Zad, Z6, l1In_fv, Zj]
    by_cases h0 : (i : Int) > 0
    · simp (disch := omega) only [ZQ h0, cond_true, RII.row g, ZY, Zad, Z6]
      cases inB (gI a (i : Int) 0) 1 1000000 <;> cases inB (gI a (i : Int) 1) low 10000 <;> cases decide (gI a ((i : Int) - 1) 0 ≥ gI a (i : Int) 0) <;> rfl
    · simp only [ZV h0, cond_false]
      cases inB (gI a (i : Int) 0) 1 1000000 <;> cases inB (gI a (i : Int) 1) low 10000 <;> rfl
  · intro L
    simp [Ys.l0, atR, rdQ, Q.ask]) K
theorem Yi.f_of {β : Type} {k a0 z0} (h : Yi.t k a0 = some z0) (K : Int → Option β) : Yi.f k a0 K = K z0 := by unfold Yi.f; rw [h]; rfl
theorem Yi.tm {ι α : Type} {ok : ι → Prop} {ψ : α → Prop} {p : ι → Nat} {B : Nat} (hp : ∀ i, ok i → B ≤ p i) {a0 φ} (h : Tm (fun k => B ≤ k) (fun k => Yi.t k a0) φ) {G : ι → Int → Option α} (hG : ∀ z0, φ z0 → Tm ok (fun i => G i z0) ψ) : Tm ok (fun i => Yi.f (p i) a0 (G i)) ψ := ZK (t := fun k => Yi.t k a0) hp h hG
set_option maxRecDepth 100000 in
theorem Yi.T {a0 : List (List D)} (ga0 : Zi RII lim a0) : Tm Z3 (fun k => Yi.t k a0) (fun _ => True) := by
  unfold Yi.t Yi.g
  have hm := Zy
  have hlim : lim = 1048576 := rfl
  have la0 := ga0.1
  refine Tm.loop (okk := Z3) (p := fun k => k) (fun i hi => hi) (b := fun k => Yi.l0 k a0 (fun z0 => some z0)) (fun v => match v with | (u0, i) => (((a0.length : Int)) - i).toNat) (fun v => match v with | (u0, i) => 0 ≤ i ∧ i ≤ (a0.length : Int)) ?_ ?_ ?_
  · rintro ⟨u0, i⟩ hI
    try simp only [] at hI ⊢
    have : big = 2 ^ 64 := rfl
    omega
  · ((try simp only []); omega)
  · rintro ⟨u0, i⟩ hI L hL
    try simp only [] at hI
    obtain ⟨i0, i1⟩ := hI
    simp only [Yi.l0, atR, rdQ, Q.ask]
    refine Tm.ite (fun h1 => ?_) (fun h1 => ?_)
    · try simp only [bz0, bz1, bz2, bz3, bz4, bz5, bz6, bz7, bz8, bz9, bza] at h1
      refine Tm.atRow (by first | assumption | omega) (by first | assumption | omega) (fun x2 hx3 hm4 => ?_)
      obtain ⟨c5, c6, rfl, g7, g8, _⟩ := (ga0.2 x2 hm4).open
      refine Tm.uncons ?_
      refine Tm.dInt ?_
      refine Tm.uncons ?_
      refine Tm.dInt ?_
      refine Tm.atEnd ?_
      try rw [Zj (x := u0 + c6) (by omega) (by omega)]
      try rw [Zj (x := i + 1) (by omega) (by omega)]
      exact hL _ (by (try simp only []); omega) (by (try simp only []); omega)
    · try simp only [bz0, bz1, bz2, bz3, bz4, bz5, bz6, bz7, bz8, bz9, bza] at h1
      exact Tm.ret (by trivial)
noncomputable def Yi.v (a0 : List (List D)) : Int := (Yi.t big a0).getD default
theorem Yi.tv {a0 : List (List D)} (ga0 : Zi RII lim a0) {k : Nat} (hk : Z3 k) : Yi.t k a0 = some (Yi.v a0) := (Yi.T ga0).val hk
theorem Yi.fv {a0 : List (List D)} (ga0 : Zi RII lim a0) {k : Nat} (hk : Z3 k) {β : Type} (K : Int → Option β) : Yi.f k a0 K = K (Yi.v a0) := Yi.f_of (Yi.tv ga0 hk) K
theorem YK.f_of {β : Type} {k aA aB aF aD aC z0} (h : YK.t k aA aB aF aD aC = some z0) (K : Bool → Option β) : YK.f k aA aB aF aD aC K = K z0 := by unfold YK.f; rw [h]; rfl
theorem YK.T {aA : ByteArray} {aB aF : Int} {aD aC : List (List D)} (ga0_0 : aA.size ≤ lim) (ga0_3 : Zi Yc lim aD) (ga0_4 : Zi RII lim aC) : Tm (ZF 1) (fun k => YK.t k aA aB aF aD aC) (fun _ => True) := by
  unfold YK.t YK.g
  have hm := Zy
  have hlim : lim = 1048576 := rfl
  have la0_3 := ga0_3.1
  have la0_4 := ga0_4.1
  refine Yk.tm (fun i hi => up0 hi) (Yk.T (by first | assumption | omega)) (fun y2 hy1 => ?_)
  refine Tm.ite (fun h3 => ?_) (fun h3 => ?_)
  · try simp only [bz0, bz1, bz2, bz3, bz4, bz5, bz6, bz7, bz8, bz9, bza] at h3
    refine Yy.tm (fun i hi => up0 hi) (Yy.T) (fun y5 hy4 => ?_)
    refine Tm.ite (fun h6 => ?_) (fun h6 => ?_)
    · try simp only [bz0, bz1, bz2, bz3, bz4, bz5, bz6, bz7, bz8, bz9, bza] at h6
      have z7 := hy4 h6
      refine Yy.tm (fun i hi => up0 hi) (Yy.T) (fun y9 hy8 => ?_)
      refine Tm.ite (fun h10 => ?_) (fun h10 => ?_)
      · try simp only [bz0, bz1, bz2, bz3, bz4, bz5, bz6, bz7, bz8, bz9, bza] at h10
        have z11 := hy8 h10
        refine Yh.tm (fun i hi => hi) (Yh.T (by first | assumption | omega)) (fun y13 hy12 => ?_)
        refine Tm.ite (fun h14 => ?_) (fun h14 => ?_)
        · try simp only [bz0, bz1, bz2, bz3, bz4, bz5, bz6, bz7, bz8, bz9, bza] at h14
          refine Ys.tm (fun i hi => up0 hi) (Ys.T (by first | assumption | omega)) (fun y16 hy15 => ?_)
          refine Tm.ite (fun h17 => ?_) (fun h17 => ?_)
          · try simp only [bz0, bz1, bz2, bz3, bz4, bz5, bz6, bz7, bz8, bz9, bza] at h17
            refine Yi.tm (fun i hi => up0 hi) (Yi.T (by first | assumption | omega)) (fun y19 hy18 => ?_)
            exact Tm.ret (by trivial)
          · try simp only [bz0, bz1, bz2, bz3, bz4, bz5, bz6, bz7, bz8, bz9, bza] at h17
            exact Tm.ret (by trivial)
        · try simp only [bz0, bz1, bz2, bz3, bz4, bz5, bz6, bz7, bz8, bz9, bza] at h14
          exact Tm.ret (by trivial)
      · try simp only [bz0, bz1, bz2, bz3, bz4, bz5, bz6, bz7, bz8, bz9, bza] at h10
        exact Tm.ret (by trivial)
    · try simp only [bz0, bz1, bz2, bz3, bz4, bz5, bz6, bz7, bz8, bz9, bza] at h6
      exact Tm.ret (by trivial)
  · try simp only [bz0, bz1, bz2, bz3, bz4, bz5, bz6, bz7, bz8, bz9, bza] at h3
    exact Tm.ret (by trivial)
noncomputable def YK.v (aA : ByteArray) (aB aF : Int) (aD aC : List (List D)) : Bool := (YK.t (lv 1) aA aB aF aD aC).getD default
theorem YK.tv {aA : ByteArray} {aB aF : Int} {aD aC : List (List D)} (ga0_0 : aA.size ≤ lim) (ga0_3 : Zi Yc lim aD) (ga0_4 : Zi RII lim aC) {k : Nat} (hk : (ZF 1) k) : YK.t k aA aB aF aD aC = some (YK.v aA aB aF aD aC) := (YK.T ga0_0 ga0_3 ga0_4).val hk
theorem YK.fv {aA : ByteArray} {aB aF : Int} {aD aC : List (List D)} (ga0_0 : aA.size ≤ lim) (ga0_3 : Zi Yc lim aD) (ga0_4 : Zi RII lim aC) {k : Nat} (hk : (ZF 1) k) {β : Type} (K : Bool → Option β) : YK.f k aA aB aF aD aC K = K (YK.v aA aB aF aD aC) := YK.f_of (YK.tv ga0_0 ga0_3 ga0_4 hk) K
theorem Ym.f_of {β : Type} {k aA aB aF aD aC a1 z0} (h : Ym.t k aA aB aF aD aC a1 = some z0) (K : Int → Option β) : Ym.f k aA aB aF aD aC a1 K = K z0 := by unfold Ym.f; rw [h]; rfl
set_option maxRecDepth 100000 in
theorem Ym.T {aA : ByteArray} {aB aF : Int} {aD aC : List (List D)} {a1 : Int} (ga0_0 : aA.size ≤ lim) (ga0_3 : Zi Yc lim aD) (ga0_4 : Zi RII lim aC) : Tm Z3 (fun k => Ym.t k aA aB aF aD aC a1) (fun _ => True) := by
  unfold Ym.t Ym.g
  have hm := Zy
  have hlim : lim = 1048576 := rfl
  have la0_3 := ga0_3.1
  have la0_4 := ga0_4.1
  refine Tm.loop (okk := Z3) (p := fun k => k) (fun i hi => hi) (b := fun k => Ym.l0 k a1 aA aB aF aD aC (fun z0 => some z0)) (fun i => (((aD.length : Int)) - i).toNat) (fun i => 0 ≤ i ∧ i ≤ (aD.length : Int)) ?_ ?_ ?_
  · rintro i hI
    try simp only [] at hI ⊢
    have : big = 2 ^ 64 := rfl
    omega
  · ((try simp only []); omega)
  · rintro i hI L hL
    try simp only [] at hI
    obtain ⟨i0, i1⟩ := hI
    simp only [Ym.l0, atR, rdQ, Q.ask]
    refine Tm.ite (fun h1 => ?_) (fun h1 => ?_)
    · try simp only [bz0, bz1, bz2, bz3, bz4, bz5, bz6, bz7, bz8, bz9, bza] at h1
      refine Tm.atRow (by first | assumption | omega) (by first | assumption | omega) (fun x2 hx3 hm4 => ?_)
      obtain ⟨c5, c6, c7, c8, c9, c10, c11, rfl, g12, g13, g14, g15, g16, g17, g18, _⟩ := (ga0_3.2 x2 hm4).open
      refine Tm.uncons ?_
      refine Tm.dInt ?_
      refine Tm.uncons ?_
      refine Tm.dInt ?_
      refine Tm.uncons ?_
      refine Tm.dInt ?_
      refine Tm.uncons ?_
      refine Tm.dStr ?_
      refine Tm.uncons ?_
      refine Tm.dInt ?_
      refine Tm.uncons ?_
      refine Tm.dSl ?_
      refine Tm.uncons ?_
      refine Tm.dSl ?_
      refine Tm.atEnd ?_
      refine Tm.ite (fun h19 => ?_) (fun h19 => ?_)
      · try simp only [bz0, bz1, bz2, bz3, bz4, bz5, bz6, bz7, bz8, bz9, bza] at h19
        refine Tm.atRow (by first | assumption | omega) (by first | assumption | omega) (fun x20 hx21 hm22 => ?_)
        rw [hx3] at hx21
        injection hx21 with hx21
        subst hx21
        refine Tm.uncons ?_
        refine Tm.dInt ?_
        refine Tm.uncons ?_
        refine Tm.dInt ?_
        refine Tm.uncons ?_
        refine Tm.dInt ?_
        refine Tm.uncons ?_
        refine Tm.dStr ?_
        refine Tm.uncons ?_
        refine Tm.dInt ?_
        refine Tm.uncons ?_
        refine Tm.dSl ?_
        refine Tm.uncons ?_
        refine Tm.dSl ?_
        refine Tm.atEnd ?_
        exact Tm.ret (by trivial)
      · try simp only [bz0, bz1, bz2, bz3, bz4, bz5, bz6, bz7, bz8, bz9, bza] at h19
        try rw [Zj (x := i + 1) (by omega) (by omega)]
        exact hL _ (by (try simp only []); omega) (by (try simp only []); omega)
    · try simp only [bz0, bz1, bz2, bz3, bz4, bz5, bz6, bz7, bz8, bz9, bza] at h1
      exact Tm.ret (by trivial)
noncomputable def Ym.v (aA : ByteArray) (aB aF : Int) (aD aC : List (List D)) (a1 : Int) : Int := (Ym.t big aA aB aF aD aC a1).getD default
theorem Ym.tv {aA : ByteArray} {aB aF : Int} {aD aC : List (List D)} {a1 : Int} (ga0_0 : aA.size ≤ lim) (ga0_3 : Zi Yc lim aD) (ga0_4 : Zi RII lim aC) {k : Nat} (hk : Z3 k) : Ym.t k aA aB aF aD aC a1 = some (Ym.v aA aB aF aD aC a1) := (Ym.T ga0_0 ga0_3 ga0_4).val hk
theorem Ym.fv {aA : ByteArray} {aB aF : Int} {aD aC : List (List D)} {a1 : Int} (ga0_0 : aA.size ≤ lim) (ga0_3 : Zi Yc lim aD) (ga0_4 : Zi RII lim aC) {k : Nat} (hk : Z3 k) {β : Type} (K : Int → Option β) : Ym.f k aA aB aF aD aC a1 K = K (Ym.v aA aB aF aD aC a1) := Ym.f_of (Ym.tv ga0_0 ga0_3 ga0_4 hk) K
theorem YL.f_of {β : Type} {k aA aB aF aD aC z0} (h : YL.t k aA aB aF aD aC = some z0) (K : Int → Option β) : YL.f k aA aB aF aD aC K = K z0 := by unfold YL.f; rw [h]; rfl
theorem YU.f_of {β : Type} {k a0 a1 a2 z0} (h : YU.t k a0 a1 a2 = some z0) (K : (List (List C)) → Option β) : YU.f k a0 a1 a2 K = K z0 := by unfold YU.f; rw [h]; rfl
theorem YW.f_of {β : Type} {k a0 a1 z0 z1} (h : YW.t k a0 a1 = some (z0, z1)) (K : Int → Bool → Option β) : YW.f k a0 a1 K = K z0 z1 := by unfold YW.f; rw [h]; rfl
theorem Y1.f_of {β : Type} {k : Nat} {aA : ByteArray} {aB aF : Int} {aD aC : List (List D)} {z0 : ByteArray} {z1 z2 : Int} {z3 z4 : List (List C)} {z5 z6 : Int} (h : Y1.t k aA aB aF aD aC = some (z0, z1, z2, z3, z4, z5, z6)) (K : ByteArray → Int → Int → (List (List C)) → (List (List C)) → Int → Int → Option β) : Y1.f k aA aB aF aD aC K = K z0 z1 z2 z3 z4 z5 z6 := by
  unfold Y1.f
  rw [h]
theorem Yam.tm {ι α : Type} {ok : ι → Prop} {ψ : α → Prop} {p : ι → Nat} {B : Nat} (hp : ∀ i, ok i → B ≤ p i) {aA aB aF aD aC φ} (h : Tm (fun k => B ≤ k) (fun k => Yam.t k aA aB aF aD aC) φ) {G : ι → Bool → Option α} (hG : ∀ z0, φ z0 → Tm ok (fun i => G i z0) ψ) : Tm ok (fun i => Yam.f (p i) aA aB aF aD aC (G i)) ψ := ZK (t := fun k => Yam.t k aA aB aF aD aC) hp h hG
theorem YQ.f_of {β : Type} {k a0 z0} (h : YQ.t k a0 = some z0) (K : (List (List C)) → Option β) : YQ.f k a0 K = K z0 := by unfold YQ.f; rw [h]; rfl
theorem clone_string_fv {a : List (List D)} (g : Zi RS lim a) {k : Nat} {β : Type} (K : List (List C) → Option β) : YQ.f k a K = K (a.map (·.map C.d)) := YQ.f_of (by
  have hl := g.1
  have hlim : lim = 1048576 := rfl
  have hm : ZN = 2 ^ 36 := rfl
  unfold YQ.t YQ.g
  rw [ZaP (RS.flat g.2), ZaP (by simp only [List.length_nil, map_len]; omega), List.nil_append]
  exact nilSl_same) K
theorem Yg.f_of {β : Type} {k aA aB aF aD aC z0 z1 z2 z3 z4} (h : Yg.t k aA aB aF aD aC = some (z0, z1, z2, z3, z4)) (K : Int → ByteArray → Int → (List (List C)) → (List (List C)) → Option β) : Yg.f k aA aB aF aD aC K = K z0 z1 z2 z3 z4 := by unfold Yg.f Yg.w; rw [h]; rfl
set_option maxRecDepth 100000 in
theorem copyVal (n : Nat) : ∀ (c0 : Int) (c1 : ByteArray) (c2 : Int) (c3 c4 : List (List D)), Zi RS lim c3 → c4.length ≤ lim → (∀ x ∈ c4, YY lim n x) → ∀ {k : Nat}, big + n + 1 ≤ k → Yg.t k c0 c1 c2 c3 c4 = some (c0, c1, c2, Zb c3, Zb c4) := by
  have hm : ZN = 2 ^ 36 := rfl
  have hlim : lim = 1048576 := rfl
  have hb : big = 2 ^ 64 := rfl
  induction n using Nat.strongRecOn with
  | ind n ih =>
  intro c0 c1 c2 c3 c4 g3 l4 g4 k hk
  obtain ⟨k, rfl⟩ : ∃ k', k = k' + 1 := ⟨k - 1, by omega⟩
  rw [Yg.t_succ]
  unfold Yg.g Yg.body
  rw [clone_string_fv g3]
  refine (iter_copy (xs := c4) (r := some (c0, c1, c2, c3.map (·.map C.d), Zb c4)) (by omega) (fun L i hi => ?_) (fun L => ?_)).trans (by rw [RS.deep g3.2])
  · have hl : (Zb (c4.take i)).length = i := by rw [Zw, List.length_take]; omega
    obtain ⟨n', hn', d0, d1, d2, d3, d4, e, w0, w1, w2, w3, w4, w5⟩ : ∃ n', n = n' + 1 ∧ ∃ d0 d1 d2 d3 d4, gR c4 (i : Int) = [.int .i64 d0, .str d1, .int .i64 d2, .sl d3, .sl d4] ∧ (Lit.int .i64 d0).wf = true ∧ d1.size ≤ lim ∧ (Lit.int .i64 d2).wf = true ∧ Zi RS lim d3 ∧ d4.length ≤ lim ∧ ∀ x ∈ d4, YY lim n' x := by
      have := g4 _ (gR_mem (xs := c4) (v := (i : Int)) (by omega) (by omega))
      generalize gR c4 (i : Int) = r at this
      cases this with
      | mk e0 e1 e2 e3 e4 w0 p1 w2 p3 p4 p5 => exact ⟨_, rfl, _, _, _, _, _, rfl, w0, p1, w2, p3, p4, p5⟩
    simp (disch := omega) only [Yg.l0, atR, rdQ, Q.ask, ZQ (show (i : Int) < c4.length by omega), cond_true, Zbp (xs := c4) (v := (i : Int)), e, ZY, Zad, Zaj, Za7, Z6, Yg.f_of (ih n' (by omega) d0 d1 d2 d3 d4 w3 w4 w5 (k := k) (by omega)), Zj]
    rw [ZaP (by rw [hl, List.length_singleton]; omega)]
    simp only [ZZ, ZbW]
  · simp only [Yg.l0, atR, rdQ, Q.ask, ZV (show ¬ (c4.length : Int) < c4.length by omega), cond_false]
set_option maxRecDepth 100000 in
theorem l4CopyVal (n : Nat) : ∀ (c0 : Int) (c1 : ByteArray) (c2 : Int) (c3 c4 : List (List D)), Zi RS lim c3 → c4.length ≤ lim → (∀ x ∈ c4, YY lim n x) → ∀ {k : Nat}, big + n + 1 ≤ k → Yr.t k c0 c1 c2 c3 c4 = some (c0, c1, c2, Zb c3, Zb c4) := by
  have hm : ZN = 2 ^ 36 := rfl
  have hlim : lim = 1048576 := rfl
  have hb : big = 2 ^ 64 := rfl
  induction n using Nat.strongRecOn with
  | ind n ih =>
  intro c0 c1 c2 c3 c4 g3 l4 g4 k hk
  have l3 := g3.1
  obtain ⟨k, rfl⟩ : ∃ k', k = k' + 1 := ⟨k - 1, by omega⟩
  rw [Yr.t_succ]
  unfold Yr.g Yr.body
  rw [ZaP (RS.flat g3.2), ZaP (by simp only [List.length_nil, map_len]; omega), List.nil_append]
  refine (iter_copy (xs := c4) (r := some (c0, c1, c2, c3.map (·.map C.d), Zb c4)) (by omega) (fun L i hi => ?_) (fun L => ?_)).trans (by rw [RS.deep g3.2])
  · have hl : (Zb (c4.take i)).length = i := by rw [Zw, List.length_take]; omega
    obtain ⟨n', hn', d0, d1, d2, d3, d4, e, w0, w1, w2, w3, w4, w5⟩ : ∃ n', n = n' + 1 ∧ ∃ d0 d1 d2 d3 d4, gR c4 (i : Int) = [.int .i64 d0, .str d1, .int .i64 d2, .sl d3, .sl d4] ∧ (Lit.int .i64 d0).wf = true ∧ d1.size ≤ lim ∧ (Lit.int .i64 d2).wf = true ∧ Zi RS lim d3 ∧ d4.length ≤ lim ∧ ∀ x ∈ d4, YY lim n' x := by
      have := g4 _ (gR_mem (xs := c4) (v := (i : Int)) (by omega) (by omega))
      generalize gR c4 (i : Int) = r at this
      cases this with
      | mk e0 e1 e2 e3 e4 w0 p1 w2 p3 p4 p5 => exact ⟨_, rfl, _, _, _, _, _, rfl, w0, p1, w2, p3, p4, p5⟩
    simp (disch := omega) only [Yr.l0, atR, rdQ, Q.ask, ZQ (show (i : Int) < c4.length by omega), cond_true, Zbp (xs := c4) (v := (i : Int)), e, ZY, Zad, Zaj, Za7, Z6, Yr.f_of (ih n' (by omega) d0 d1 d2 d3 d4 w3 w4 w5 (k := k) (by omega)), Zj]
    rw [ZaP (by rw [hl, List.length_singleton]; omega)]
    simp only [ZZ, ZbW]
  · simp only [Yr.l0, atR, rdQ, Q.ask, ZV (show ¬ (c4.length : Int) < c4.length by omega), cond_false]
theorem value_h {xs : List (List D)} (g : Zi YJ lim xs) : ∀ x ∈ xs, YY lim 1099511627776 x := fun x hx => by
  obtain ⟨h, hh, hx⟩ := g.2 x hx
  exact hx.mono (hh (by decide))
theorem copyValue_fv {c0 c2 : Int} {c1 : ByteArray} {c3 c4 : List (List D)} (g3 : Zi RS lim c3) (g4 : Zi YJ lim c4) {k : Nat} (hk : ZF 1 k) {β : Type} (K : Int → ByteArray → Int → List (List C) → List (List C) → Option β) : Yg.f k c0 c1 c2 c3 c4 K = K c0 c1 c2 (Zb c3) (Zb c4) :=
  Yg.f_of (copyVal 1099511627776 c0 c1 c2 c3 c4 g3 g4.1 (value_h g4) (Nat.le_trans (big_lv1 (n := 1099511627776 + 1) (by omega)) hk)) K
theorem l4Copy_fv {c0 c2 : Int} {c1 : ByteArray} {c3 c4 : List (List D)} (g3 : Zi RS lim c3) (g4 : Zi YJ lim c4) {k : Nat} (hk : ZF 1 k) {β : Type} (K : Int → ByteArray → Int → List (List C) → List (List C) → Option β) : Yr.f k c0 c1 c2 c3 c4 K = K c0 c1 c2 (Zb c3) (Zb c4) :=
  Yr.f_of (l4CopyVal 1099511627776 c0 c1 c2 c3 c4 g3 g4.1 (value_h g4) (Nat.le_trans (big_lv1 (n := 1099511627776 + 1) (by omega)) hk)) K
theorem Yw.f_of {β : Type} {k a0 z0} (h : Yw.t k a0 = some z0) (K : (List (List C)) → Option β) : Yw.f k a0 K = K z0 := by unfold Yw.f; rw [h]; rfl
set_option maxRecDepth 100000 in
theorem copyWorks_fv {a : List (List D)} (g : Zi Yc lim a) {k : Nat} (hk : ZF 1 k) {β : Type} (K : List (List C) → Option β) : Yw.f k a K = K (Zb a) := Yw.f_of (by
  have hm : ZN = 2 ^ 36 := rfl
  have hlim : lim = 1048576 := rfl
  have hb : big = 2 ^ 64 := rfl
  have hk0 : big ≤ k := up0 hk
  have l := g.1
  unfold Yw.t Yw.g
  refine iter_copy (xs := a) (by omega) (fun L i hi => ?_) (fun L => ?_)
  · have hl : (Zb (a.take i)).length = i := by rw [Zw, List.length_take]; omega
    obtain ⟨e, -, -, -, k3, -, k5, k6, -⟩ := Yc.get g (v := (i : Int)) (by omega) (by omega)
    simp (disch := omega) only [Yw.l0, atR, rdQ, Q.ask, ZQ (show (i : Int) < a.length by omega), cond_true, Zbp (xs := a) (v := (i : Int)), e, ZY, Zad, Zaj, Za7, Z6, copyValue_fv k5 k6 hk, Zj]
    rw [ZaP (by rw [hl, List.length_singleton]; omega)]
    simp only [ZZ, ZbW]
  · simp only [Yw.l0, atR, rdQ, Q.ask, ZV (show ¬ (a.length : Int) < a.length by omega), cond_false]) K
set_option maxRecDepth 100000 in
theorem l12Works_fv {a : List (List D)} (g : Zi Yc lim a) {k : Nat} (hk : ZF 1 k) {β : Type} (K : List (List C) → Option β) : YA.f k a K = K (Zb a) := YA.f_of (by
  have hm : ZN = 2 ^ 36 := rfl
  have hlim : lim = 1048576 := rfl
  have hb : big = 2 ^ 64 := rfl
  have hk0 : big ≤ k := up0 hk
  have l := g.1
  unfold YA.t YA.g
  refine iter_copy (xs := a) (by omega) (fun L i hi => ?_) (fun L => ?_)
  · have hl : (Zb (a.take i)).length = i := by rw [Zw, List.length_take]; omega
    obtain ⟨e, -, -, -, k3, -, k5, k6, -⟩ := Yc.get g (v := (i : Int)) (by omega) (by omega)
    simp (disch := omega) only [YA.l0, atR, rdQ, Q.ask, ZQ (show (i : Int) < a.length by omega), cond_true, Zbp (xs := a) (v := (i : Int)), e, ZY, Zad, Zaj, Za7, Z6, l4Copy_fv k5 k6 hk, Zj]
    rw [ZaP (by rw [hl, List.length_singleton]; omega)]
    simp only [ZZ, ZbW]
  · simp only [YA.l0, atR, rdQ, Q.ask, ZV (show ¬ (a.length : Int) < a.length by omega), cond_false]) K
theorem YN.f_of {β : Type} {k a0 z0} (h : YN.t k a0 = some z0) (K : (List (List C)) → Option β) : YN.f k a0 K = K z0 := by unfold YN.f; rw [h]; rfl
theorem clone_run_fv {a : List (List D)} (g : Zi RII lim a) {k : Nat} {β : Type} (K : List (List C) → Option β) : YN.f k a K = K (a.map (·.map C.d)) := YN.f_of (by
  have hl := g.1
  have hlim : lim = 1048576 := rfl
  have hm : ZN = 2 ^ 36 := rfl
  unfold YN.t YN.g
  rw [ZaP (RII.flat g.2), ZaP (by simp only [List.length_nil, map_len]; omega), List.nil_append]
  exact nilSl_same) K
theorem Y8.f_of {β : Type} {k aA aB aF aD aC z0 z1 z2 z3 z4} (h : Y8.t k aA aB aF aD aC = some (z0, z1, z2, z3, z4)) (K : ByteArray → Int → Int → (List (List C)) → (List (List C)) → Option β) : Y8.f k aA aB aF aD aC K = K z0 z1 z2 z3 z4 := by unfold Y8.f; rw [h]; rfl
theorem YX.f_of {β : Type} {k a0 a1 a2 z0} (h : YX.t k a0 a1 a2 = some z0) (K : Bool → Option β) : YX.f k a0 a1 a2 K = K z0 := by unfold YX.f; rw [h]; rfl
theorem within_f {β : Type} {k : Nat} {a b c : Int} (K : Bool → Option β) : YX.f k a b c K = K (decide (b ≤ a) && decide (a ≤ c)) := by
  refine YX.f_of ?_ K
  unfold YX.t YX.g
  by_cases h : b ≤ a <;> simp [h]
theorem YS.same {k : Nat} {a : ByteArray} : YS.t k a = Yk.t k a := by
  unfold YS.t Yk.t YS.g Yk.g
  congr 1
  funext L v
  simp only [YS.l0, Yk.l0, l1In_f, within_f]
  refine bif_congr (fun _ => ?_) (fun _ => rfl)
  unfold Za0
  split
  · split
    · rename_i b _
      have hb : b.toNat < 256 := b.toNat_lt
      simp only []
      rw [Zj (x := (b.toNat : Int)) (by omega) (by omega)]
      generalize (b.toNat : Int) = x
      by_cases h1 : x < 97 <;> by_cases h2 : x < 48 <;> by_cases h3 : x > 57 <;> by_cases h4 : x > 122 <;> simp [h1, h2, h3, h4] <;> (try omega) <;> grind
    · rfl
  · rfl
theorem impl_NameOk_f {β : Type} {k : Nat} {a : ByteArray} (K : Bool → Option β) : YS.f k a K = Yk.f k a K := by
  unfold YS.f Yk.f
  rw [YS.same]
theorem within_fv {β : Type} {k : Nat} {a b c : Int} (K : Bool → Option β) : YX.f k a b c K = K (inB a b c) := within_f K
theorem Y2.f_of {β : Type} {k a0 z0} (h : Y2.t k a0 = some z0) (K : Bool → Option β) : Y2.f k a0 K = K z0 := by unfold Y2.f; rw [h]; rfl
theorem isCopies_f {β : Type} {k : Nat} {a : Int} (K : Bool → Option β) : Y2.f k a K = K (decide (0 ≤ a) && decide (a ≤ 10000)) := by
  refine Y2.f_of ?_ K
  unfold Y2.t Y2.g
  rw [within_f]
theorem YM.f_of {β : Type} {k a0 a1 z0} (h : YM.t k a0 a1 = some z0) (K : Bool → Option β) : YM.f k a0 a1 K = K z0 := by unfold YM.f; rw [h]; rfl
set_option maxRecDepth 100000 in
theorem namesOk_fv {a : List (List D)} {n : Int} (g : Zi RS lim a) {k : Nat} (hk : Z3 k) {β : Type} (K : Bool → Option β) : YM.f k a n K = K (namesB a && decide ((a.length : Int) ≤ n)) := YM.f_of (by
  have hl := g.1
  have hlim : lim = 1048576 := rfl
  have hb : big = 2 ^ 64 := rfl
  unfold YM.t YM.g
  rw [Zb6 (n := a.length) (fun i => Yk.v (gS a (i : Int) 0) && (!decide ((i : Int) > 0) || ZbO (gS a ((i : Int) - 1) 0) (gS a (i : Int) 0))) (r1 := some false) (r2 := some (decide ((a.length : Int) ≤ n))) (by unfold Z3 at hk; omega)]
  · unfold namesB
    generalize List.all _ _ = x
    cases x <;> rfl
  · intro L i hi
    have k0 := (RS.get g (v := (i : Int)) (by omega) (by omega)).2.1
    simp (disch := omega) only [YM.l0, atR, rdQ, Q.ask, ZQ (show (i : Int) < a.length by omega), cond_true, RS.row g, ZY, Zaj, Z6, impl_NameOk_f, Yk.fv k0 hk, Zj]
    by_cases h0 : (i : Int) > 0
    · simp (disch := omega) only [ZQ h0, cond_true, RS.row g, ZY, Zaj, Z6]
      cases Yk.v (gS a (i : Int) 0) <;> cases ZbO (gS a ((i : Int) - 1) 0) (gS a (i : Int) 0) <;> rfl
    · simp only [ZV h0, cond_false]
      cases Yk.v (gS a (i : Int) 0) <;> rfl
  · intro L
    simp [YM.l0, atR, rdQ, Q.ask]) K
theorem YC.f_of {β : Type} {k aA aB aF aD aC z0} (h : YC.t k aA aB aF aD aC = some z0) (K : Bool → Option β) : YC.f k aA aB aF aD aC K = K z0 := by unfold YC.f; rw [h]; rfl
theorem Yj.f_of {β : Type} {k aA aB aF aD aC a1 z0} (h : Yj.t k aA aB aF aD aC a1 = some z0) (K : Int → Option β) : Yj.f k aA aB aF aD aC a1 K = K z0 := by unfold Yj.f Yj.w; rw [h]; rfl
theorem Yad.f_of {β : Type} {k aA aB aF aD aC z0} (h : Yad.t k aA aB aF aD aC = some z0) (K : Bool → Option β) : Yad.f k aA aB aF aD aC K = K z0 := by unfold Yad.f; rw [h]; rfl
theorem shapeOk_fv {c0 : Int} {c1 : ByteArray} {c2 : Int} {c3 c4 : List (List D)} (g1 : c1.size ≤ lim) (g3 : Zi RS lim c3) {k : Nat} (hk : Z3 k) {β : Type} (K : Bool → Option β) : YC.f k c0 c1 c2 c3 c4 K = K (Yat c0 c1 c2 c3 c4 && (!(c0 == 5) || decide ((c3.length : Int) ≤ 300))) := YC.f_of (by
  have hlim : lim = 1048576 := rfl
  have hb : big = 2 ^ 64 := rfl
  unfold YC.t YC.g YC.m
  have text : Zo (YC.l0 k ((c2 : Int) == 0) (((c3.length : Int) : Int) == 0) (((c4.length : Int) : Int) == 0) (c1.size : Int) c0 c1 c2 c3 c4 fun z0 => some z0) k 0 = some (textB c1 && (decide ((c1.size : Int) ≤ 100) && (c2 == 0 && ((c3.length : Int) == 0 && (c4.length : Int) == 0)))) := by
    rw [Zb6 (n := c1.size) (fun i => inB (bS c1 (i : Int)) 32 126) (r1 := some false) (r2 := some (decide ((c1.size : Int) ≤ 100) && (c2 == 0 && ((c3.length : Int) == 0 && (c4.length : Int) == 0)))) (by unfold Z3 at hk; omega)]
    · unfold textB
      generalize List.all _ _ = x
      cases x <;> rfl
    · intro L i hi
      simp (disch := omega) only [YC.l0, ZQ (show (i : Int) < c1.size by omega), cond_true, atStr_at, wrap_b, within_fv, Zj]
      generalize inB _ _ _ = x
      cases x <;> rfl
    · intro L
      simp only [YC.l0, ZV (show ¬ (c1.size : Int) < c1.size by omega), cond_false]
      cases decide ((c1.size : Int) ≤ 100) <;> cases c2 == 0 <;> cases ((c3.length : Int) == 0) <;> rfl
  simp only [text, within_fv, namesOk_fv g3 hk]
  unfold Yat
  generalize textB c1 = b1
  generalize decide ((c1.size : Int) ≤ 100) = b0
  generalize hb2 : Zae c1 (⟨#[]⟩ : ByteArray) = b2
  have hb3 : Zae c1 bareText = b2 := hb2
  rw [hb3]
  generalize namesB c3 = b3
  generalize inB c2 0 1 = b4
  generalize (c2 == 0) = b5
  generalize ((c4.length : Int) == 0) = b6
  generalize ((c3.length : Int) == (c4.length : Int)) = b7
  generalize ((c3.length : Int) == 0) = b8
  generalize decide ((c3.length : Int) ≤ 300) = b9
  rcases ZaA c0 with rfl | rfl | rfl | rfl | rfl | ⟨e1, e2, e3, e4, e5⟩
  · cases b0 <;> cases b1 <;> cases b5 <;> cases b6 <;> cases b8 <;> rfl
  · cases b2 <;> cases b6 <;> cases b8 <;> rfl
  · cases b2 <;> cases b4 <;> cases b6 <;> cases b8 <;> rfl
  · cases b2 <;> cases b5 <;> cases b8 <;> rfl
  · cases b2 <;> cases b3 <;> cases b5 <;> cases b7 <;> cases b9 <;> rfl
  · simp only [e1, e2, e3, e4, e5, cond_false, Bool.false_and]) K
set_option maxRecDepth 100000 in
theorem measured_t (d : Nat) : ∀ {c0 : Int} {c1 : ByteArray} {c2 : Int} {c3 c4 : List (List D)}, c1.size ≤ lim → Zi RS lim c3 → Zi YJ lim c4 → d ≤ 6 → ∀ {k : Nat}, big + d + 1 ≤ k → Yj.t k c0 c1 c2 c3 c4 (d : Int) = some (bif Yao d [.int .i64 c0, .str c1, .int .i64 c2, .sl c3, .sl c4] == 0 then 301 else Yao d [.int .i64 c0, .str c1, .int .i64 c2, .sl c3, .sl c4]) := by
  have hlim : lim = 1048576 := rfl
  have hb : big = 2 ^ 64 := rfl
  induction d with
  | zero =>
    intro c0 c1 c2 c3 c4 g1 g3 g4 hd k hk
    cases k with
    | zero => omega
    | succ k => rfl
  | succ d ih =>
    intro c0 c1 c2 c3 c4 g1 g3 g4 hd k hk
    cases k with
    | zero => omega
    | succ k =>
    have hl := g4.1
    have hk0 : Z3 k := by unfold Z3; omega
    rw [Yj.t_succ]
    unfold Yj.g Yj.body
    rw [show (((d + 1 : Nat) : Int) == 0) = false by rw [beq_eq_false_iff_ne]; omega, cond_false, shapeOk_fv g1 g3 hk0]
    have key := iter_val (b := Yj.l0 k (Yj.f k) ((d + 1 : Nat) : Int) c4 (c4.length : Int) fun z0 => some z0) (fun v => ((c4.length : Int) - v.2).toNat) (fun v => 0 ≤ v.2 ∧ v.2 ≤ c4.length ∧ 1 ≤ v.1 ∧ v.1 ≤ 300)
      (fun v => bif sumL (Yao d) (c4.drop v.2.toNat) v.1 == 0 then some 301 else some (sumL (Yao d) (c4.drop v.2.toNat) v.1)) ?_ k (1, 0) (by simp only []; omega) (by simp only []; omega)
    · rw [key]
      show (bif !(Yat c0 c1 c2 c3 c4 && (!(c0 == 5) || decide ((c3.length : Int) ≤ 300))) then some 301 else bif sumL (Yao d) (List.drop 0 c4) 1 == 0 then some 301 else some (sumL (Yao d) (List.drop 0 c4) 1)) = some (bif Yao (d + 1) [.int .i64 c0, .str c1, .int .i64 c2, .sl c3, .sl c4] == 0 then 301 else Yao (d + 1) [.int .i64 c0, .str c1, .int .i64 c2, .sl c3, .sl c4])
      have el : Yao (d + 1) [.int .i64 c0, .str c1, .int .i64 c2, .sl c3, .sl c4] = bif sumL (Yao d) c4 1 == 0 then 0 else bif Yat c0 c1 c2 c3 c4 then sumL (Yao d) c4 1 else 0 := rfl
      rw [List.drop_zero, el]
      have hs := sumL_range (f := Yao d) (fun r => (Yaw d r).1) (rs := c4) (n := 1) (by omega) (by omega)
      by_cases hz : sumL (Yao d) c4 1 = 0
      · rw [hz]
        cases (Yat c0 c1 c2 c3 c4 && (!(c0 == 5) || decide ((c3.length : Int) ≤ 300))) <;> rfl
      · have hz' : (sumL (Yao d) c4 1 == 0) = false := by rw [beq_eq_false_iff_ne]; exact hz
        rw [hz', cond_false, cond_false]
        by_cases hsh : Yat c0 c1 c2 c3 c4 = true
        · have h5 : (!(c0 == 5) || decide ((c3.length : Int) ≤ 300)) = true := by
            by_cases h5 : c0 = 5
            · subst h5
              have : (c3.length : Int) = c4.length := by
                unfold Yat at hsh
                simp at hsh
                omega
              have := hs.2.2 hz
              simp
              omega
            · simp [h5]
          rw [hsh, h5]
          simp only [Bool.and_self, Bool.not_true, cond_false, cond_true, hz']
        · rw [Bool.not_eq_true] at hsh
          rw [hsh]
          rfl
    · rintro ⟨n, i⟩ ⟨i0, i1, n0, n1⟩ L hL
      simp only [] at i0 i1 n0 n1 hL ⊢
      by_cases hi : i < c4.length
      · have hg := YJ.get g4 i0 hi
        have hr := Yaw d (gR c4 i)
        have ih' := ih (c0 := gI c4 i 0) (c2 := gI c4 i 2) hg.2.2.1 hg.2.2.2.2.1 hg.2.2.2.2.2.1 (by omega) (k := k) (by omega)
        rw [← hg.1] at ih'
        simp (disch := omega) only [Yj.l0, atR, rdQ, Q.ask, ZQ hi, cond_true, YJ.row g4, ZY, Zaj, Zad, Za7, Z6, Zj, show ((d + 1 : Nat) : Int) - 1 = (d : Int) by omega]
        rw [Yj.f_of ih', drop_gR i0 hi]
        simp only [sumL]
        by_cases hz : Yao d (gR c4 i) = 0
        · rw [hz, show ((0 : Int) == 0) = true from rfl, cond_true, Zj (by omega) (by omega), ZQ (by omega)]
          simp
        · rw [show (Yao d (gR c4 i) == 0) = false by rw [beq_eq_false_iff_ne]; exact hz, cond_false, Zj (by omega) (by omega)]
          by_cases hn : n + Yao d (gR c4 i) > 300
          · rw [ZQ hn, if_pos (.inr hn)]
            rfl
          · rw [ZV hn, if_neg (by omega), cond_false, hL _ ⟨by simp only []; omega, by simp only []; omega, by simp only []; omega, by simp only []; omega⟩ (by simp only []; omega)]
      · rw [drop_end (by omega)]
        simp only [Yj.l0, atR, rdQ, Q.ask, ZV hi, cond_false, sumL]
        rw [show (n == 0) = false by rw [beq_eq_false_iff_ne]; omega, cond_false]
noncomputable def valB (c0 : Int) (c1 : ByteArray) (c2 : Int) (c3 c4 : List (List D)) : Bool := decide (Yao 6 [.int .i64 c0, .str c1, .int .i64 c2, .sl c3, .sl c4] > 0)
theorem spec_ValueOk_fv {c0 : Int} {c1 : ByteArray} {c2 : Int} {c3 c4 : List (List D)} (g1 : c1.size ≤ lim) (g3 : Zi RS lim c3) (g4 : Zi YJ lim c4) {k : Nat} (hk : ZF 1 k) {β : Type} (K : Bool → Option β) : Y0.f k c0 c1 c2 c3 c4 K = K (valB c0 c1 c2 c3 c4) := Y0.f_of (by
  unfold Y0.t Y0.g
  rw [look_fv (by omega) (by omega) g1 g3 g4 hk]
  rfl) K
theorem impl_ValueOk_fv {c0 : Int} {c1 : ByteArray} {c2 : Int} {c3 c4 : List (List D)} (g1 : c1.size ≤ lim) (g3 : Zi RS lim c3) (g4 : Zi YJ lim c4) {k : Nat} (hk : ZF 1 k) {β : Type} (K : Bool → Option β) : Yad.f k c0 c1 c2 c3 c4 K = K (valB c0 c1 c2 c3 c4) := Yad.f_of (by
  have hb : big = 2 ^ 64 := rfl
  have h1 : lv 1 = 2 ^ 65 := rfl
  unfold Yad.t Yad.g
  rw [Yj.f_of (show Yj.t k c0 c1 c2 c3 c4 6 = _ from measured_t 6 g1 g3 g4 (by omega) (by unfold ZF at hk; omega))]
  unfold valB
  have hr := Yaw 6 [.int .i64 c0, .str c1, .int .i64 c2, .sl c3, .sl c4]
  generalize Yao 6 [.int .i64 c0, .str c1, .int .i64 c2, .sl c3, .sl c4] = n at *
  by_cases hz : n = 0
  · subst hz; rfl
  · rw [show (n == 0) = false by rw [beq_eq_false_iff_ne]; exact hz, cond_false, ZQ (by omega), ZQ (by omega)]) K
theorem YI.f_of {β : Type} {k a0 z0} (h : YI.t k a0 = some z0) (K : Bool → Option β) : YI.f k a0 K = K z0 := by unfold YI.f; rw [h]; rfl
set_option maxRecDepth 100000 in
theorem YI.same {a0 : List (List D)} (g : Zi Yc lim a0) {k : Nat} (hk : ZF 1 k) : YI.t k a0 = Yh.t k a0 := by
  have hl := g.1
  have hlim : lim = 1048576 := rfl
  unfold YI.t Yh.t YI.g Yh.g
  refine congrArg (fun b => Zo b k 0) (funext fun L => funext fun v => ?_)
  simp only [YI.l0, atR, rdQ, Q.ask, Yh.l0, atR, rdQ, Q.ask, within_fv, l1In_fv]
  refine bif_congr (fun h => ?_) (fun _ => rfl)
  by_cases h0 : 0 ≤ v ∧ v < a0.length
  · obtain ⟨h0, h1⟩ := h0
    obtain ⟨-, -, -, -, k3, -, k5, k6, -⟩ := Yc.get g h0 h1
    simp (disch := omega) only [Yc.row g, ZY, Zaj, Zad, Za7, Z6]
    simp only [spec_ValueOk_fv k3 k5 k6 hk, impl_ValueOk_fv k3 k5 k6 hk]
  · simp only [atRow_none h0]
theorem impl_WorksOk_fv {a0 : List (List D)} (g : Zi Yc lim a0) {k : Nat} (hk : ZF 1 k) {β : Type} (K : Bool → Option β) : YI.f k a0 K = K (Yh.v a0) :=
  YI.f_of ((YI.same g hk).trans (Yh.tv g hk)) K
theorem YV.f_of {β : Type} {k a0 z0} (h : YV.t k a0 = some z0) (K : Bool → Option β) : YV.f k a0 K = K z0 := by unfold YV.f; rw [h]; rfl
set_option maxRecDepth 100000 in
theorem runsOk_fv {a : List (List D)} (g : Zi RII lim a) {k : Nat} (hk : Z3 k) {β : Type} (K : Bool → Option β) : YV.f k a K = K (runsB a 0 && decide ((a.length : Int) ≤ 80)) := YV.f_of (by
  have hl := g.1
  have hlim : lim = 1048576 := rfl
  have hb : big = 2 ^ 64 := rfl
  have hc : ∀ {n : Int} {β : Type} (K : Bool → Option β), Y2.f k n K = K (inB n 0 10000) := fun K => isCopies_f K
  unfold YV.t YV.g
  rw [Zb6 (n := a.length) (runP a 0) (r1 := some false) (r2 := some (decide ((a.length : Int) ≤ 80))) (by unfold Z3 at hk; omega)]
  · unfold runsB
    generalize List.all _ _ = x
    cases x <;> rfl
  · intro L i hi
    unfold runP
    simp (disch := omega) only [YV.l0, atR, rdQ, Q.ask, ZQ (show (i : Int) < a.length by omega), cond_true, RII.row g, ZY, Zad, Z6, within_fv, hc, Zj]
    by_cases h0 : (i : Int) > 0
    · simp (disch := omega) only [ZQ h0, cond_true, RII.row g, ZY, Zad, Z6]
      cases inB (gI a (i : Int) 0) 1 1000000 <;> cases inB (gI a (i : Int) 1) 0 10000 <;> cases decide (gI a ((i : Int) - 1) 0 ≥ gI a (i : Int) 0) <;> rfl
    · simp only [ZV h0, cond_false]
      cases inB (gI a (i : Int) 0) 1 1000000 <;> cases inB (gI a (i : Int) 1) 0 10000 <;> rfl
  · intro L
    simp [YV.l0, atR, rdQ, Q.ask]) K
theorem Y9.f_of {β : Type} {k aA aB z0} (h : Y9.t k aA aB = some z0) (K : Bool → Option β) : Y9.f k aA aB K = K z0 := by unfold Y9.f; rw [h]; rfl
theorem Yb.f_of {β : Type} {k a0 z0} (h : Yb.t k a0 = some z0) (K : Int → Option β) : Yb.f k a0 K = K z0 := by unfold Yb.f; rw [h]; rfl
theorem Yf.f_of {β : Type} {k a0 z0} (h : Yf.t k a0 = some z0) (K : Bool → Option β) : Yf.f k a0 K = K z0 := by unfold Yf.f; rw [h]; rfl
theorem Yx.f_of {β : Type} {k aA aB aF aD aC z0} (h : Yx.t k aA aB aF aD aC = some z0) (K : Int → Option β) : Yx.f k aA aB aF aD aC K = K z0 := by unfold Yx.f; rw [h]; rfl
theorem Yaa.f_of {β : Type} {k aA aB aF aD aC z0} (h : Yaa.t k aA aB aF aD aC = some z0) (K : Bool → Option β) : Yaa.f k aA aB aF aD aC K = K z0 := by unfold Yaa.f; rw [h]; rfl
theorem runs_low (a : List (List D)) : runsB a 1 = (runsB a 0 && (List.range a.length).all fun i => !(gI a (i : Int) 1 == 0)) := by
  unfold runsB
  rw [Bool.eq_iff_iff]
  simp only [Bool.and_eq_true, List.all_eq_true]
  have h1 : ∀ i, runP a 1 i = (runP a 0 i && !(gI a (i : Int) 1 == 0)) := fun i => by
    unfold runP
    have : inB (gI a (i : Int) 1) 1 10000 = (inB (gI a (i : Int) 1) 0 10000 && !(gI a (i : Int) 1 == 0)) := by
      unfold inB
      generalize gI a (i : Int) 1 = n
      by_cases h1 : 1 ≤ n
      · rw [ZQ h1, ZQ (show 0 ≤ n by omega), show (n == 0) = false by rw [beq_eq_false_iff_ne]; omega]
        cases decide (n ≤ 10000) <;> rfl
      · rw [ZV h1]
        by_cases h0 : n = 0
        · subst h0; rfl
        · rw [ZV (show ¬ 0 ≤ n by omega)]
          rfl
    rw [this]
    cases inB (gI a (i : Int) 0) 1 1000000 <;> cases inB (gI a (i : Int) 1) 0 10000 <;> cases gI a (i : Int) 1 == 0 <;> simp
  constructor
  · intro h
    refine ⟨fun x hx => ?_, fun x hx => ?_⟩
    · have := h x hx; rw [h1, Bool.and_eq_true] at this; exact this.1
    · have := h x hx; rw [h1, Bool.and_eq_true] at this; exact this.2
  · intro h x hx
    rw [h1, Bool.and_eq_true]
    exact ⟨h.1 x hx, h.2 x hx⟩
set_option maxRecDepth 100000 in
theorem Yaa.same {aA : ByteArray} {aB aF : Int} {aD aC : List (List D)} (g0 : aA.size ≤ lim) (g3 : Zi Yc lim aD) (g4 : Zi RII lim aC) {k : Nat} (hk : ZF 1 k) : Yaa.t k aA aB aF aD aC = YK.t k aA aB aF aD aC := by
  have hk0 : Z3 k := up0 hk
  have hl := g4.1
  have hlim : lim = 1048576 := rfl
  have hb : big = 2 ^ 64 := rfl
  have hc : ∀ {n : Int} {β : Type} (K : Bool → Option β), Y2.f k n K = K (inB n 0 10000) := fun K => isCopies_f K
  have hf : ∀ {β : Type} (K : Int → Option β), Yb.f k aC K = K (Zbo (fun i => gI aC (i : Int) 1 == 0) aC.length) := fun K => Yb.f_of (by
    unfold Yb.t Yb.g
    refine iter_findI (n := aC.length) _ some (by unfold Z3 at hk0; omega) (fun L i hi => ?_) (fun L => by simp [Yb.l0, atR, rdQ, Q.ask])
    have hs : ∀ {x y : Int} {β : Type} (K : Bool → Option β), Y9.f k x y K = K (y == 0) := fun K => Y9.f_of (by unfold Y9.t Y9.g; rfl) K
    simp (disch := omega) only [Yb.l0, atR, rdQ, Q.ask, ZQ (show (i : Int) < aC.length by omega), cond_true, RII.row g4, ZY, Zad, Z6, hs, Zj]) K
  have hcf : ∀ {β : Type} (K : Bool → Option β), Yf.f k aC K = K (!(List.range aC.length).all fun i => !(gI aC (i : Int) 1 == 0)) := fun K => Yf.f_of (by
    unfold Yf.t Yf.g
    rw [hf, findI_all]) K
  have hr : ∀ {β : Type} (K : Int → Option β), Yx.f k aA aB aF aD aC K = Yi.f k aC K := fun K => by
    unfold Yx.f Yi.f
    have : Yx.t k aA aB aF aD aC = Yi.t k aC := by
      unfold Yx.t Yi.t Yx.g Yi.g
      refine congrArg (fun b => Zo b k (0, 0)) (funext fun L => funext fun v => ?_)
      simp only [Yx.l0, atR, rdQ, Q.ask, Yi.l0, atR, rdQ, Q.ask]
    cases h2 : Yi.t k aC <;> simp only [this, h2]
  unfold Yaa.t YK.t Yaa.g YK.g
  simp only [impl_NameOk_f, Yk.fv g0 hk0, within_fv, l1In_fv, hc, l11Runs_fv g4 hk0, runsOk_fv g4 hk0, impl_WorksOk_fv g3 hk, Yh.fv g3 hk, hcf, hr, runs_low]
  generalize Yk.v aA = b1
  generalize inB aB 0 10000 = b2
  generalize inB aF 0 1000000 = b3
  generalize Yh.v aD = b4
  generalize runsB aC 0 = b5
  generalize decide ((aC.length : Int) ≤ 80) = b6
  generalize List.all _ _ = b7
  cases b1 <;> cases b2 <;> cases b3 <;> cases b4 <;> cases b5 <;> cases b6 <;> cases b7 <;> rfl
theorem copyIsle_fv {a0 : ByteArray} {a1 a2 : Int} {a3 a4 : List (List D)} (g3 : Zi Yc lim a3) (g4 : Zi RII lim a4) {k : Nat} (hk : ZF 1 k) {β : Type} (K : ByteArray → Int → Int → List (List C) → List (List C) → Option β) : Y8.f k a0 a1 a2 a3 a4 K = K a0 a1 a2 (Zb a3) (a4.map (·.map C.d)) := Y8.f_of (by
  unfold Y8.t Y8.g
  rw [copyWorks_fv g3 hk, clone_run_fv g4]) K
theorem l13Copy_fv {a0 : ByteArray} {a1 a2 : Int} {a3 a4 : List (List D)} (g3 : Zi Yc lim a3) (g4 : Zi RII lim a4) {k : Nat} (hk : ZF 1 k) {β : Type} (K : ByteArray → Int → Int → List (List C) → List (List C) → Option β) : Yac.f k a0 a1 a2 a3 a4 K = K a0 a1 a2 (Zb a3) (a4.map (·.map C.d)) := Yac.f_of (by
  have l4 := g4.1
  have hlim : lim = 1048576 := rfl
  have hm : ZN = 2 ^ 36 := rfl
  unfold Yac.t Yac.g
  rw [l12Works_fv g3 hk, ZaP (RII.flat g4.2), ZaP (by simp only [List.length_nil, map_len]; omega), List.nil_append]) K
theorem IsleOkI {aA : ByteArray} {aB aF : Int} {aD aC : List (List D)} (g0 : aA.size ≤ lim) (g3 : Zi Yc lim aD) (g4 : Zi RII lim aC) {k : Nat} (hk : ZF 1 k) {β : Type} (K : Bool → Option β) : Yaa.f k aA aB aF aD aC K = K (YK.v aA aB aF aD aC) := Yaa.f_of ((Yaa.same g0 g3 g4 hk).trans (YK.tv g0 g3 g4 hk)) K
theorem YZ.f_of {β : Type} {k aA aB aF aD aC a1 z0} (h : YZ.t k aA aB aF aD aC a1 = some z0) (K : Int → Option β) : YZ.f k aA aB aF aD aC a1 K = K z0 := by unfold YZ.f; rw [h]; rfl
theorem Y7.f_of {β : Type} {k aA aB z0} (h : Y7.t k aA aB = some z0) (K : Bool → Option β) : Y7.f k aA aB K = K z0 := by unfold Y7.f; rw [h]; rfl
theorem Ye.f_of {β : Type} {k : Nat} {xs z0 : List (List C)} (h : Ye.t k xs = some z0) (K : (List (List C)) → Option β) : Ye.f k xs K = K z0 := by
  unfold Ye.f
  rw [h]
theorem Y5.f_of {β : Type} {k a0 z0} (h : Y5.t k a0 = some z0) (K : Bool → Option β) : Y5.f k a0 K = K z0 := by unfold Y5.f; rw [h]; rfl
theorem Y3.f_of {β : Type} {k a0 a1 z0} (h : Y3.t k a0 a1 = some z0) (K : Int → Option β) : Y3.f k a0 a1 K = K z0 := by unfold Y3.f; rw [h]; rfl
theorem Yaj.f_of {β : Type} {k aA aB a1 z0} (h : Yaj.t k aA aB a1 = some z0) (K : Int → Option β) : Yaj.f k aA aB a1 K = K z0 := by unfold Yaj.f; rw [h]; rfl
theorem Ya.f_of {β : Type} {k a0 a1 z0 z1} (h : Ya.t k a0 a1 = some (z0, z1)) (K : Int → Bool → Option β) : Ya.f k a0 a1 K = K z0 z1 := by unfold Ya.f; rw [h]; rfl
theorem half_eq {x : Int} (h0 : 0 ≤ x) (h1 : x < 4611686018427387904) : Int.fdiv (IntKind.wrap .u64 (IntKind.wrap .i64 x)) (2 ^ (min (1 : Int).toNat 64)) = x / 2 := by
  rw [Zj (by omega) (by omega)]
  have : IntKind.wrap .u64 x = x := by simp only [IntKind.wrap, IntKind.signed, IntKind.bits]; simp; omega
  rw [this, show (min (1 : Int).toNat 64) = 1 from rfl, Int.pow_one, Int.fdiv_eq_ediv_of_nonneg _ (by decide)]
theorem isNaN_fv {x : Int} {k : Nat} {β : Type} (K : Bool → Option β) : Y5.f k x K = K false := Y5.f_of (by unfold Y5.t Y5.g; simp) K
theorem cmpI_fv {x y : Int} {k : Nat} {β : Type} (K : Int → Option β) : Y3.f k x y K = K (if x < y then -1 else if y < x then 1 else 0) := Y3.f_of (by
  unfold Y3.t Y3.g
  simp only [isNaN_fv, cond_false]
  by_cases h : x < y
  · simp [h]
  · by_cases h2 : y < x <;> simp [h, h2]) K
def lbP (l : List (Int × Int)) (t : Int) : Nat := (l.takeWhile fun p => decide (p.1 < t)).length
theorem lbP_le (l : List (Int × Int)) (t : Int) : lbP l t ≤ l.length := (List.takeWhile_sublist _).length_le
theorem Yay : ∀ {l : List (Int × Int)} {t : Int}, Asc l → (∀ p ∈ l.take (lbP l t), p.1 < t) ∧ ∀ p ∈ l.drop (lbP l t), t ≤ p.1
  | [], t, _ => by simp [lbP]
  | x :: l, t, h => by
    obtain ⟨h1, h2⟩ := List.pairwise_cons.mp h
    by_cases hx : x.1 < t
    · obtain ⟨q1, q2⟩ := Yay (t := t) h2
      have e : lbP (x :: l) t = lbP l t + 1 := by simp [lbP, List.takeWhile_cons, hx]
      rw [e, List.take_succ_cons, List.drop_succ_cons]
      exact ⟨fun p hp => by rcases List.mem_cons.mp hp with rfl | hp; exact hx; exact q1 p hp, q2⟩
    · have e : lbP (x :: l) t = 0 := by simp [lbP, List.takeWhile_cons, hx]
      rw [e]
      exact ⟨by simp, fun p hp => by
        rw [List.drop_zero] at hp
        rcases List.mem_cons.mp hp with rfl | hp
        · omega
        · have := h1 p hp; omega⟩
theorem lbP_lt {l : List (Int × Int)} {t : Int} (h : Asc l) {i : Nat} (hi : i < l.length) (hq : i < lbP l t) : l[i].1 < t := (Yay h).1 _ (by
  rw [List.mem_take_iff_getElem]
  exact ⟨i, by omega, rfl⟩)
theorem lbP_ge {l : List (Int × Int)} {t : Int} (h : Asc l) {i : Nat} (hi : i < l.length) (hq : lbP l t ≤ i) : t ≤ l[i].1 := (Yay h).2 _ (by
  rw [List.mem_drop_iff_getElem]
  exact ⟨i - lbP l t, by omega, by congr 1; omega⟩)
def hitP (l : List (Int × Int)) (t : Int) : Bool := match l[lbP l t]? with | some p => p.1 == t | none => false
theorem move2_fv {x n t : Int} {k : Nat} {β : Type} (K : Int → Option β) : Yaj.f k x n t K = K (if x < t then -1 else if t < x then 1 else 0) := Yaj.f_of (by
  unfold Yaj.t Yaj.g
  rw [cmpI_fv]) K
set_option maxRecDepth 100000 in
theorem bin_fv {l : List (Int × Int)} {t : Int} (hl : l.length ≤ 1048576) (ha : Asc l) {k : Nat} (hk : Z3 k) {β : Type} (K : Int → Bool → Option β) : Ya.f k (ofP l) t K = K (lbP l t : Int) (hitP l t) := by
  have hb : big = 2 ^ 64 := rfl
  have hle := lbP_le l t
  refine Ya.f_of ?_ K
  unfold Ya.t Ya.g
  refine iter_val (fun v : Int × Int => (v.2 - v.1).toNat) (fun v => 0 ≤ v.1 ∧ v.1 ≤ (lbP l t : Int) ∧ (lbP l t : Int) ≤ v.2 ∧ v.2 ≤ (l.length : Int)) (fun _ => some ((lbP l t : Int), hitP l t)) ?_ k _ ?_ ?_
  · rintro ⟨i, j⟩ ⟨i0, i1, j0, j1⟩ L hL
    simp only [] at i0 i1 j0 j1 hL
    simp only [Ya.l0, atR, rdQ, Q.ask]
    by_cases h : i < j
    · obtain ⟨m, hm⟩ : ∃ m : Nat, (i + j) / 2 = (m : Int) := ⟨((i + j) / 2).toNat, by omega⟩
      rw [ZQ h]
      simp only [cond_true]
      rw [half_eq (by omega) (by omega), hm, Zj (x := (m : Int)) (by omega) (by omega), ZaP (by decide), Yar (by omega)]
      simp only [ZY, Zad, Z6, move2_fv]
      by_cases hq : l[m].1 < t
      · have : m < lbP l t := by
          rcases Nat.lt_or_ge m (lbP l t) with h | h
          · exact h
          · have := lbP_ge ha (by omega) h; omega
        rw [if_pos hq, ZQ (show (-1 : Int) < 0 by decide), cond_true, Zj (by omega) (by omega)]
        exact hL _ ⟨by show 0 ≤ (m : Int) + 1; omega, by show (m : Int) + 1 ≤ _; omega, j0, j1⟩ (by simp only []; omega)
      · have : lbP l t ≤ m := by
          rcases Nat.lt_or_ge m (lbP l t) with h | h
          · have := lbP_lt ha (show m < l.length by omega) h; omega
          · exact h
        rw [if_neg hq, ZV (show ¬ (if t < l[m].1 then (1 : Int) else 0) < 0 by split <;> decide), cond_false]
        exact hL _ ⟨i0, i1, by show _ ≤ (m : Int); omega, by show (m : Int) ≤ _; omega⟩ (by simp only []; omega)
    · rw [ZV h]
      simp only [cond_false, Yap]
      obtain rfl : i = (lbP l t : Int) := by omega
      unfold hitP
      by_cases hlt : lbP l t < l.length
      · rw [ZQ (show (lbP l t : Int) < (l.length : Int) by omega), cond_true, Yar hlt, List.getElem?_eq_getElem hlt]
        simp only [ZY, Zad, Z6, move2_fv]
        have := lbP_ge ha hlt (Nat.le_refl _)
        by_cases he : l[lbP l t].1 = t
        · simp [he]
        · rw [if_neg (by omega), if_pos (by omega), show ((1 : Int) == 0) = false from rfl, show (l[lbP l t].1 == t) = false from by simpa using he]
      · rw [ZV (show ¬ (lbP l t : Int) < (l.length : Int) by omega), cond_false, List.getElem?_eq_none (by omega)]
  · simp only [Yap]
    omega
  · simp only [Yap]
    unfold Z3 at hk
    omega
theorem hit_true {l : List (Int × Int)} {t : Int} (h : hitP l t = true) : ∃ hlt : lbP l t < l.length, l[lbP l t].1 = t := by
  unfold hitP at h
  split at h
  · rename_i p hp
    obtain ⟨h1, h2⟩ := List.getElem?_eq_some_iff.mp hp
    exact ⟨h1, by rw [h2]; simpa using h⟩
  · cases h
theorem hit_false {l : List (Int × Int)} {t : Int} (ha : Asc l) (h : hitP l t = false) : ∀ p ∈ l, p.1 ≠ t := by
  intro p hp e
  obtain ⟨q1, q2⟩ := Yay (t := t) ha
  have hp' : p ∈ l.take (lbP l t) ++ l.drop (lbP l t) := by rw [List.take_append_drop]; exact hp
  rcases List.mem_append.mp hp' with h1 | h1
  · have := q1 p h1; omega
  · obtain ⟨i, hi, hpi⟩ := List.mem_drop_iff_getElem.mp h1
    have hlt : lbP l t < l.length := by omega
    have h0 := lbP_ge ha hlt (Nat.le_refl _)
    have : i = 0 := by
      rcases Nat.eq_zero_or_pos i with h | h
      · exact h
      · have := List.pairwise_iff_getElem.mp ha (lbP l t) (lbP l t + i) hlt (by omega) (by omega)
        have e2 : l[lbP l t + i].1 = t := by rw [hpi, e]
        omega
    subst this
    unfold hitP at h
    rw [List.getElem?_eq_getElem hlt] at h
    simp only [Nat.add_zero] at hpi
    simp [hpi, e] at h
theorem Yq.f_of {β : Type} {k : Nat} {xs : List (List C)} {i : Int} {ys z0 : List (List C)} (h : Yq.t k xs i ys = some z0) (K : (List (List C)) → Option β) : Yq.f k xs i ys K = K z0 := by
  unfold Yq.f
  rw [h]
theorem Yz.f_of {β : Type} {k : Nat} {aA : ByteArray} {aB aF : Int} {aD aC : List (List D)} {z0 : ByteArray} {z1 z2 : Int} {z3 z4 : List (List C)} {z5 z6 : Int} (h : Yz.t k aA aB aF aD aC = some (z0, z1, z2, z3, z4, z5, z6)) (K : ByteArray → Int → Int → (List (List C)) → (List (List C)) → Int → Int → Option β) : Yz.f k aA aB aF aD aC K = K z0 z1 z2 z3 z4 z5 z6 := by
  unfold Yz.f
  rw [h]
theorem isle_parts {a0 : ByteArray} {a1 a2 : Int} {a3 : List (List D)} {l : List (Int × Int)} (g0 : a0.size ≤ lim) (g3 : Zi Yc lim a3) (g4 : Zi RII lim (ofP l)) (h : YK.v a0 a1 a2 a3 (ofP l) = true) : runsB (ofP l) 1 = true ∧ Yh.v a3 = true ∧ l.length ≤ 80 := by
  have hk : ZF 1 (lv 1) := Nat.le_refl _
  have ht := YK.tv (aB := a1) (aF := a2) g0 g3 g4 hk
  have hk0 : Z3 (lv 1) := up0 hk
  rw [h] at ht
  unfold YK.t YK.g at ht
  simp only [Yk.fv g0 hk0, l1In_fv, Yh.fv g3 hk, l11Runs_fv g4 hk0, Yap] at ht
  by_cases h80 : (l.length : Int) ≤ 80
  · generalize Yk.v a0 = b1 at ht
    generalize inB a1 0 10000 = b2 at ht
    generalize inB a2 0 1000000 = b3 at ht
    generalize Yh.v a3 = b4 at ht ⊢
    generalize runsB (ofP l) 1 = b5 at ht ⊢
    cases b1 <;> cases b2 <;> cases b3 <;> cases b4 <;> cases b5 <;> simp at ht ⊢
    omega
  · rw [ZV h80] at ht
    generalize Yk.v a0 = b1 at ht
    generalize inB a1 0 10000 = b2 at ht
    generalize inB a2 0 1000000 = b3 at ht
    generalize Yh.v a3 = b4 at ht
    cases b1 <;> cases b2 <;> cases b3 <;> cases b4 <;> simp at ht
theorem runs_pairs {l : List (Int × Int)} (h : runsB (ofP l) 1 = true) : Asc l ∧ ∀ p ∈ l, 1 ≤ p.2 ∧ p.2 ≤ 10000 ∧ 1 ≤ p.1 ∧ p.1 ≤ 1000000 := by
  unfold runsB at h
  rw [List.all_eq_true] at h
  have hp : ∀ i (hi : i < l.length), (1 ≤ l[i].2 ∧ l[i].2 ≤ 10000 ∧ 1 ≤ l[i].1 ∧ l[i].1 ≤ 1000000) ∧ ∀ h0 : 0 < i, l[i - 1].1 < l[i].1 := fun i hi => by
    have := h i (by rw [List.mem_range, Yap]; exact hi)
    unfold runP inB at this
    rw [gI_ofP0 hi, gI_ofP1 hi] at this
    simp only [Bool.and_eq_true, Bool.or_eq_true, Bool.not_eq_true', decide_eq_true_eq, decide_eq_false_iff_not] at this
    refine ⟨⟨this.2.1.1, this.2.1.2, this.1.1, this.1.2⟩, fun h0 => ?_⟩
    rw [show ((i : Int) - 1) = ((i - 1 : Nat) : Int) by omega, gI_ofP0 (by omega)] at this
    rcases this.2.2 with q | q <;> omega
  have hd : ∀ d i (hi : i + d + 1 < l.length), l[i].1 < l[i + d + 1].1 := fun d => by
    induction d with
    | zero => intro i hi; have := (hp (i + 1) hi).2 (by omega); simpa using this
    | succ d ih =>
      intro i hi
      have h1 := ih i (by omega)
      have h2 := (hp (i + (d + 1) + 1) hi).2 (by omega)
      simp only [Nat.add_sub_cancel] at h2
      have e : i + (d + 1) = i + d + 1 := by omega
      simp only [e] at h2 ⊢
      omega
  refine ⟨List.pairwise_iff_getElem.mpr fun i j hi hj hij => ?_, fun p hpm => ?_⟩
  · have := hd (j - i - 1) i (by omega)
    have e : i + (j - i - 1) + 1 = j := by omega
    simp only [e] at this
    exact this
  · obtain ⟨i, hi, rfl⟩ := List.mem_iff_getElem.mp hpm
    exact (hp i hi).1
noncomputable def worksP (a : List (List D)) (i : Nat) : Bool := inB (gI a (i : Int) 0) 1 1000000 && (inB (gI a (i : Int) 1) 1 10000 && (valB (gI a (i : Int) 2) (gS a (i : Int) 3) (gI a (i : Int) 4) (gL a (i : Int) 5) (gL a (i : Int) 6) && (!decide ((i : Int) > 0) || !decide (gI a ((i : Int) - 1) 0 ≥ gI a (i : Int) 0))))
set_option maxRecDepth 100000 in
theorem works_low {a : List (List D)} (g : Zi Yc lim a) (h : Yh.v a = true) : ∀ i, i < a.length → worksP a i = true := by
  have hl := g.1
  have hlim : lim = 1048576 := rfl
  have hb : big = 2 ^ 64 := rfl
  have hb1 : lv 1 = 2 ^ 65 := rfl
  have hk : ZF 1 (lv 1) := Nat.le_refl _
  have ht := Yh.tv g hk
  rw [h] at ht
  unfold Yh.t Yh.g at ht
  rw [Zb6 (n := a.length) (worksP a) (r1 := some false) (r2 := some (decide ((a.length : Int) ≤ 40))) (by omega)] at ht
  · cases hq : (List.range a.length).all (worksP a) with
    | false => rw [hq] at ht; simp at ht
    | true =>
      rw [List.all_eq_true] at hq
      exact fun i hi => hq i (List.mem_range.mpr hi)
  · intro L i hi
    obtain ⟨-, -, -, -, k3, -, k5, k6, -⟩ := Yc.get g (v := (i : Int)) (by omega) (by omega)
    unfold worksP
    simp (disch := omega) only [Yh.l0, atR, rdQ, Q.ask, ZQ (show (i : Int) < a.length by omega), cond_true, Yc.row g, ZY, Zad, Zaj, Za7, Z6, l1In_fv, spec_ValueOk_fv k3 k5 k6 hk, Zj]
    by_cases h0 : (i : Int) > 0
    · simp (disch := omega) only [ZQ h0, cond_true, Yc.row g, ZY, Zad, Zaj, Za7, Z6, Zj]
      cases inB (gI a (i : Int) 0) 1 1000000 <;> cases inB (gI a (i : Int) 1) 1 10000 <;> cases valB (gI a (i : Int) 2) (gS a (i : Int) 3) (gI a (i : Int) 4) (gL a (i : Int) 5) (gL a (i : Int) 6) <;> cases decide (gI a ((i : Int) - 1) 0 ≥ gI a (i : Int) 0) <;> rfl
    · simp only [ZV h0, cond_false]
      cases inB (gI a (i : Int) 0) 1 1000000 <;> cases inB (gI a (i : Int) 1) 1 10000 <;> cases valB (gI a (i : Int) 2) (gS a (i : Int) 3) (gI a (i : Int) 4) (gL a (i : Int) 5) (gL a (i : Int) 6) <;> rfl
  · intro L
    simp [Yh.l0, atR, rdQ, Q.ask]
def runN (l : List (Int × Int)) (uid : Int) : Int := match l.find? fun p => p.1 == uid with | some p => p.2 | none => 0
set_option maxRecDepth 100000 in
theorem l11Run_fv {l : List (Int × Int)} {uid : Int} (hl : l.length ≤ 1048576) {k : Nat} (hk : Z3 k) {β : Type} (K : Int → Bool → Option β) : YW.f k (ofP l) uid K = K (runN l uid) (l.any fun p => p.1 == uid) := by
  have hb : big = 2 ^ 64 := rfl
  refine YW.f_of ?_ K
  unfold YW.t YW.g
  refine (iter_val (fun v : Int => ((l.length : Int) - v).toNat) (fun v => 0 ≤ v ∧ v ≤ (l.length : Int) ∧ ∀ p ∈ l.take v.toNat, (p.1 == uid) = false) (fun _ => some (runN l uid, l.any fun p => p.1 == uid)) ?_ k 0 ⟨by omega, by omega, by simp⟩ (by unfold Z3 at hk; omega))
  rintro v ⟨v0, v1, hv⟩ L hL
  obtain ⟨i, rfl⟩ : ∃ i : Nat, v = (i : Int) := ⟨v.toNat, by omega⟩
  simp only [Int.toNat_natCast] at hv
  simp only [YW.l0, atR, rdQ, Q.ask, Yap]
  have hs : l = l.take i ++ l.drop i := (List.take_append_drop i l).symm
  have hf : (l.take i).find? (fun p => p.1 == uid) = none := by rw [List.find?_eq_none]; intro p hp; rw [hv p hp]; simp
  have ha : (l.take i).any (fun p => p.1 == uid) = false := by rw [List.any_eq_false]; intro p hp; rw [hv p hp]; simp
  by_cases h : i < l.length
  · rw [ZQ (show (i : Int) < (l.length : Int) by omega)]
    simp only [cond_true, Yar h, ZY, Zad, Z6]
    have hd : l.drop i = l[i] :: l.drop (i + 1) := (List.getElem_cons_drop h).symm
    cases hq : l[i].1 == uid with
    | true =>
      simp only [cond_true]
      congr 2
      · unfold runN
        conv => rhs; rw [hs, List.find?_append, hf, hd, List.find?_cons_of_pos (by simpa using hq)]
        rfl
      · conv => rhs; rw [hs, List.any_append, ha, hd, List.any_cons, hq]
        rfl
    | false =>
      simp only [cond_false]
      rw [Zj (by omega) (by omega)]
      refine hL _ ⟨by omega, by omega, fun p hp => ?_⟩ (by omega)
      rw [show ((i : Int) + 1).toNat = i + 1 by omega, List.take_add_one, List.getElem?_eq_getElem h] at hp
      rcases List.mem_append.mp hp with hp | hp
      · exact hv p hp
      · simp at hp; subst hp; exact hq
  · rw [ZV (show ¬ (i : Int) < (l.length : Int) by omega)]
    simp only [cond_false]
    have he : l.take i = l := List.take_of_length_le (by omega)
    rw [he] at hf ha
    unfold runN
    rw [hf, ha]
set_option maxRecDepth 100000 in
theorem l13Put_fv {l : List (Int × Int)} {uid n : Int} (hl : l.length ≤ 1048576) {k : Nat} (hk : Z3 k) {β : Type} (K : List (List C) → Option β) : YU.f k (ofP l) uid n K = K (upP (Yaq uid n (n == 0) l)) := by
  have hb : big = 2 ^ 64 := rfl
  have hm : ZN = 2 ^ 36 := rfl
  refine YU.f_of ?_ K
  unfold YU.t YU.g
  have one : ∀ u m : Int, ([[.d (.int .i64 u), .d (.int .i64 m)]] : List (List C)) = upP [(u, m)] := fun _ _ => rfl
  refine (iter_val (fun v : Bool × Int × List (List C) => ((l.length : Int) - v.2.1).toNat) (fun v => 0 ≤ v.2.1 ∧ v.2.1 ≤ (l.length : Int) ∧ ∃ q, v.2.2 = upP q ∧ q.length ≤ v.2.1.toNat + 1 ∧ (v.1 = false → q.length ≤ v.2.1.toNat) ∧ q ++ Yaq uid n v.1 (l.drop v.2.1.toNat) = Yaq uid n (n == 0) l) (fun _ => some (upP (Yaq uid n (n == 0) l))) ?_ k _ ⟨by simp, by simp, [], rfl, by simp, by simp, by simp⟩ (by unfold Z3 at hk; simp only []; omega))
  rintro ⟨b, v, out⟩ ⟨v0, v1, q, hq, hql, hqf, hv⟩ L hL
  simp only [] at v0 v1 hq hql hqf hv hL
  subst hq
  obtain ⟨i, rfl⟩ : ∃ i : Nat, v = (i : Int) := ⟨v.toNat, by omega⟩
  simp only [Int.toNat_natCast] at hql hqf hv
  simp only [YU.l0, atR, rdQ, Q.ask, Yap, one]
  by_cases h : i < l.length
  · rw [ZQ (show (i : Int) < (l.length : Int) by omega)]
    rw [(List.getElem_cons_drop h).symm] at hv
    simp only [Yaq] at hv
    have hw : IntKind.wrap .i64 ((i : Int) + 1) = (i : Int) + 1 := Zj (by omega) (by omega)
    have ht : ((i : Int) + 1).toNat = i + 1 := by omega
    simp only [cond_true, Yar h, ZY, Zad, Z6, upP_app, hw]
    cases b with
    | false =>
      have hqf' := hqf rfl
      by_cases h1 : uid ≤ l[i].1
      · simp only [h1, and_self, if_true, Bool.false_or, decide_true] at hv
        rw [ZQ (show l[i].1 ≥ uid from h1)]
        simp only [Bool.not_false, cond_true]
        rw [ZaP (by simp only [Yas, List.length_singleton]; omega)]
        by_cases h2 : l[i].1 = uid
        · rw [if_pos h2] at hv
          rw [show (l[i].1 != uid) = false by simp [h2]]
          simp only [cond_false]
          exact hL _ ⟨by simp only []; omega, by simp only []; omega, q ++ [(uid, n)], rfl, by simp only [ht, List.length_append, List.length_singleton]; omega, by simp, by simp only [ht]; rw [← hv]; simp⟩ (by simp only []; omega)
        · rw [if_neg h2] at hv
          rw [show (l[i].1 != uid) = true by simp [h2]]
          simp only [cond_true]
          rw [ZaP (by simp only [Yas, List.length_append, List.length_singleton]; omega)]
          exact hL _ ⟨by simp only []; omega, by simp only []; omega, q ++ [(uid, n)] ++ [(l[i].1, l[i].2)], rfl, by simp only [ht, List.length_append, List.length_singleton]; omega, by simp, by simp only [ht]; rw [← hv]; simp⟩ (by simp only []; omega)
      · simp only [h1, and_false, if_false, List.nil_append, Bool.false_or, decide_false] at hv
        rw [ZV (show ¬ l[i].1 ≥ uid from h1)]
        have h2 : ¬ l[i].1 = uid := by omega
        rw [if_neg h2] at hv
        rw [show (l[i].1 != uid) = true by simp [h2]]
        simp only [Bool.not_false, cond_true, cond_false]
        rw [ZaP (by simp only [Yas, List.length_singleton]; omega)]
        exact hL _ ⟨by simp only []; omega, by simp only []; omega, q ++ [(l[i].1, l[i].2)], rfl, by simp only [ht, List.length_append, List.length_singleton]; omega, fun _ => by simp only [ht, List.length_append, List.length_singleton]; omega, by simp only [ht]; rw [← hv]; simp⟩ (by simp only []; omega)
    | true =>
      simp only [Bool.true_eq_false, false_and, if_false, List.nil_append, Bool.true_or] at hv
      simp only [Bool.not_true, cond_false]
      by_cases h2 : l[i].1 = uid
      · rw [if_pos h2, List.nil_append] at hv
        rw [show (l[i].1 != uid) = false by simp [h2]]
        simp only [cond_false]
        exact hL _ ⟨by simp only []; omega, by simp only []; omega, q, rfl, by simp only [ht]; omega, by simp, by simp only [ht]; exact hv⟩ (by simp only []; omega)
      · rw [if_neg h2] at hv
        rw [show (l[i].1 != uid) = true by simp [h2]]
        simp only [cond_true]
        rw [ZaP (by simp only [Yas, List.length_singleton]; omega)]
        exact hL _ ⟨by simp only []; omega, by simp only []; omega, q ++ [(l[i].1, l[i].2)], rfl, by simp only [ht, List.length_append, List.length_singleton]; omega, by simp, by simp only [ht]; rw [← hv]; simp⟩ (by simp only []; omega)
  · rw [ZV (show ¬ (i : Int) < (l.length : Int) by omega)]
    rw [List.drop_eq_nil_of_le (by omega)] at hv
    simp only [cond_false]
    cases b with
    | false =>
      simp only [Bool.not_false, cond_true, upP_app]
      rw [ZaP (by simp only [Yas, List.length_singleton]; have := hqf rfl; omega), ← hv]
      simp [Yaq]
    | true =>
      simp only [Bool.not_true, cond_false]
      rw [← hv]
      simp [Yaq]
section
variable {a0 : ByteArray} {a1 a2 : Int} {a3 : List (List D)} {l : List (Int × Int)}
noncomputable def overI (a0 : ByteArray) (a1 a2 : Int) (a3 : List (List D)) (l : List (Int × Int)) : Int := Zbo (fun i => decide (gI (ofP l) (i : Int) 1 > Ym.v a0 a1 a2 a3 (ofP l) (gI (ofP l) (i : Int) 0))) l.length
def lackP (a3 : List (List D)) (l : List (Int × Int)) (i : Nat) : Bool := decide (runN l (gI a3 (i : Int) 0) < gI a3 (i : Int) 1)
noncomputable def moveV (a0 : ByteArray) (a1 a2 : Int) (a3 : List (List D)) (l : List (Int × Int)) : List (Int × Int) × Int × Int :=
  bif YK.v a0 a1 a2 a3 (ofP l) then
    (bif decide (overI a0 a1 a2 a3 l ≥ 0) then (Yaq (gI (ofP l) (overI a0 a1 a2 a3 l) 0) (gI (ofP l) (overI a0 a1 a2 a3 l) 1 - 1) (gI (ofP l) (overI a0 a1 a2 a3 l) 1 - 1 == 0) l, gI (ofP l) (overI a0 a1 a2 a3 l) 0, -1)
    else (bif decide (Yi.v (ofP l) < a1) then
      (match (List.range a3.length).find? (lackP a3 l) with
      | some i => (Yaq (gI a3 (i : Int) 0) (runN l (gI a3 (i : Int) 0) + 1) (runN l (gI a3 (i : Int) 0) + 1 == 0) l, gI a3 (i : Int) 0, 1)
      | none => (l, 0, 0)) else (l, 0, 0)))
  else (l, 0, 0)
def moveR (a0 : ByteArray) (a1 a2 : Int) (a3 : List (List D)) (z : List (Int × Int) × Int × Int) : ByteArray × Int × Int × List (List C) × List (List C) × Int × Int := (a0, a1, a2, Zb a3, upP z.1, z.2.1, z.2.2)
theorem runN_mem {l : List (Int × Int)} {uid : Int} (h : ∀ p ∈ l, 1 ≤ p.2 ∧ p.2 ≤ 10000) : 0 ≤ runN l uid ∧ runN l uid ≤ 10000 := by
  unfold runN
  split
  · rename_i p hp
    have := h p (List.mem_of_find?_eq_some hp)
    omega
  · omega
set_option maxRecDepth 100000 in
theorem spec_Move_t (g0 : a0.size ≤ lim) (g3 : Zi Yc lim a3) (g4 : Zi RII lim (ofP l)) {k : Nat} (hk : ZF 1 k) : Y1.t k a0 a1 a2 a3 (ofP l) = some (moveR a0 a1 a2 a3 (moveV a0 a1 a2 a3 l)) := by
  have hk0 : Z3 k := up0 hk
  have hb : big = 2 ^ 64 := rfl
  have hlim : lim = 1048576 := rfl
  have l4 := g4.1
  have l3 := g3.1
  rw [Yap] at l4
  unfold Y1.t Y1.g Y1.m; simp only [atR, rdQ, Q.ask]
  rw [l13Copy_fv g3 g4 hk, YK.fv g0 g3 g4 hk, ofP_up]
  unfold moveV
  cases hok : YK.v a0 a1 a2 a3 (ofP l) with
  | false => rfl
  | true =>
    obtain ⟨hr, hw, h80⟩ := isle_parts g0 g3 g4 hok
    obtain ⟨hasc, hlow⟩ := runs_pairs hr
    have hover : ∀ {β : Type} (K : Int → Option β), YL.f k a0 a1 a2 a3 (ofP l) K = K (overI a0 a1 a2 a3 l) := fun K => YL.f_of (by
      unfold YL.t YL.g overI
      refine iter_findI (n := l.length) _ some (by unfold Z3 at hk0; omega) (fun L i hi => ?_) (fun L => by simp [YL.l0, atR, rdQ, Q.ask, Yap])
      simp (disch := omega) only [YL.l0, atR, rdQ, Q.ask, Yap, ZQ (show (i : Int) < l.length by omega), cond_true, Yar hi, ZY, Zad, Z6, Ym.fv g0 g3 g4 hk0, gI_ofP0 hi, gI_ofP1 hi, Zj]) K
    simp only [Bool.not_true, cond_false, cond_true, hover]
    by_cases ho : overI a0 a1 a2 a3 l ≥ 0
    · rw [ZQ ho]
      obtain ⟨h1, h2, h3, h4⟩ := findI_some (p := fun i => decide (gI (ofP l) (i : Int) 1 > Ym.v a0 a1 a2 a3 (ofP l) (gI (ofP l) (i : Int) 0))) (n := l.length) ho
      change (overI a0 a1 a2 a3 l).toNat < l.length at h1
      change (((overI a0 a1 a2 a3 l).toNat : Nat) : Int) = overI a0 a1 a2 a3 l at h3
      generalize overI a0 a1 a2 a3 l = v at *
      obtain ⟨i, rfl⟩ : ∃ i : Nat, v = (i : Int) := ⟨v.toNat, by omega⟩
      simp only [Int.toNat_natCast] at h1
      have hp := hlow l[i] (List.getElem_mem h1)
      simp only [cond_true, Yar h1, ZY, Zad, Z6, gI_ofP0 h1, gI_ofP1 h1]
      rw [Zj (by omega) (by omega), l13Put_fv (by omega) hk0]
      rfl
    · rw [ZV ho]
      simp only [cond_false]
      by_cases hs : Yi.v (ofP l) < a1
      · rw [ZQ hs]
        simp only [cond_true]
        refine (iter_find (n := a3.length) (lackP a3 l) (r1 := fun i => some (moveR a0 a1 a2 a3 (Yaq (gI a3 (i : Int) 0) (runN l (gI a3 (i : Int) 0) + 1) (runN l (gI a3 (i : Int) 0) + 1 == 0) l, gI a3 (i : Int) 0, 1))) (r2 := some (moveR a0 a1 a2 a3 (l, 0, 0))) (by unfold Z3 at hk0; omega) (fun L i hi => ?_) (fun L => ?_)).trans ?_
        · have hn := runN_mem (uid := gI a3 (i : Int) 0) fun p hp => ⟨(hlow p hp).1, (hlow p hp).2.1⟩
          simp (disch := omega) only [Y1.l0, atR, rdQ, Q.ask, ZQ (show (i : Int) < a3.length by omega), cond_true, Yi.fv g4 hk0, ZQ hs, Yc.row g3, ZY, Zad, Zaj, Za7, Z6, l11Run_fv (show l.length ≤ 1048576 by omega) hk0, Zj, l13Put_fv (show l.length ≤ 1048576 by omega) hk0]
          rfl
        · simp only [Y1.l0, atR, rdQ, Q.ask, ZV (show ¬ (a3.length : Int) < a3.length by omega), cond_false]
          rfl
        · cases (List.range a3.length).find? (lackP a3 l) <;> rfl
      · rw [ZV hs, iter_step (by unfold Z3 at hk0; omega)]
        simp only [Y1.l0, atR, rdQ, Q.ask, Yi.fv g4 hk0, ZV hs, cond_false]
        cases decide ((0 : Int) < a3.length) <;> rfl
set_option maxRecDepth 100000 in
theorem wants_fv (g0 : a0.size ≤ lim) (g3 : Zi Yc lim a3) (g4 : Zi RII lim (ofP l)) {uid : Int} {k : Nat} (hk : Z3 k) {β : Type} (K : Int → Option β) : YZ.f k a0 a1 a2 a3 (ofP l) uid K = K (Ym.v a0 a1 a2 a3 (ofP l) uid) := YZ.f_of (by
  rw [← Ym.tv (aB := a1) (aF := a2) (a1 := uid) g0 g3 g4 hk]
  unfold YZ.t Ym.t YZ.g Ym.g
  refine congrArg (fun b => Zo b k 0) (funext fun L => funext fun v => ?_)
  simp only [YZ.l0, atR, rdQ, Q.ask, Ym.l0, atR, rdQ, Q.ask]
  refine bif_congr (fun h => ?_) (fun _ => rfl)
  by_cases h0 : 0 ≤ v ∧ v < a3.length
  · obtain ⟨h0, h1⟩ := h0
    simp (disch := omega) only [Yc.row g3, ZY, Zaj, Zad, Za7, Z6]
  · simp only [atRow_none h0]) K
set_option maxRecDepth 100000 in
theorem running_fv (g4 : Zi RII lim (ofP l)) {k : Nat} (hk : Z3 k) {β : Type} (K : Int → Option β) : Yx.f k a0 a1 a2 a3 (ofP l) K = K (Yi.v (ofP l)) := Yx.f_of (by
  rw [← Yi.tv g4 hk]
  unfold Yx.t Yi.t Yx.g Yi.g
  refine congrArg (fun b => Zo b k (0, 0)) (funext fun L => funext fun v => ?_)
  simp only [Yx.l0, atR, rdQ, Q.ask, Yi.l0, atR, rdQ, Q.ask]) K
theorem modP {l : List (Int × Int)} {i : Nat} {m : Int} (h : i < l.length) : ((upP l).modify i fun c => Zq c 1 [.d (.int .i64 m)]) = upP (l.take i ++ (l[i].1, m) :: l.drop (i + 1)) := by
  have e : upP l = upP (l.take i) ++ [.d (.int .i64 l[i].1), .d (.int .i64 l[i].2)] :: upP (l.drop (i + 1)) := by
    have : upP (l.take i ++ l[i] :: l.drop (i + 1)) = upP l := by rw [List.getElem_cons_drop, List.take_append_drop]
    rw [← this]
    simp only [upP, List.map_append, List.map_cons]
  rw [e, Zaf (by rw [Yas, List.length_take]; omega)]
  simp [upP, Zq]
theorem atNat_upP {l : List (Int × Int)} {i : Nat} (h : i < l.length) {β : Type} (F : List C → Option β) : ZaG (upP l) i F = F [.d (.int .i64 l[i].1), .d (.int .i64 l[i].2)] := by
  simp [ZaG, upP, h]
set_option maxRecDepth 100000 in
theorem delRun_fv {l : List (Int × Int)} (hl : l.length ≤ 1048576) {k : Nat} (hk : Z3 k) {β : Type} (K : List (List C) → Option β) : Ye.f k (upP l) K = K (upP (l.filter fun p => !(p.2 == 0))) := by
  have hb : big = 2 ^ 64 := rfl
  refine Ye.f_of ?_ K
  have hs : ∀ {x y : Int} {β : Type} (K : Bool → Option β), Y7.f k x y K = K (y == 0) := fun K => Y7.f_of (by unfold Y7.t Y7.g; rfl) K
  have ht : ∀ {x y : Int}, Y7.t k x y = some (y == 0) := by intro x y; unfold Y7.t Y7.g; rfl
  let q : List D → Bool := fun r => match r with | [_, .int _ n] => n == 0 | _ => false
  unfold Ye.t
  rw [← deep_ofP, delK_deep (q := q) (by rw [Yap]; exact hl)]
  · congr 1
    rw [← deep_ofP]
    congr 1
    unfold ofP
    rw [List.filter_map]
    congr 1
  · unfold Yd.t Yd.g
    rw [Yap]
    refine iter_findI (n := l.length) _ some (by unfold Z3 at hk; omega) (fun L i hi => ?_) (fun L => by simp [Yd.l0, atR, rdQ, Q.ask])
    simp (disch := omega) only [Yd.l0, atR, rdQ, Q.ask, ZQ (show (i : Int) < l.length by omega), cond_true, Yar hi, ZY, Zad, Z6, hs, Zj, gR_ofP hi]
    rfl
  · intro r hr
    simp only [ofP, List.mem_map] at hr
    obtain ⟨p, hp, rfl⟩ := hr
    exact ht
theorem insRun_fv {l : List (Int × Int)} {u m : Int} {i : Nat} (hi : i ≤ l.length) (hl : l.length ≤ 1048576) {k : Nat} {β : Type} (K : List (List C) → Option β) : Yq.f k (upP l) (i : Int) ([[.d (.int .i64 u), .d (.int .i64 m)]] : List (List C)) K = K (upP (l.take i ++ (u, m) :: l.drop i)) := Yq.f_of (by
  have hm : ZN = 2 ^ 36 := rfl
  unfold Yq.t
  rw [ZaP ⟨by omega, by rw [Yas]; omega, by rw [Yas, List.length_singleton]; omega⟩, Int.toNat_natCast]
  simp [upP, List.map_take, List.map_drop]) K
set_option maxRecDepth 100000 in
theorem impl_Move_t (g0 : a0.size ≤ lim) (g3 : Zi Yc lim a3) (g4 : Zi RII lim (ofP l)) {k : Nat} (hk : ZF 1 k) : Yz.t k a0 a1 a2 a3 (ofP l) = some (moveR a0 a1 a2 a3 (moveV a0 a1 a2 a3 l)) := by
  have hk0 : Z3 k := up0 hk
  have hb : big = 2 ^ 64 := rfl
  have hlim : lim = 1048576 := rfl
  have l4 := g4.1
  have l3 := g3.1
  rw [Yap] at l4
  unfold Yz.t Yz.g Yz.m
  rw [copyIsle_fv g3 g4 hk, IsleOkI g0 g3 g4 hk, ofP_up]
  unfold moveV
  cases hok : YK.v a0 a1 a2 a3 (ofP l) with
  | false => rfl
  | true =>
    obtain ⟨hr, hw, h80⟩ := isle_parts g0 g3 g4 hok
    obtain ⟨hasc, hlow⟩ := runs_pairs hr
    have hwl := works_low g3 hw
    simp only [Bool.not_true, cond_false, cond_true]
    refine (iter_find (n := l.length) (fun i => decide (gI (ofP l) (i : Int) 1 > Ym.v a0 a1 a2 a3 (ofP l) (gI (ofP l) (i : Int) 0))) (r1 := fun i => some (moveR a0 a1 a2 a3 (Yaq (gI (ofP l) (i : Int) 0) (gI (ofP l) (i : Int) 1 - 1) (gI (ofP l) (i : Int) 1 - 1 == 0) l, gI (ofP l) (i : Int) 0, -1)))
      (r2 := bif decide (Yi.v (ofP l) < a1) then (match (List.range a3.length).find? (lackP a3 l) with | some i => some (moveR a0 a1 a2 a3 (Yaq (gI a3 (i : Int) 0) (runN l (gI a3 (i : Int) 0) + 1) (runN l (gI a3 (i : Int) 0) + 1 == 0) l, gI a3 (i : Int) 0, 1)) | none => some (moveR a0 a1 a2 a3 (l, 0, 0))) else some (moveR a0 a1 a2 a3 (l, 0, 0))) (by unfold Z3 at hk0; omega) (fun L i hi => ?_) (fun L => ?_)).trans ?_
    · have hp := hlow l[i] (List.getElem_mem hi)
      simp (disch := omega) only [Yz.l0, Yz.m0, atR, rdQ, Q.ask, Yap, ZQ (show (i : Int) < l.length by omega), cond_true, Yar hi, ZY, Zad, Z6, wants_fv g0 g3 g4 hk0, gI_ofP0 hi, gI_ofP1 hi]
      refine bif_congr (fun _ => ?_) (fun _ => by rw [Zj (by omega) (by omega)])
      rw [ZaP ⟨by omega, by rw [Yas]; omega⟩, Int.toNat_natCast, atNat_upP hi]
      simp only [List.drop_succ_cons, List.drop_zero, ZY, cD_at, Zad]
      rw [ZaP ⟨by omega, by rw [Yas]; omega⟩, ZaP (by rw [Yas]; omega), Zj (by omega) (by omega), modP hi, delRun_fv (by simp; omega) hk0]
      have hs : l = l.take i ++ (l[i].1, l[i].2) :: l.drop (i + 1) := by
        have : l = l.take i ++ l[i] :: l.drop (i + 1) := by rw [List.getElem_cons_drop, List.take_append_drop]
        exact this
      have hA : ∀ p ∈ l.take i, (!(p.2 == 0)) = true := fun p hp => by have := hlow p (List.mem_of_mem_take hp); simp; omega
      have hB : ∀ p ∈ l.drop (i + 1), (!(p.2 == 0)) = true := fun p hp => by have := hlow p (List.mem_of_mem_drop hp); simp; omega
      have hasc' := hasc
      rw [hs] at hasc'
      rw [List.filter_append, List.filter_cons, List.filter_eq_self.mpr hA, List.filter_eq_self.mpr hB]
      unfold moveR
      congr 6
      by_cases h1 : l[i].2 - 1 = 0
      · rw [show (l[i].2 - 1 == 0) = true by simp [h1]]
        have := putR_drop (n := l[i].2 - 1) hasc'
        rw [← hs, h1] at this
        simp only [h1, this]
        rfl
      · rw [show (l[i].2 - 1 == 0) = false by simpa using h1]
        have := putR_set (n := l[i].2 - 1) hasc'
        rw [← hs] at this
        simp only [this, show (l[i].2 - 1 == 0) = false by simpa using h1]
        rfl
    · simp (disch := omega) only [Yz.l0, Yz.m0, atR, rdQ, Q.ask, Yap, ZV (show ¬ (l.length : Int) < l.length by omega), cond_false, running_fv g4 hk0]
      by_cases hs : Yi.v (ofP l) < a1
      · rw [ZQ hs, ZV (show ¬ Yi.v (ofP l) ≥ a1 by omega)]
        simp only [cond_true, cond_false]
        refine (iter_find (n := a3.length) (lackP a3 l) (r1 := fun i => some (moveR a0 a1 a2 a3 (Yaq (gI a3 (i : Int) 0) (runN l (gI a3 (i : Int) 0) + 1) (runN l (gI a3 (i : Int) 0) + 1 == 0) l, gI a3 (i : Int) 0, 1))) (r2 := some (moveR a0 a1 a2 a3 (l, 0, 0))) (by unfold Z3 at hk0; omega) (fun L i hi => ?_) (fun L => ?_))
        · have hwi := hwl i hi
          unfold worksP inB at hwi
          simp only [Bool.and_eq_true, decide_eq_true_eq] at hwi
          simp (disch := omega) only [Yz.l1, atR, rdQ, Q.ask, ZQ (show (i : Int) < a3.length by omega), cond_true, Yc.row g3, ZY, Zad, Zaj, Za7, Z6, bin_fv (show l.length ≤ 1048576 by omega) hasc hk0]
          unfold lackP
          obtain ⟨uid, hu⟩ : ∃ u, u = gI a3 (i : Int) 0 := ⟨_, rfl⟩
          simp only [← hu]
          cases hh : hitP l uid with
          | false =>
            have hno := hit_false hasc hh
            have hn0 : runN l uid = 0 := by
              unfold runN
              rw [List.find?_eq_none.mpr fun p hp => by simpa using hno p hp]
            obtain ⟨q1, q2⟩ := Yay (t := uid) hasc
            have hnew := putR_new (uid := uid) (n := 1) q1 fun p hp => by
              have := q2 p hp
              have := hno p (List.mem_of_mem_drop hp)
              omega
            rw [List.take_append_drop] at hnew
            simp only [Bool.not_false, cond_true]
            rw [insRun_fv (lbP_le l uid) (by omega), hn0, ZQ (show (0 : Int) < gI a3 (i : Int) 1 by omega)]
            simp only [cond_true]
            rw [show ((0 : Int) + 1 == 0) = false from rfl, Int.zero_add, hnew]
            rfl
          | true =>
            obtain ⟨hlt, he⟩ := hit_true hh
            have hs : l = l.take (lbP l uid) ++ (l[lbP l uid].1, l[lbP l uid].2) :: l.drop (lbP l uid + 1) := by
              have : l = l.take (lbP l uid) ++ l[lbP l uid] :: l.drop (lbP l uid + 1) := by rw [List.getElem_cons_drop, List.take_append_drop]
              exact this
            have hp := hlow l[lbP l uid] (List.getElem_mem hlt)
            have hn : runN l uid = l[lbP l uid].2 := by
              have hf : (l.take (lbP l uid)).find? (fun p => p.1 == uid) = none := by
                rw [List.find?_eq_none]
                intro p hp
                have := (Yay (t := uid) hasc).1 p hp
                simp
                omega
              have : l.find? (fun p => p.1 == uid) = some (l[lbP l uid].1, l[lbP l uid].2) := by
                have e2 : (l.take (lbP l uid) ++ (l[lbP l uid].1, l[lbP l uid].2) :: l.drop (lbP l uid + 1)).find? (fun p => p.1 == uid) = some (l[lbP l uid].1, l[lbP l uid].2) := by
                  rw [List.find?_append, hf, List.find?_cons_of_pos (by simpa using he)]
                  rfl
                rwa [← hs] at e2
              unfold runN
              rw [this]
            have hasc' := hasc
            rw [hs] at hasc'
            have hset := putR_set (n := l[lbP l uid].2 + 1) hasc'
            rw [← hs, he] at hset
            simp only [Bool.not_true, cond_false, Yar hlt, ZY, Zad, Z6, hn]
            refine bif_congr (fun _ => ?_) (fun _ => by rw [Zj (by omega) (by omega)])
            rw [ZaP ⟨by omega, by rw [Yas]; omega⟩, Int.toNat_natCast, atNat_upP hlt]
            simp only [List.drop_succ_cons, List.drop_zero, ZY, cD_at, Zad]
            rw [ZaP ⟨by omega, by rw [Yas]; omega⟩, ZaP (by rw [Yas]; omega), Zj (by omega) (by omega), modP hlt, show (l[lbP l uid].2 + 1 == 0) = false by rw [beq_eq_false_iff_ne]; omega, hset, he]
            rfl
        · simp only [Yz.l1, atR, rdQ, Q.ask, ZV (show ¬ (a3.length : Int) < a3.length by omega), cond_false]
          rfl
      · rw [ZV hs, ZQ (show Yi.v (ofP l) ≥ a1 by omega)]
        rfl
    · unfold overI Zbo
      cases hq : (List.range l.length).find? (fun i : Nat => decide (gI (ofP l) (i : Int) 1 > Ym.v a0 a1 a2 a3 (ofP l) (gI (ofP l) (i : Int) 0))) with
      | some i =>
        simp only []
        rw [ZQ (show (i : Int) ≥ 0 by omega)]
        rfl
      | none =>
        simp only []
        rw [ZV (show ¬ (-1 : Int) ≥ 0 by decide)]
        simp only [cond_false]
        cases decide (Yi.v (ofP l) < a1)
        · rfl
        · cases (List.range a3.length).find? (lackP a3 l) <;> rfl
theorem moveV_back (g0 : a0.size ≤ lim) (g3 : Zi Yc lim a3) (g4 : Zi RII lim (ofP l)) : Zi RII 2097152 (ofP (moveV a0 a1 a2 a3 l).1) ∧ (moveV a0 a1 a2 a3 l).1.length ≤ 2097152 := by
  have hlim : lim = 1048576 := rfl
  have l4 := g4.1
  rw [Yap] at l4
  have hw := ofP_wf g4
  have base : Zi RII 2097152 (ofP l) ∧ l.length ≤ 2097152 := ⟨ofP_ok (by omega) hw, by omega⟩
  have put : ∀ {u n : Int} {b : Bool}, (Lit.int .i64 u).wf = true → (Lit.int .i64 n).wf = true → Zi RII 2097152 (ofP (Yaq u n b l)) ∧ (Yaq u n b l).length ≤ 2097152 := fun {u n b} h1 h2 => by
    have := putR_len (uid := u) (n := n) b l
    refine ⟨ofP_ok (by omega) fun p hp => ?_, by omega⟩
    rcases putR_mem hp with rfl | hp
    · exact ⟨h1, h2⟩
    · exact hw p hp
  have wf : ∀ {n : Int}, -1 ≤ n → n ≤ 1000001 → (Lit.int .i64 n).wf = true := fun {n} h1 h2 => by simp [Lit.wf, IntKind.min, IntKind.max, IntKind.signed, IntKind.bits]; omega
  unfold moveV
  cases hok : YK.v a0 a1 a2 a3 (ofP l) with
  | false => exact base
  | true =>
    obtain ⟨hr, hwk, h80⟩ := isle_parts g0 g3 g4 hok
    obtain ⟨hasc, hlow⟩ := runs_pairs hr
    simp only [cond_true]
    by_cases ho : overI a0 a1 a2 a3 l ≥ 0
    · rw [ZQ ho]
      obtain ⟨h1, h2, h3, h4⟩ := findI_some (p := fun i => decide (gI (ofP l) (i : Int) 1 > Ym.v a0 a1 a2 a3 (ofP l) (gI (ofP l) (i : Int) 0))) (n := l.length) ho
      change (overI a0 a1 a2 a3 l).toNat < l.length at h1
      change (((overI a0 a1 a2 a3 l).toNat : Nat) : Int) = overI a0 a1 a2 a3 l at h3
      generalize overI a0 a1 a2 a3 l = v at *
      obtain ⟨i, rfl⟩ : ∃ i : Nat, v = (i : Int) := ⟨v.toNat, by omega⟩
      simp only [Int.toNat_natCast] at h1
      have hp := hlow l[i] (List.getElem_mem h1)
      simp only [cond_true, gI_ofP0 h1, gI_ofP1 h1]
      exact put (wf (by omega) (by omega)) (wf (by omega) (by omega))
    · rw [ZV ho]
      simp only [cond_false]
      cases decide (Yi.v (ofP l) < a1) with
      | false => exact base
      | true =>
        simp only [cond_true]
        split
        · rename_i i hi
          have hlt := List.mem_range.mp (List.mem_of_find?_eq_some hi)
          have hwi := works_low g3 hwk i hlt
          unfold worksP inB at hwi
          simp only [Bool.and_eq_true, decide_eq_true_eq] at hwi
          have hn := runN_mem (uid := gI a3 (i : Int) 0) fun p hp => ⟨(hlow p hp).1, (hlow p hp).2.1⟩
          exact put (wf (by omega) (by omega)) (wf (by omega) (by omega))
        · exact base
end
theorem Yan.tm {ι α : Type} {ok : ι → Prop} {ψ : α → Prop} {p : ι → Nat} {B : Nat} (hp : ∀ i, ok i → B ≤ p i) {aA aB aF aD aC φ} (h : Tm (fun k => B ≤ k) (fun k => Yan.t k aA aB aF aD aC) φ) {G : ι → Bool → Option α} (hG : ∀ z0, φ z0 → Tm ok (fun i => G i z0) ψ) : Tm ok (fun i => Yan.f (p i) aA aB aF aD aC (G i)) ψ := ZK (t := fun k => Yan.t k aA aB aF aD aC) hp h hG
theorem spec_Calm_t {a0 : ByteArray} {a1 a2 : Int} {a3 : List (List D)} {l : List (Int × Int)} (g0 : a0.size ≤ lim) (g3 : Zi Yc lim a3) (g4 : Zi RII lim (ofP l)) {k : Nat} (hk : ZF 1 k) : Yam.t k a0 a1 a2 a3 (ofP l) = some ((moveV a0 a1 a2 a3 l).2.2 == 0) := by
  have h := spec_Move_t (a1 := a1) (a2 := a2) g0 g3 g4 hk
  unfold moveR at h
  unfold Yam.t Yam.g
  rw [Y1.f_of h]
theorem Yam.T {aA : ByteArray} {aB aF : Int} {aD aC : List (List D)} (g0 : aA.size ≤ lim) (g3 : Zi Yc lim aD) (g4 : Zi RII lim aC) : Tm (ZF 1) (fun k => Yam.t k aA aB aF aD aC) (fun _ => True) := by
  obtain ⟨l, rfl⟩ := ofP_of g4.2
  exact Tm.of (fun k hk => spec_Calm_t g0 g3 g4 hk) trivial
theorem Yan.same {aA : ByteArray} {aB aF : Int} {aD aC : List (List D)} (g0 : aA.size ≤ lim) (g3 : Zi Yc lim aD) (g4 : Zi RII lim aC) {k : Nat} (hk : ZF 1 k) : Yan.t k aA aB aF aD aC = Yam.t k aA aB aF aD aC := by
  obtain ⟨l, rfl⟩ := ofP_of g4.2
  have h := impl_Move_t (a1 := aB) (a2 := aF) g0 g3 g4 hk
  unfold moveR at h
  rw [spec_Calm_t g0 g3 g4 hk]
  unfold Yan.t Yan.g
  rw [Yz.f_of h]
theorem Yv.tm {ι α : Type} {ok : ι → Prop} {ψ : α → Prop} {p : ι → Nat} {B : Nat} (hp : ∀ i, ok i → B ≤ p i) {a0 a1 φ} (h : Tm (fun k => B ≤ k) (fun k => Yv.t k a0 a1) φ) {G : ι → Bool → Option α} (hG : ∀ z0, φ z0 → Tm ok (fun i => G i z0) ψ) : Tm ok (fun i => Yv.f (p i) a0 a1 (G i)) ψ := ZK (t := fun k => Yv.t k a0 a1) hp h hG
set_option maxRecDepth 100000 in
theorem Yv.T {B : Nat} {a0 : List (List D)} (ga0 : Zi RS B a0) (hB : B ≤ 1099511627776) : Tm Z3 (fun k => Yv.t k a0 a0) (fun r => r = true) := by
  unfold Yv.t Yv.g
  have hm := Zy
  have hlim : lim = 1048576 := rfl
  have hlen := ga0.1
  refine Tm.ite (fun h1 => ?_) (fun h1 => ?_)
  · try simp only [bz0, bz1, bz2, bz3, bz4, bz5, bz6, bz7, bz8, bz9, bza] at h1
    exact Tm.ret (by first | rfl | (exfalso; simp [Zu] at *))
  · try simp only [bz0, bz1, bz2, bz3, bz4, bz5, bz6, bz7, bz8, bz9, bza] at h1
    refine Tm.loop (okk := Z3) (p := fun k => k) (fun i hi => hi) (b := fun k => Yv.l0 k a0 a0 (fun z0 => some z0)) (fun i => (((a0.length : Int)) - i).toNat) (fun i => 0 ≤ i ∧ i ≤ (a0.length : Int)) ?_ ?_ ?_
    · rintro i hI
      try simp only [] at hI ⊢
      have : big = 2 ^ 64 := rfl
      have := ga0.1
      omega
    · ((try simp only []); omega)
    · rintro i hI L hL
      try simp only [] at hI
      obtain ⟨i0, i1⟩ := hI
      simp only [Yv.l0, atR, rdQ, Q.ask]
      refine Tm.ite (fun h2 => ?_) (fun h2 => ?_)
      · try simp only [bz0, bz1, bz2, bz3, bz4, bz5, bz6, bz7, bz8, bz9, bza] at h2
        refine Tm.atRow (by first | assumption | omega) (by first | assumption | omega) (fun x3 hx4 hm5 => ?_)
        obtain ⟨c6, rfl, g7, _⟩ := (ga0.2 x3 hm5).open
        refine Tm.uncons ?_
        refine Tm.dStr ?_
        refine Tm.atEnd ?_
        refine Tm.atRow (by first | assumption | omega) (by first | assumption | omega) (fun x8 hx9 hm10 => ?_)
        rw [hx4] at hx9
        injection hx9 with hx9
        subst hx9
        refine Tm.uncons ?_
        refine Tm.dStr ?_
        refine Tm.atEnd ?_
        refine Tm.ite (fun h12 => ?_) (fun h12 => ?_)
        · try simp only [bz0, bz1, bz2, bz3, bz4, bz5, bz6, bz7, bz8, bz9, bza] at h12
          exact Tm.ret (by first | rfl | (exfalso; simp [Zu] at *))
        · try simp only [bz0, bz1, bz2, bz3, bz4, bz5, bz6, bz7, bz8, bz9, bza] at h12
          try rw [Zj (x := i + 1) (by omega) (by omega)]
          exact hL _ (by (try simp only []); omega) (by (try simp only []); omega)
      · try simp only [bz0, bz1, bz2, bz3, bz4, bz5, bz6, bz7, bz8, bz9, bza] at h2
        exact Tm.ret (by first | rfl | (exfalso; simp [Zu] at *))
theorem Yo.tm {ι α : Type} {ok : ι → Prop} {ψ : α → Prop} {p : ι → Nat} {B : Nat} (hp : ∀ i, ok i → B ≤ p i) {a0 a1 φ} (h : Tm (fun k => B ≤ k) (fun k => Yo.t k a0 a1) φ) {G : ι → Bool → Option α} (hG : ∀ z0, φ z0 → Tm ok (fun i => G i z0) ψ) : Tm ok (fun i => Yo.f (p i) a0 a1 (G i)) ψ := ZK (t := fun k => Yo.t k a0 a1) hp h hG
theorem YF.tm {ι α : Type} {ok : ι → Prop} {ψ : α → Prop} {p : ι → Nat} {B : Nat} (hp : ∀ i, ok i → B ≤ p i) {aA aB aF aD aC aV aW bA bB bC φ} (h : Tm (fun k => B ≤ k) (fun k => YF.t k aA aB aF aD aC aV aW bA bB bC) φ) {G : ι → Bool → Option α} (hG : ∀ z0, φ z0 → Tm ok (fun i => G i z0) ψ) : Tm ok (fun i => YF.f (p i) aA aB aF aD aC aV aW bA bB bC (G i)) ψ := ZK (t := fun k => YF.t k aA aB aF aD aC aV aW bA bB bC) hp h hG
set_option maxRecDepth 100000 in
theorem eqVal {B : Nat} (hB : B ≤ 1099511627776) (n : Nat) : (∀ (a : List (List D)), a.length ≤ B → (∀ x ∈ a, YY B n x) → Tm (fun k => big + 2 * n + 1 ≤ k) (fun k => Yo.t k a a) (fun r => r = true)) ∧
    (∀ (c0 : Int) (c1 : ByteArray) (c2 : Int) (c3 c4 : List (List D)), c1.size ≤ B → Zi RS B c3 → c4.length ≤ B → (∀ x ∈ c4, YY B n x) → Tm (fun k => big + 2 * n + 2 ≤ k) (fun k => YF.t k c0 c1 c2 c3 c4 c0 c1 c2 c3 c4) (fun r => r = true)) := by
  have hb : big = 2 ^ 64 := rfl
  induction n using Nat.strongRecOn with
  | ind n ih =>
  have S : ∀ (a : List (List D)), a.length ≤ B → (∀ x ∈ a, YY B n x) → Tm (fun k => big + 2 * n + 1 ≤ k) (fun k => Yo.t k a a) (fun r => r = true) := by
    intro a hlen g
    refine Tm.succ (g := fun k => Yo.g k a a (fun z0 => some z0)) (fun k => Yo.t_succ k a a) ?_
    unfold Yo.g Yo.body
    refine Tm.ite (fun h3 => by simp at h3) (fun h3 => ?_)
    refine Tm.loop (okk := fun k => big + 2 * n ≤ k) (p := fun k => k) (fun i hi => by omega) (b := fun k => Yo.l0 k (Yo.f k) (YF.f k) a a (fun z0 => some z0)) (fun i => (((a.length : Int)) - i).toNat) (fun i => 0 ≤ i ∧ i ≤ (a.length : Int)) ?_ ?_ ?_
    · rintro i hI
      omega
    · omega
    · rintro i hI L hL
      obtain ⟨i0, i1⟩ := hI
      simp only [Yo.l0, atR, rdQ, Q.ask]
      refine Tm.ite (fun h4 => ?_) (fun h4 => ?_)
      · simp only [decide_eq_true_eq] at h4
        refine Tm.atRow (by omega) (by omega) (fun x5 hx6 hm7 => ?_)
        obtain ⟨n', hn', c0, c1, c2, c3, c4, rfl, w0, g1, w2, g3, l4, g4⟩ : ∃ n', n = n' + 1 ∧ ∃ c0 c1 c2 c3 c4, x5 = [.int .i64 c0, .str c1, .int .i64 c2, .sl c3, .sl c4] ∧ (Lit.int .i64 c0).wf = true ∧ c1.size ≤ B ∧ (Lit.int .i64 c2).wf = true ∧ Zi RS B c3 ∧ c4.length ≤ B ∧ ∀ x ∈ c4, YY B n' x := by
          have := g x5 hm7
          cases this with
          | mk c0 c1 c2 c3 c4 w0 g1 w2 g3 l4 g4 => exact ⟨_, rfl, _, _, _, _, _, rfl, w0, g1, w2, g3, l4, g4⟩
        refine Tm.uncons (Tm.dInt (Tm.uncons (Tm.dStr (Tm.uncons (Tm.dInt (Tm.uncons (Tm.dSl (Tm.uncons (Tm.dSl (Tm.atEnd ?_))))))))))
        refine Tm.atRow (by omega) (by omega) (fun x8 hx8 _ => ?_)
        rw [hx6] at hx8
        injection hx8 with hx8
        subst hx8
        refine Tm.uncons (Tm.dInt (Tm.uncons (Tm.dStr (Tm.uncons (Tm.dInt (Tm.uncons (Tm.dSl (Tm.uncons (Tm.dSl (Tm.atEnd ?_))))))))))
        refine YF.tm (B := big + 2 * n' + 2) (fun i hi => by have := hi.1; omega) ((ih n' (by omega)).2 c0 c1 c2 c3 c4 g1 g3 l4 g4) (fun y hy => ?_)
        subst hy
        refine Tm.ite (fun h => by simp at h) (fun _ => ?_)
        rw [Zj (x := i + 1) (by omega) (by omega)]
        exact hL (i + 1) ⟨by omega, by omega⟩ (by omega)
      · exact Tm.ret rfl
  refine ⟨S, ?_⟩
  intro c0 c1 c2 c3 c4 g1 g3 l4 g4
  refine Tm.succ (g := fun k => YF.g k c0 c1 c2 c3 c4 c0 c1 c2 c3 c4 (fun z0 => some z0)) (fun k => YF.t_succ k c0 c1 c2 c3 c4 c0 c1 c2 c3 c4) ?_
  unfold YF.g YF.body
  refine Tm.ite (fun h => by simp at h) (fun _ => ?_)
  refine Tm.ite (fun h => by simp [Zu] at h) (fun _ => ?_)
  refine Tm.ite (fun h => by simp at h) (fun _ => ?_)
  refine Yv.tm (B := big) (fun i hi => by omega) (Yv.T g3 hB) (fun y hy => ?_)
  subst hy
  refine Tm.ite (fun h => by simp at h) (fun _ => ?_)
  refine Yo.tm (B := big + 2 * n + 1) (fun i hi => hi) (S c4 l4 g4) (fun y' hy' => ?_)
  subst hy'
  exact Tm.ite (fun h => by simp at h) (fun _ => Tm.ret rfl)
theorem big_lv1e {n : Nat} (h : n ≤ 4398046511104) : big + n ≤ lv 1 := by
  have hb : big = 2 ^ 64 := rfl
  have : lv 1 = 2 ^ 65 := rfl
  omega
theorem YF.T {B : Nat} {aA : Int} {aB : ByteArray} {aF : Int} {aD aC : List (List D)} (g1 : aB.size ≤ B) (g3 : Zi RS B aD) (g4 : Zi YJ B aC) (hB : B ≤ 1099511627776) : Tm (ZF 1) (fun k => YF.t k aA aB aF aD aC aA aB aF aD aC) (fun r => r = true) := by
  have g' : ∀ x ∈ aC, YY B 1099511627776 x := fun x hx => by
    obtain ⟨h, hh, hx⟩ := g4.2 x hx
    exact hx.mono (hh hB)
  exact ((eqVal hB 1099511627776).2 aA aB aF aD aC g1 g3 g4.1 g').up (big_lv1e (n := 2 * 1099511627776 + 2) (by omega))
theorem Yah.tm {ι α : Type} {ok : ι → Prop} {ψ : α → Prop} {p : ι → Nat} {B : Nat} (hp : ∀ i, ok i → B ≤ p i) {aA aB aF aD aC aX aY aV aW bA bB bC a1_5 a1_6 φ} (h : Tm (fun k => B ≤ k) (fun k => Yah.t k aA aB aF aD aC aX aY aV aW bA bB bC a1_5 a1_6) φ) {G : ι → Bool → Option α} (hG : ∀ z0, φ z0 → Tm ok (fun i => G i z0) ψ) : Tm ok (fun i => Yah.f (p i) aA aB aF aD aC aX aY aV aW bA bB bC a1_5 a1_6 (G i)) ψ := ZK (t := fun k => Yah.t k aA aB aF aD aC aX aY aV aW bA bB bC a1_5 a1_6) hp h hG
theorem Yah.T {B : Nat} {aA aB aF : Int} {aD : ByteArray} {aC : Int} {aX aY : List (List D)} (ga0_3 : aD.size ≤ B) (ga0_5 : Zi RS B aX) (ga0_6 : Zi YJ B aY) (hB : B ≤ 1099511627776) : Tm (ZF 1) (fun k => Yah.t k aA aB aF aD aC aX aY aA aB aF aD aC aX aY) (fun r => r = true) := by
  unfold Yah.t Yah.g
  have hm := Zy
  have hlim : lim = 1048576 := rfl
  refine Tm.ite (fun h1 => ?_) (fun h1 => ?_)
  · try simp only [bz0, bz1, bz2, bz3, bz4, bz5, bz6, bz7, bz8, bz9, bza] at h1
    exact Tm.ret (by first | rfl | (exfalso; simp [Zu] at *))
  · try simp only [bz0, bz1, bz2, bz3, bz4, bz5, bz6, bz7, bz8, bz9, bza] at h1
    refine Tm.ite (fun h2 => ?_) (fun h2 => ?_)
    · try simp only [bz0, bz1, bz2, bz3, bz4, bz5, bz6, bz7, bz8, bz9, bza] at h2
      exact Tm.ret (by first | rfl | (exfalso; simp [Zu] at *))
    · try simp only [bz0, bz1, bz2, bz3, bz4, bz5, bz6, bz7, bz8, bz9, bza] at h2
      refine YF.tm (fun i hi => hi) (YF.T (by first | assumption | omega) (by first | assumption | omega) (by first | assumption | omega) (by first | assumption | omega)) (fun y4 hy3 => ?_)
      subst hy3
      refine Tm.ite (fun h5 => ?_) (fun h5 => ?_)
      · try simp only [bz0, bz1, bz2, bz3, bz4, bz5, bz6, bz7, bz8, bz9, bza] at h5
        exact Tm.ret (by first | rfl | (exfalso; simp [Zu] at *))
      · try simp only [bz0, bz1, bz2, bz3, bz4, bz5, bz6, bz7, bz8, bz9, bza] at h5
        exact Tm.ret (by first | rfl | (exfalso; simp [Zu] at *))
theorem YH.tm {ι α : Type} {ok : ι → Prop} {ψ : α → Prop} {p : ι → Nat} {B : Nat} (hp : ∀ i, ok i → B ≤ p i) {a0 a1 φ} (h : Tm (fun k => B ≤ k) (fun k => YH.t k a0 a1) φ) {G : ι → Bool → Option α} (hG : ∀ z0, φ z0 → Tm ok (fun i => G i z0) ψ) : Tm ok (fun i => YH.f (p i) a0 a1 (G i)) ψ := ZK (t := fun k => YH.t k a0 a1) hp h hG
set_option maxRecDepth 100000 in
theorem YH.T {B : Nat} {a0 : List (List D)} (ga0 : Zi Yc B a0) (hB : B ≤ 1099511627776) : Tm (ZF 1) (fun k => YH.t k a0 a0) (fun r => r = true) := by
  unfold YH.t YH.g
  have hm := Zy
  have hlim : lim = 1048576 := rfl
  have hlen := ga0.1
  refine Tm.ite (fun h1 => ?_) (fun h1 => ?_)
  · try simp only [bz0, bz1, bz2, bz3, bz4, bz5, bz6, bz7, bz8, bz9, bza] at h1
    exact Tm.ret (by first | rfl | (exfalso; simp [Zu] at *))
  · try simp only [bz0, bz1, bz2, bz3, bz4, bz5, bz6, bz7, bz8, bz9, bza] at h1
    refine Tm.loop (okk := (ZF 1)) (p := fun k => k) (fun i hi => up0 hi) (b := fun k => YH.l0 k a0 a0 (fun z0 => some z0)) (fun i => (((a0.length : Int)) - i).toNat) (fun i => 0 ≤ i ∧ i ≤ (a0.length : Int)) ?_ ?_ ?_
    · rintro i hI
      try simp only [] at hI ⊢
      have : big = 2 ^ 64 := rfl
      have := ga0.1
      omega
    · ((try simp only []); omega)
    · rintro i hI L hL
      try simp only [] at hI
      obtain ⟨i0, i1⟩ := hI
      simp only [YH.l0, atR, rdQ, Q.ask]
      refine Tm.ite (fun h2 => ?_) (fun h2 => ?_)
      · try simp only [bz0, bz1, bz2, bz3, bz4, bz5, bz6, bz7, bz8, bz9, bza] at h2
        refine Tm.atRow (by first | assumption | omega) (by first | assumption | omega) (fun x3 hx4 hm5 => ?_)
        obtain ⟨c6, c7, c8, c9, c10, c11, c12, rfl, g13, g14, g15, g16, g17, g18, g19, _⟩ := (ga0.2 x3 hm5).open
        refine Tm.uncons ?_
        refine Tm.dInt ?_
        refine Tm.uncons ?_
        refine Tm.dInt ?_
        refine Tm.uncons ?_
        refine Tm.dInt ?_
        refine Tm.uncons ?_
        refine Tm.dStr ?_
        refine Tm.uncons ?_
        refine Tm.dInt ?_
        refine Tm.uncons ?_
        refine Tm.dSl ?_
        refine Tm.uncons ?_
        refine Tm.dSl ?_
        refine Tm.atEnd ?_
        refine Tm.atRow (by first | assumption | omega) (by first | assumption | omega) (fun x20 hx21 hm22 => ?_)
        rw [hx4] at hx21
        injection hx21 with hx21
        subst hx21
        refine Tm.uncons ?_
        refine Tm.dInt ?_
        refine Tm.uncons ?_
        refine Tm.dInt ?_
        refine Tm.uncons ?_
        refine Tm.dInt ?_
        refine Tm.uncons ?_
        refine Tm.dStr ?_
        refine Tm.uncons ?_
        refine Tm.dInt ?_
        refine Tm.uncons ?_
        refine Tm.dSl ?_
        refine Tm.uncons ?_
        refine Tm.dSl ?_
        refine Tm.atEnd ?_
        refine Yah.tm (fun i hi => hi.1) (Yah.T (by first | assumption | omega) (by first | assumption | omega) (by first | assumption | omega) (by first | assumption | omega)) (fun y31 hy30 => ?_)
        subst hy30
        refine Tm.ite (fun h32 => ?_) (fun h32 => ?_)
        · try simp only [bz0, bz1, bz2, bz3, bz4, bz5, bz6, bz7, bz8, bz9, bza] at h32
          exact Tm.ret (by first | rfl | (exfalso; simp [Zu] at *))
        · try simp only [bz0, bz1, bz2, bz3, bz4, bz5, bz6, bz7, bz8, bz9, bza] at h32
          try rw [Zj (x := i + 1) (by omega) (by omega)]
          exact hL _ (by (try simp only []); omega) (by (try simp only []); omega)
      · try simp only [bz0, bz1, bz2, bz3, bz4, bz5, bz6, bz7, bz8, bz9, bza] at h2
        exact Tm.ret (by first | rfl | (exfalso; simp [Zu] at *))
theorem Yal.tm {ι α : Type} {ok : ι → Prop} {ψ : α → Prop} {p : ι → Nat} {B : Nat} (hp : ∀ i, ok i → B ≤ p i) {aA aB aV aW φ} (h : Tm (fun k => B ≤ k) (fun k => Yal.t k aA aB aV aW) φ) {G : ι → Bool → Option α} (hG : ∀ z0, φ z0 → Tm ok (fun i => G i z0) ψ) : Tm ok (fun i => Yal.f (p i) aA aB aV aW (G i)) ψ := ZK (t := fun k => Yal.t k aA aB aV aW) hp h hG
theorem Yal.T {B : Nat} {aA aB : Int} (hB : B ≤ 1099511627776) : Tm Z3 (fun k => Yal.t k aA aB aA aB) (fun r => r = true) := by
  unfold Yal.t Yal.g
  have hm := Zy
  have hlim : lim = 1048576 := rfl
  refine Tm.ite (fun h1 => ?_) (fun h1 => ?_)
  · try simp only [bz0, bz1, bz2, bz3, bz4, bz5, bz6, bz7, bz8, bz9, bza] at h1
    exact Tm.ret (by first | rfl | (exfalso; simp [Zu] at *))
  · try simp only [bz0, bz1, bz2, bz3, bz4, bz5, bz6, bz7, bz8, bz9, bza] at h1
    refine Tm.ite (fun h2 => ?_) (fun h2 => ?_)
    · try simp only [bz0, bz1, bz2, bz3, bz4, bz5, bz6, bz7, bz8, bz9, bza] at h2
      exact Tm.ret (by first | rfl | (exfalso; simp [Zu] at *))
    · try simp only [bz0, bz1, bz2, bz3, bz4, bz5, bz6, bz7, bz8, bz9, bza] at h2
      exact Tm.ret (by first | rfl | (exfalso; simp [Zu] at *))
theorem YP.tm {ι α : Type} {ok : ι → Prop} {ψ : α → Prop} {p : ι → Nat} {B : Nat} (hp : ∀ i, ok i → B ≤ p i) {a0 a1 φ} (h : Tm (fun k => B ≤ k) (fun k => YP.t k a0 a1) φ) {G : ι → Bool → Option α} (hG : ∀ z0, φ z0 → Tm ok (fun i => G i z0) ψ) : Tm ok (fun i => YP.f (p i) a0 a1 (G i)) ψ := ZK (t := fun k => YP.t k a0 a1) hp h hG
set_option maxRecDepth 100000 in
theorem YP.T {B : Nat} {a0 : List (List D)} (ga0 : Zi RII B a0) (hB : B ≤ 1099511627776) : Tm Z3 (fun k => YP.t k a0 a0) (fun r => r = true) := by
  unfold YP.t YP.g
  have hm := Zy
  have hlim : lim = 1048576 := rfl
  have hlen := ga0.1
  refine Tm.ite (fun h1 => ?_) (fun h1 => ?_)
  · try simp only [bz0, bz1, bz2, bz3, bz4, bz5, bz6, bz7, bz8, bz9, bza] at h1
    exact Tm.ret (by first | rfl | (exfalso; simp [Zu] at *))
  · try simp only [bz0, bz1, bz2, bz3, bz4, bz5, bz6, bz7, bz8, bz9, bza] at h1
    refine Tm.loop (okk := Z3) (p := fun k => k) (fun i hi => hi) (b := fun k => YP.l0 k a0 a0 (fun z0 => some z0)) (fun i => (((a0.length : Int)) - i).toNat) (fun i => 0 ≤ i ∧ i ≤ (a0.length : Int)) ?_ ?_ ?_
    · rintro i hI
      try simp only [] at hI ⊢
      have : big = 2 ^ 64 := rfl
      have := ga0.1
      omega
    · ((try simp only []); omega)
    · rintro i hI L hL
      try simp only [] at hI
      obtain ⟨i0, i1⟩ := hI
      simp only [YP.l0, atR, rdQ, Q.ask]
      refine Tm.ite (fun h2 => ?_) (fun h2 => ?_)
      · try simp only [bz0, bz1, bz2, bz3, bz4, bz5, bz6, bz7, bz8, bz9, bza] at h2
        refine Tm.atRow (by first | assumption | omega) (by first | assumption | omega) (fun x3 hx4 hm5 => ?_)
        obtain ⟨c6, c7, rfl, g8, g9, _⟩ := (ga0.2 x3 hm5).open
        refine Tm.uncons ?_
        refine Tm.dInt ?_
        refine Tm.uncons ?_
        refine Tm.dInt ?_
        refine Tm.atEnd ?_
        refine Tm.atRow (by first | assumption | omega) (by first | assumption | omega) (fun x10 hx11 hm12 => ?_)
        rw [hx4] at hx11
        injection hx11 with hx11
        subst hx11
        refine Tm.uncons ?_
        refine Tm.dInt ?_
        refine Tm.uncons ?_
        refine Tm.dInt ?_
        refine Tm.atEnd ?_
        refine Yal.tm (fun i hi => hi.1) (Yal.T (by first | assumption | omega)) (fun y16 hy15 => ?_)
        subst hy15
        refine Tm.ite (fun h17 => ?_) (fun h17 => ?_)
        · try simp only [bz0, bz1, bz2, bz3, bz4, bz5, bz6, bz7, bz8, bz9, bza] at h17
          exact Tm.ret (by first | rfl | (exfalso; simp [Zu] at *))
        · try simp only [bz0, bz1, bz2, bz3, bz4, bz5, bz6, bz7, bz8, bz9, bza] at h17
          try rw [Zj (x := i + 1) (by omega) (by omega)]
          exact hL _ (by (try simp only []); omega) (by (try simp only []); omega)
      · try simp only [bz0, bz1, bz2, bz3, bz4, bz5, bz6, bz7, bz8, bz9, bza] at h2
        exact Tm.ret (by first | rfl | (exfalso; simp [Zu] at *))
theorem Yai.tm {ι α : Type} {ok : ι → Prop} {ψ : α → Prop} {p : ι → Nat} {B : Nat} (hp : ∀ i, ok i → B ≤ p i) {aA aB aF aD aC aV aW bA bB bC φ} (h : Tm (fun k => B ≤ k) (fun k => Yai.t k aA aB aF aD aC aV aW bA bB bC) φ) {G : ι → Bool → Option α} (hG : ∀ z0, φ z0 → Tm ok (fun i => G i z0) ψ) : Tm ok (fun i => Yai.f (p i) aA aB aF aD aC aV aW bA bB bC (G i)) ψ := ZK (t := fun k => Yai.t k aA aB aF aD aC aV aW bA bB bC) hp h hG
theorem Yai.T {B : Nat} {aA : ByteArray} {aB aF : Int} {aD aC : List (List D)} (ga0_0 : aA.size ≤ B) (ga0_3 : Zi Yc B aD) (ga0_4 : Zi RII B aC) (hB : B ≤ 1099511627776) : Tm (ZF 1) (fun k => Yai.t k aA aB aF aD aC aA aB aF aD aC) (fun r => r = true) := by
  unfold Yai.t Yai.g
  have hm := Zy
  have hlim : lim = 1048576 := rfl
  refine Tm.ite (fun h1 => ?_) (fun h1 => ?_)
  · try simp only [bz0, bz1, bz2, bz3, bz4, bz5, bz6, bz7, bz8, bz9, bza] at h1
    exact Tm.ret (by first | rfl | (exfalso; simp [Zu] at *))
  · try simp only [bz0, bz1, bz2, bz3, bz4, bz5, bz6, bz7, bz8, bz9, bza] at h1
    refine Tm.ite (fun h2 => ?_) (fun h2 => ?_)
    · try simp only [bz0, bz1, bz2, bz3, bz4, bz5, bz6, bz7, bz8, bz9, bza] at h2
      exact Tm.ret (by first | rfl | (exfalso; simp [Zu] at *))
    · try simp only [bz0, bz1, bz2, bz3, bz4, bz5, bz6, bz7, bz8, bz9, bza] at h2
      refine Tm.ite (fun h3 => ?_) (fun h3 => ?_)
      · try simp only [bz0, bz1, bz2, bz3, bz4, bz5, bz6, bz7, bz8, bz9, bza] at h3
        exact Tm.ret (by first | rfl | (exfalso; simp [Zu] at *))
      · try simp only [bz0, bz1, bz2, bz3, bz4, bz5, bz6, bz7, bz8, bz9, bza] at h3
        refine YH.tm (fun i hi => hi) (YH.T (by first | assumption | omega) (by first | assumption | omega)) (fun y5 hy4 => ?_)
        subst hy4
        refine Tm.ite (fun h6 => ?_) (fun h6 => ?_)
        · try simp only [bz0, bz1, bz2, bz3, bz4, bz5, bz6, bz7, bz8, bz9, bza] at h6
          exact Tm.ret (by first | rfl | (exfalso; simp [Zu] at *))
        · try simp only [bz0, bz1, bz2, bz3, bz4, bz5, bz6, bz7, bz8, bz9, bza] at h6
          refine YP.tm (fun i hi => up0 hi) (YP.T (by first | assumption | omega) (by first | assumption | omega)) (fun y8 hy7 => ?_)
          subst hy7
          refine Tm.ite (fun h9 => ?_) (fun h9 => ?_)
          · try simp only [bz0, bz1, bz2, bz3, bz4, bz5, bz6, bz7, bz8, bz9, bza] at h9
            exact Tm.ret (by first | rfl | (exfalso; simp [Zu] at *))
          · try simp only [bz0, bz1, bz2, bz3, bz4, bz5, bz6, bz7, bz8, bz9, bza] at h9
            exact Tm.ret (by first | rfl | (exfalso; simp [Zu] at *))
end Go.Proofs.Ytppfencdbabmeaa
