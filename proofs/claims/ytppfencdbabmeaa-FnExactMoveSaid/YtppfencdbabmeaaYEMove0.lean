/- Printed, and by hand: the functions that FnExactMove reaches come to their end; the program's answer as the reference's. -/
import Derived.Test.YtppfencdbabmeaaXEMove1
import Derived.KernelRfl
set_option linter.unusedVariables false
set_option linter.unusedSimpArgs false
namespace Go.Proofs.Ytppfencdbabmeaa
open Go Go.T Go.Proofs
theorem ZaA (n : Int) : n = 1 ∨ n = 2 ∨ n = 3 ∨ n = 4 ∨ n = 5 ∨ ((n == 1) = false ∧ (n == 2) = false ∧ (n == 3) = false ∧ (n == 4) = false ∧ (n == 5) = false) := by
  simp only [beq_eq_false_iff_ne]
  omega
theorem delR_deep {pr : List D → Option Bool} {q : List D → Bool} : ∀ {e : List (List D)}, (∀ r ∈ e, pr r = some (q r)) → delR pr (Zb e) = some (Zb (e.filter fun r => !q r))
  | [], _ => rfl
  | r :: e, h => by
    simp only [Zb, delR, ZcQ, h r (by simp), delR_deep (e := e) fun x hx => h x (by simp [hx])]
    rw [List.filter_cons]
    cases q r <;> rfl
theorem delK_deep {ix : List (List D) → Option Int} {pr : List D → Option Bool} {q : List D → Bool} {d : List (List D)} (hl : d.length ≤ 1048576) (hix : ix d = some (Zbo (fun i => q (gR d (i : Int))) d.length)) (h : ∀ r ∈ d, pr r = some (q r)) : delK ix pr (Zb d) = some (Zb (d.filter fun r => !q r)) := by
  unfold delK
  rw [ZO, hix]
  have hg : ∀ i (hi : i < d.length), gR d (i : Int) = d[i] := fun i hi => by
    have := gR_at (xs := d) (v := (i : Int)) (by omega) (by omega)
    rw [Int.toNat_natCast, List.getElem?_eq_getElem hi] at this
    injection this with this
    exact this.symm
  by_cases hz : Zbo (fun i => q (gR d (i : Int))) d.length < 0
  · obtain ⟨h1, h2⟩ := findI_none hz
    simp only [h1, if_true]
    congr 2
    symm
    rw [List.filter_eq_self]
    intro x hx
    obtain ⟨i, hi, rfl⟩ := List.mem_iff_getElem.mp hx
    have := h2 i hi
    rw [hg i hi] at this
    rw [this]; rfl
  · obtain ⟨h1, h2, h3, h4⟩ := findI_some (p := fun i => q (gR d (i : Int))) (n := d.length) (by omega)
    generalize Zbo (fun i => q (gR d (i : Int))) d.length = z at *
    simp only [show ¬ z = -1 by omega, if_false]
    rw [ZaP ⟨by omega, by rw [Zw]; omega, by rw [Zw]; omega⟩]
    have ht : ∀ m, m ≤ d.length → (Zb d).take m = Zb (d.take m) ∧ (Zb d).drop m = Zb (d.drop m) := fun m hm => by
      have e : Zb d = Zb (d.take m) ++ Zb (d.drop m) := by rw [← Zai, List.take_append_drop]
      have l : (Zb (d.take m)).length = m := by rw [Zw, List.length_take]; omega
      rw [e]
      exact ⟨List.take_left' l, List.drop_left' l⟩
    rw [(ht z.toNat (by omega)).1, (ht (z.toNat + 1) (by omega)).2, delR_deep fun r hr => h r (List.mem_of_mem_drop hr)]
    simp only []
    rw [← Zai]
    congr 2
    have h5 : d = d.take z.toNat ++ (d[z.toNat] :: d.drop (z.toNat + 1)) := by rw [List.getElem_cons_drop, List.take_append_drop]
    conv => rhs; rw [h5]
    rw [List.filter_append, List.filter_cons]
    have h7 : q d[z.toNat] = true := by have := h2; rwa [hg _ h1] at this
    rw [h7]
    simp only [Bool.not_true, Bool.false_eq_true, if_false]
    congr 1
    symm
    rw [List.filter_eq_self]
    intro x hx
    obtain ⟨i, hi, rfl⟩ := List.mem_iff_getElem.mp hx
    rw [List.length_take] at hi
    have := h4 i (by omega)
    rw [hg i (by omega)] at this
    rw [List.getElem_take, this]; rfl
theorem YC.tm {ι α : Type} {ok : ι → Prop} {ψ : α → Prop} {p : ι → Nat} {B : Nat} (hp : ∀ i, ok i → B ≤ p i) {a0 a1 φ} (h : Tm (fun k => B ≤ k) (fun k => YC.t k a0 a1) φ) {G : ι → Int → Option α} (hG : ∀ z0, φ z0 → Tm ok (fun i => G i z0) ψ) : Tm ok (fun i => YC.f (p i) a0 a1 (G i)) ψ := ZK (t := fun k => YC.t k a0 a1) hp h hG
def RS (B : Nat) (r : List D) : Prop := ∃ (c0 : ByteArray), r = [.str c0] ∧ c0.size ≤ B ∧ True
theorem RS.open {B : Nat} {r : List D} (h : RS B r) : ∃ (c0 : ByteArray), r = [.str c0] ∧ c0.size ≤ B ∧ True := h
theorem RS.mono {B B' : Nat} (hb : B ≤ B') {r : List D} (h : RS B r) : RS B' r := by
  obtain ⟨c0, rfl, k0, _⟩ := h
  exact ⟨_, rfl, (Nat.le_trans k0 hb), trivial⟩
theorem RS.wide {xs : List (List D)} (h : Zi RS lim xs) : Zi RS 2097152 xs := ⟨Nat.le_trans h.1 (by decide), fun r hr => (h.2 r hr).mono (by decide)⟩
theorem RS.len {B : Nat} {r : List D} (h : RS B r) : r.length = 1 := by
  obtain ⟨c0, rfl, _⟩ := h.open
  rfl
theorem RS.flat {B : Nat} {xs : List (List D)} (h : ∀ r ∈ xs, RS B r) : ZaZ 1 xs := fun r hr => by
  obtain ⟨c0, rfl, _⟩ := (h r hr).open
  exact ⟨rfl, by simp [Zau]⟩
theorem RS.wt {B : Nat} {xs : List (List D)} (h : ∀ r ∈ xs, RS B r) : Zp xs = 1 * xs.length := wt_flat (R := RS B) (fun r h => by obtain ⟨c0, rfl, _⟩ := h; rfl) xs h
theorem RS.deep {B : Nat} {xs : List (List D)} (h : ∀ r ∈ xs, RS B r) : Zb xs = xs.map (·.map C.d) := deep_flat (R := RS B) (fun r h => by obtain ⟨c0, rfl, _⟩ := h; rfl) xs h
theorem RS.gets {B : Nat} {xs : List (List D)} (h : ∀ r ∈ xs, RS B r) {v : Int} (h0 : 0 ≤ v) (h1 : v < xs.length) : gR xs v = [.str (gS xs v 0)] ∧ (gS xs v 0).size ≤ B ∧ True := by
  obtain ⟨c0, e, k0, _⟩ := (h (gR xs v) (gR_mem h0 h1)).open
  unfold gS
  rw [e]
  exact ⟨rfl, k0, trivial⟩
theorem RS.rows {B : Nat} {xs : List (List D)} (h : ∀ r ∈ xs, RS B r) {v : Int} (h0 : 0 ≤ v) (h1 : v < xs.length) {β : Type} (F : List D → Option β) : Zbw xs v F = F [.str (gS xs v 0)] := by
  rw [← (RS.gets h h0 h1).1]
  exact Zbp h0 h1 F
theorem RS.get {B : Nat} {xs : List (List D)} (h : Zi RS B xs) {v : Int} (h0 : 0 ≤ v) (h1 : v < xs.length) : gR xs v = [.str (gS xs v 0)] ∧ (gS xs v 0).size ≤ B ∧ True := RS.gets h.2 h0 h1
theorem RS.row {B : Nat} {xs : List (List D)} (h : Zi RS B xs) {v : Int} (h0 : 0 ≤ v) (h1 : v < xs.length) {β : Type} (F : List D → Option β) : Zbw xs v F = F [.str (gS xs v 0)] := RS.rows h.2 h0 h1 F
set_option maxRecDepth 100000 in
theorem YC.T {a0 : List (List D)} {a1 : Int} (h0 : 0 ≤ a1) (h1 : a1 ≤ 1048576) (ga0 : Zi RS maxLen a0) : Tm Z3 (fun k => YC.t k a0 a1) (fun r => r < 0 ∨ 0 ≤ r ∧ r ≤ a1 ∧ Zi RS lim a0 ∧ ((Zp a0 : Nat) : Int) ≤ 64 * (a1 - r) ∧ True) := by
  unfold YC.t YC.g
  have hm := Zy
  have hlim : lim = 1048576 := rfl
  have hlen := ga0.1
  try rw [Zj (x := a1 - (a0.length : Int)) (by omega) (by omega)]
  refine Tm.ite (fun h1 => ?_) (fun h1 => ?_)
  · try simp only [bz0, bz1, bz2, bz3, bz4, bz5, bz6, bz7, bz8, bz9, bza] at h1
    exact Tm.ret (by first | (left; omega) | (right; refine ⟨?_, ?_, ?_, ?_, trivial⟩ <;> first | assumption | omega))
  · try simp only [bz0, bz1, bz2, bz3, bz4, bz5, bz6, bz7, bz8, bz9, bza] at h1
    refine Tm.loop (okk := Z3) (p := fun k => k) (fun i hi => hi) (b := fun k => YC.l0 k a0 (fun z0 => some z0)) (fun v => match v with | (u0, i) => (((a0.length : Int)) - i).toNat) (fun v => match v with | (u0, i) => 0 ≤ u0 ∧ u0 ≤ a1 ∧ 0 ≤ i ∧ i ≤ (a0.length : Int) ∧ (∀ r ∈ a0.take i.toNat, RS lim r) ∧ ((Zp (a0.take i.toNat) : Nat) : Int) ≤ 64 * (a1 - a0.length - u0 + i)) ?_ ?_ ?_
    · rintro ⟨u0, i⟩ hI
      try simp only [] at hI ⊢
      have : big = 2 ^ 64 := rfl
      have := ga0.1
      omega
    · exact ⟨by omega, by omega, by omega, by simp, by simp, by simp [Zp]⟩
    · rintro ⟨u0, i⟩ hI L hL
      try simp only [] at hI
      obtain ⟨u0a, u0b, i0, i1, hr, hwt⟩ := hI
      simp only [YC.l0, atR, rdQ, Q.ask]
      refine Tm.ite (fun h2 => ?_) (fun h2 => ?_)
      · try simp only [bz0, bz1, bz2, bz3, bz4, bz5, bz6, bz7, bz8, bz9, bza] at h2
        refine Tm.atRow (by first | assumption | omega) (by first | assumption | omega) (fun x3 hx4 hm5 => ?_)
        obtain ⟨c6, rfl, g7, _⟩ := (ga0.2 x3 hm5).open
        refine Tm.uncons ?_
        refine Tm.dStr ?_
        refine Tm.atEnd ?_
        try rw [Zj (x := u0 - (c6.size : Int)) (by omega) (by omega)]
        refine Tm.ite (fun h8 => ?_) (fun h8 => ?_)
        · try simp only [bz0, bz1, bz2, bz3, bz4, bz5, bz6, bz7, bz8, bz9, bza] at h8
          exact Tm.ret (by first | (left; omega) | (rw [List.take_of_length_le (by omega)] at hwt; exact .inr ⟨by omega, by omega, ⟨by simp only [lim]; omega, ZcD (by omega) hr⟩, by omega, trivial⟩))
        · try simp only [bz0, bz1, bz2, bz3, bz4, bz5, bz6, bz7, bz8, bz9, bza] at h8
          try rw [Zj (x := i + 1) (by omega) (by omega)]
          have hwx := wt_take i0 hx4
          simp only [ZbG, wtD] at hwx
          refine hL ((u0 - (c6.size : Int)), (i + 1)) ⟨by omega, by omega, by omega, by omega, take_rows i0 hx4 hr ⟨_, rfl, by first | assumption | omega, trivial⟩, by omega⟩ (by (try simp only []); omega)
      · try simp only [bz0, bz1, bz2, bz3, bz4, bz5, bz6, bz7, bz8, bz9, bza] at h2
        exact Tm.ret (by first | (left; omega) | (rw [List.take_of_length_le (by omega)] at hwt; exact .inr ⟨by omega, by omega, ⟨by simp only [lim]; omega, ZcD (by omega) hr⟩, by omega, trivial⟩))
theorem Yr.tm {ι α : Type} {ok : ι → Prop} {ψ : α → Prop} {p : ι → Nat} {B : Nat} (hp : ∀ i, ok i → B ≤ p i) {a0 a1 φ} (h : Tm (fun k => B ≤ k) (fun k => Yr.t k a0 a1) φ) {G : ι → Int → Option α} (hG : ∀ z0, φ z0 → Tm ok (fun i => G i z0) ψ) : Tm ok (fun i => Yr.f (p i) a0 a1 (G i)) ψ := ZK (t := fun k => Yr.t k a0 a1) hp h hG
inductive Y2 (B : Nat) : Nat → List D → Prop
  | mk {h : Nat} (c0 : Int) (c1 : ByteArray) (c2 : Int) (c3 : List (List D)) (c4 : List (List D)) (k0 : (Lit.int .i64 c0).wf = true) (k1 : c1.size ≤ B) (k2 : (Lit.int .i64 c2).wf = true) (k3 : Zi RS B c3) (k4 : c4.length ≤ B) (m4 : ∀ r ∈ c4, Y2 B h r) : Y2 B (h + 1) [.int .i64 c0, .str c1, .int .i64 c2, .sl c3, .sl c4]
def YP (B : Nat) (r : List D) : Prop := ∃ h, (B ≤ 1099511627776 → h ≤ 1099511627776) ∧ Y2 B h r
theorem YP.open {B : Nat} {r : List D} (h : YP B r) : ∃ (c0 : Int) (c1 : ByteArray) (c2 : Int) (c3 : List (List D)) (c4 : List (List D)), r = [.int .i64 c0, .str c1, .int .i64 c2, .sl c3, .sl c4] ∧ (Lit.int .i64 c0).wf = true ∧ c1.size ≤ B ∧ (Lit.int .i64 c2).wf = true ∧ Zi RS B c3 ∧ Zi YP B c4 ∧ True := by
  obtain ⟨h, hh, h1⟩ := h
  cases h1 with
  | mk c0 c1 c2 c3 c4 k0 k1 k2 k3 k4 m4 => exact ⟨c0, c1, c2, c3, c4, rfl, k0, k1, k2, k3, ⟨k4, fun r hr => ⟨_, fun hb => by have := hh hb; omega, m4 r hr⟩⟩, trivial⟩
theorem Y2.up {B B' : Nat} (hb : B ≤ B') : ∀ {h : Nat} {r : List D}, Y2 B h r → Y2 B' h r
  | _ + 1, _, .mk c0 c1 c2 c3 c4 k0 k1 k2 k3 k4 m4 => .mk c0 c1 c2 c3 c4 k0 (Nat.le_trans k1 hb) k2 ⟨Nat.le_trans k3.1 hb, fun r hr => (k3.2 r hr).mono hb⟩ (Nat.le_trans k4 hb) (fun r hr => Y2.up hb (m4 r hr))
theorem YP.mono {B B' : Nat} (hb : B ≤ B') {r : List D} (h : YP B r) : YP B' r := by
  obtain ⟨h, hh, h1⟩ := h
  exact ⟨h, fun h2 => hh (Nat.le_trans hb h2), h1.up hb⟩
theorem Y2.mono {B : Nat} : ∀ {h h' : Nat} {r : List D}, h ≤ h' → Y2 B h r → Y2 B h' r
  | _, 0, _, hl, .mk .. => by omega
  | _ + 1, _ + 1, _, hl, .mk c0 c1 c2 c3 c4 k0 k1 k2 k3 k4 m4 => .mk c0 c1 c2 c3 c4 k0 k1 k2 k3 k4 (fun r hr => Y2.mono (by omega) (m4 r hr))
theorem YP.wide {xs : List (List D)} (h : Zi YP lim xs) : Zi YP 2097152 xs := ⟨Nat.le_trans h.1 (by decide), fun r hr => (h.2 r hr).mono (by decide)⟩
theorem YP.len {B : Nat} {r : List D} (h : YP B r) : r.length = 5 := by
  obtain ⟨c0, c1, c2, c3, c4, rfl, _⟩ := h.open
  rfl
theorem YP.gets {B : Nat} {xs : List (List D)} (h : ∀ r ∈ xs, YP B r) {v : Int} (h0 : 0 ≤ v) (h1 : v < xs.length) : gR xs v = [.int .i64 (gI xs v 0), .str (gS xs v 1), .int .i64 (gI xs v 2), .sl (gL xs v 3), .sl (gL xs v 4)] ∧ (Lit.int .i64 (gI xs v 0)).wf = true ∧ (gS xs v 1).size ≤ B ∧ (Lit.int .i64 (gI xs v 2)).wf = true ∧ Zi RS B (gL xs v 3) ∧ Zi YP B (gL xs v 4) ∧ True := by
  obtain ⟨c0, c1, c2, c3, c4, e, k0, k1, k2, k3, k4, _⟩ := (h (gR xs v) (gR_mem h0 h1)).open
  unfold gI gL gS
  rw [e]
  exact ⟨rfl, k0, k1, k2, k3, k4, trivial⟩
theorem YP.rows {B : Nat} {xs : List (List D)} (h : ∀ r ∈ xs, YP B r) {v : Int} (h0 : 0 ≤ v) (h1 : v < xs.length) {β : Type} (F : List D → Option β) : Zbw xs v F = F [.int .i64 (gI xs v 0), .str (gS xs v 1), .int .i64 (gI xs v 2), .sl (gL xs v 3), .sl (gL xs v 4)] := by
  rw [← (YP.gets h h0 h1).1]
  exact Zbp h0 h1 F
theorem YP.get {B : Nat} {xs : List (List D)} (h : Zi YP B xs) {v : Int} (h0 : 0 ≤ v) (h1 : v < xs.length) : gR xs v = [.int .i64 (gI xs v 0), .str (gS xs v 1), .int .i64 (gI xs v 2), .sl (gL xs v 3), .sl (gL xs v 4)] ∧ (Lit.int .i64 (gI xs v 0)).wf = true ∧ (gS xs v 1).size ≤ B ∧ (Lit.int .i64 (gI xs v 2)).wf = true ∧ Zi RS B (gL xs v 3) ∧ Zi YP B (gL xs v 4) ∧ True := YP.gets h.2 h0 h1
theorem YP.row {B : Nat} {xs : List (List D)} (h : Zi YP B xs) {v : Int} (h0 : 0 ≤ v) (h1 : v < xs.length) {β : Type} (F : List D → Option β) : Zbw xs v F = F [.int .i64 (gI xs v 0), .str (gS xs v 1), .int .i64 (gI xs v 2), .sl (gL xs v 3), .sl (gL xs v 4)] := YP.rows h.2 h0 h1 F
theorem YN.tm {ι α : Type} {ok : ι → Prop} {ψ : α → Prop} {p : ι → Nat} {B : Nat} (hp : ∀ i, ok i → B ≤ p i) {aA aB aH aF aD a1 φ} (h : Tm (fun k => B ≤ k) (fun k => YN.t k aA aB aH aF aD a1) φ) {G : ι → Int → Option α} (hG : ∀ z0, φ z0 → Tm ok (fun i => G i z0) ψ) : Tm ok (fun i => YN.f (p i) aA aB aH aF aD a1 (G i)) ψ := ZK (t := fun k => YN.t k aA aB aH aF aD a1) hp h hG
set_option maxRecDepth 100000 in
theorem szVal (n : Nat) : (∀ (left : Int) (a : List (List D)), 0 ≤ left → left ≤ n → left ≤ 1048576 → Zi YP maxLen a → Tm (fun k => big + 2 * n + 1 ≤ k) (fun k => Yr.t k a left) (fun r => r < 0 ∨ 0 ≤ r ∧ r ≤ left ∧ a.length ≤ lim ∧ (∀ x ∈ a, Y2 lim (left - r).toNat x) ∧ ((Zp a : Nat) : Int) ≤ 64 * (left - r))) ∧
    (∀ (left c0 : Int) (c1 : ByteArray) (c2 : Int) (c3 c4 : List (List D)), 0 ≤ left → left ≤ n → left ≤ 1048576 → c1.size ≤ maxLen → Zi RS maxLen c3 → Zi YP maxLen c4 → Tm (fun k => big + 2 * n + 2 ≤ k) (fun k => YN.t k c0 c1 c2 c3 c4 left) (fun r => r < 0 ∨ 0 ≤ r ∧ r ≤ left ∧ c1.size ≤ lim ∧ Zi RS lim c3 ∧ c4.length ≤ lim ∧ (∀ x ∈ c4, Y2 lim (left - r).toNat x) ∧ ((Zp c3 + Zp c4 : Nat) : Int) ≤ 64 * (left - r))) := by
  have hm := Zy
  have hlim : lim = 1048576 := rfl
  have hb : big = 2 ^ 64 := rfl
  induction n using Nat.strongRecOn with
  | ind n ih =>
  have S : ∀ (left : Int) (a : List (List D)), 0 ≤ left → left ≤ n → left ≤ 1048576 → Zi YP maxLen a → Tm (fun k => big + 2 * n + 1 ≤ k) (fun k => Yr.t k a left) (fun r => r < 0 ∨ 0 ≤ r ∧ r ≤ left ∧ a.length ≤ lim ∧ (∀ x ∈ a, Y2 lim (left - r).toNat x) ∧ ((Zp a : Nat) : Int) ≤ 64 * (left - r)) := by
    intro left a h0 h1 h2 g
    have hlen := g.1
    refine Tm.succ (g := fun k => Yr.g k a left (fun z0 => some z0)) (fun k => Yr.t_succ k a left) ?_
    unfold Yr.g Yr.body
    rw [Zj (x := left - a.length) (by omega) (by omega)]
    refine Tm.ite (fun h3 => Tm.ret (.inl (by omega))) (fun h3 => ?_)
    simp only [decide_eq_false_iff_not, Int.not_lt] at h3
    refine Tm.loop (okk := fun k => big + 2 * n ≤ k) (p := fun k => k) (fun i hi => by omega) (b := fun k => Yr.l0 k (Yr.f k) (YN.f k) a (fun z0 => some z0)) (fun v => match v with | (u0, i) => (((a.length : Int)) - i).toNat) (fun v => match v with | (u0, i) => 0 ≤ u0 ∧ u0 ≤ left - a.length ∧ 0 ≤ i ∧ i ≤ (a.length : Int) ∧ (∀ r ∈ a.take i.toNat, Y2 lim (left - u0).toNat r) ∧ ((Zp (a.take i.toNat) : Nat) : Int) ≤ 64 * (left - a.length - u0 + i)) ?_ ?_ ?_
    · rintro ⟨u0, i⟩ hI
      simp only [] at hI ⊢
      omega
    · exact ⟨by omega, by omega, by omega, by omega, by simp, by simp [Zp]⟩
    · rintro ⟨u0, i⟩ hI L hL
      simp only [] at hI
      obtain ⟨u0a, u0b, i0, i1, hr, hwt⟩ := hI
      simp only [Yr.l0, atR, rdQ, Q.ask]
      refine Tm.ite (fun h4 => ?_) (fun h4 => ?_)
      · simp only [decide_eq_true_eq] at h4
        refine Tm.atRow (by omega) (by omega) (fun x5 hx6 hm7 => ?_)
        obtain ⟨c0, c1, c2, c3, c4, rfl, w0, g1, w2, g3, g4, _⟩ := (g.2 x5 hm7).open
        refine Tm.uncons (Tm.dInt (Tm.uncons (Tm.dStr (Tm.uncons (Tm.dInt (Tm.uncons (Tm.dSl (Tm.uncons (Tm.dSl (Tm.atEnd ?_))))))))))
        refine YN.tm (B := big + 2 * (n - 1) + 2) (fun i hi => by have := hi.1; omega) ((ih (n - 1) (by omega)).2 u0 c0 c1 c2 c3 c4 u0a (by omega) (by omega) g1 g3 g4) (fun y hy => ?_)
        rcases hy with hy | ⟨y0, y1, q1, q3, q4, q5, qw⟩
        · exact Tm.ite (fun _ => Tm.ret (.inl (by omega))) (fun h => by simp at h; omega)
        refine Tm.ite (fun h8 => by simp at h8; omega) (fun h8 => ?_)
        rw [Zj (x := i + 1) (by omega) (by omega)]
        have hwx := wt_take i0 hx6
        simp only [ZbG, wtD] at hwx
        refine hL (y, i + 1) ⟨by omega, by omega, by omega, by omega, take_rows i0 hx6 (fun r hr' => (hr r hr').mono (by omega)) ?_, by omega⟩ (by simp only []; omega)
        exact Y2.mono (h := (u0 - y).toNat + 1) (by omega) (.mk _ _ _ _ _ w0 q1 w2 q3 q4 q5)
      · simp only [decide_eq_false_iff_not, Int.not_lt] at h4
        rw [List.take_of_length_le (by omega)] at hwt
        exact Tm.ret (.inr ⟨by omega, by omega, by omega, fun x hx => (ZcD (by omega) hr x hx).mono (by omega), by omega⟩)
  refine ⟨S, ?_⟩
  intro left c0 c1 c2 c3 c4 h0 h1 h2 g1 g3 g4
  refine Tm.succ (g := fun k => YN.g k c0 c1 c2 c3 c4 left (fun z0 => some z0)) (fun k => YN.t_succ k c0 c1 c2 c3 c4 left) ?_
  unfold YN.g YN.body
  rw [Zj (x := left - c1.size) (by omega) (by omega)]
  refine Tm.ite (fun h3 => Tm.ret (.inl (by omega))) (fun h3 => ?_)
  simp only [decide_eq_false_iff_not, Int.not_lt] at h3
  refine YC.tm (B := big) (fun i hi => by omega) (YC.T (by omega) (by omega) g3) (fun y hy => ?_)
  rcases hy with hy | ⟨y0, y1, q3, qw, _⟩
  · exact Tm.ite (fun _ => Tm.ret (.inl (by omega))) (fun h => by simp at h; omega)
  refine Tm.ite (fun h8 => by simp at h8; omega) (fun h8 => ?_)
  refine Yr.tm (B := big + 2 * n + 1) (fun i hi => hi) (S y c4 y0 (by omega) (by omega) g4) (fun y' hy' => ?_)
  rcases hy' with hy' | ⟨y0', y1', q4, q5, qw'⟩
  · exact Tm.ite (fun _ => Tm.ret (.inl (by omega))) (fun h => by simp at h; omega)
  refine Tm.ite (fun h8 => by simp at h8; omega) (fun h8 => ?_)
  exact Tm.ret (.inr ⟨by omega, by omega, by omega, q3, q4, fun x hx => (q5 x hx).mono (by omega), by omega⟩)
theorem big_lv1 {n : Nat} (h : n ≤ 4398046511104) : big + n ≤ lv 1 := by
  have hb : big = 2 ^ 64 := rfl
  have : lv 1 = 2 ^ 65 := rfl
  omega
theorem YN.T {aA : Int} {aB : ByteArray} {aH : Int} {aF aD : List (List D)} {a1 : Int} (h0 : 0 ≤ a1) (h1 : a1 ≤ 1048576) (g1 : aB.size ≤ maxLen) (g3 : Zi RS maxLen aF) (g4 : Zi YP maxLen aD) : Tm (ZF 1) (fun k => YN.t k aA aB aH aF aD a1) (fun r => r < 0 ∨ 0 ≤ r ∧ r ≤ a1 ∧ aB.size ≤ lim ∧ Zi RS lim aF ∧ Zi YP lim aD ∧ ((Zp aF + Zp aD : Nat) : Int) ≤ 64 * (a1 - r) ∧ True) :=
  (((szVal a1.toNat).2 a1 aA aB aH aF aD h0 (by omega) h1 g1 g3 g4).up (big_lv1 (n := 2 * a1.toNat + 2) (by omega))).mono fun r hr => by
    rcases hr with hr | ⟨r0, r1, r2, r3, r4, r5, r6⟩
    · exact .inl hr
    · exact .inr ⟨r0, r1, r2, r3, ⟨r4, fun x hx => ⟨_, fun _ => by omega, r5 x hx⟩⟩, r6, trivial⟩
theorem Yaq.tm {ι α : Type} {ok : ι → Prop} {ψ : α → Prop} {p : ι → Nat} {B : Nat} (hp : ∀ i, ok i → B ≤ p i) {aA aB aH aF aD aX aY a1 φ} (h : Tm (fun k => B ≤ k) (fun k => Yaq.t k aA aB aH aF aD aX aY a1) φ) {G : ι → Int → Option α} (hG : ∀ z0, φ z0 → Tm ok (fun i => G i z0) ψ) : Tm ok (fun i => Yaq.f (p i) aA aB aH aF aD aX aY a1 (G i)) ψ := ZK (t := fun k => Yaq.t k aA aB aH aF aD aX aY a1) hp h hG
theorem Yaq.T {aA aB aH : Int} {aF : ByteArray} {aD : Int} {aX aY : List (List D)} {a1 : Int} (h0 : 0 ≤ a1) (h1 : a1 ≤ 1048576) (ga0_3 : aF.size ≤ maxLen) (ga0_5 : Zi RS maxLen aX) (ga0_6 : Zi YP maxLen aY) : Tm (ZF 1) (fun k => Yaq.t k aA aB aH aF aD aX aY a1) (fun r => r < 0 ∨ 0 ≤ r ∧ r ≤ a1 ∧ aF.size ≤ lim ∧ Zi RS lim aX ∧ Zi YP lim aY ∧ ((Zp aX + Zp aY : Nat) : Int) ≤ 64 * (a1 - r) ∧ True) := by
  unfold Yaq.t Yaq.g
  have hm := Zy
  have hlim : lim = 1048576 := rfl
  refine YN.tm (fun i hi => hi) (YN.T (by first | assumption | omega) (by first | assumption | omega) (by first | assumption | omega) (by first | assumption | omega) (by first | assumption | omega)) (fun y2 hy1 => ?_)
  rcases hy1 with hy1 | ⟨p7, p8, q3, q4, q5, q6, _⟩
  · exact Tm.ite (fun _ => Tm.ret (by left; omega)) (fun h => by simp at h; omega)
  refine Tm.ite (fun h9 => ?_) (fun h9 => ?_)
  · try simp only [bz0, bz1, bz2, bz3, bz4, bz5, bz6, bz7, bz8, bz9, bza] at h9
    exact Tm.ret (by first | (left; omega) | (right; refine ⟨?_, ?_, ?_, ?_, ?_, ?_, trivial⟩ <;> first | assumption | omega))
  · try simp only [bz0, bz1, bz2, bz3, bz4, bz5, bz6, bz7, bz8, bz9, bza] at h9
    exact Tm.ret (by first | (left; omega) | (right; refine ⟨?_, ?_, ?_, ?_, ?_, ?_, trivial⟩ <;> first | assumption | omega))
theorem YQ.tm {ι α : Type} {ok : ι → Prop} {ψ : α → Prop} {p : ι → Nat} {B : Nat} (hp : ∀ i, ok i → B ≤ p i) {a0 a1 φ} (h : Tm (fun k => B ≤ k) (fun k => YQ.t k a0 a1) φ) {G : ι → Int → Option α} (hG : ∀ z0, φ z0 → Tm ok (fun i => G i z0) ψ) : Tm ok (fun i => YQ.f (p i) a0 a1 (G i)) ψ := ZK (t := fun k => YQ.t k a0 a1) hp h hG
def Yc (B : Nat) (r : List D) : Prop := ∃ (c0 : Int) (c1 : Int) (c2 : Int) (c3 : ByteArray) (c4 : Int) (c5 : List (List D)) (c6 : List (List D)), r = [.int .i64 c0, .int .i64 c1, .int .i64 c2, .str c3, .int .i64 c4, .sl c5, .sl c6] ∧ (Lit.int .i64 c0).wf = true ∧ (Lit.int .i64 c1).wf = true ∧ (Lit.int .i64 c2).wf = true ∧ c3.size ≤ B ∧ (Lit.int .i64 c4).wf = true ∧ Zi RS B c5 ∧ Zi YP B c6 ∧ True
theorem Yc.open {B : Nat} {r : List D} (h : Yc B r) : ∃ (c0 : Int) (c1 : Int) (c2 : Int) (c3 : ByteArray) (c4 : Int) (c5 : List (List D)) (c6 : List (List D)), r = [.int .i64 c0, .int .i64 c1, .int .i64 c2, .str c3, .int .i64 c4, .sl c5, .sl c6] ∧ (Lit.int .i64 c0).wf = true ∧ (Lit.int .i64 c1).wf = true ∧ (Lit.int .i64 c2).wf = true ∧ c3.size ≤ B ∧ (Lit.int .i64 c4).wf = true ∧ Zi RS B c5 ∧ Zi YP B c6 ∧ True := h
theorem Yc.mono {B B' : Nat} (hb : B ≤ B') {r : List D} (h : Yc B r) : Yc B' r := by
  obtain ⟨c0, c1, c2, c3, c4, c5, c6, rfl, k0, k1, k2, k3, k4, k5, k6, _⟩ := h
  exact ⟨_, _, _, _, _, _, _, rfl, k0, k1, k2, (Nat.le_trans k3 hb), k4, ⟨Nat.le_trans k5.1 hb, fun r hr => (k5.2 r hr).mono hb⟩, ⟨Nat.le_trans k6.1 hb, fun r hr => (k6.2 r hr).mono hb⟩, trivial⟩
theorem Yc.wide {xs : List (List D)} (h : Zi Yc lim xs) : Zi Yc 2097152 xs := ⟨Nat.le_trans h.1 (by decide), fun r hr => (h.2 r hr).mono (by decide)⟩
theorem Yc.len {B : Nat} {r : List D} (h : Yc B r) : r.length = 7 := by
  obtain ⟨c0, c1, c2, c3, c4, c5, c6, rfl, _⟩ := h.open
  rfl
theorem Yc.gets {B : Nat} {xs : List (List D)} (h : ∀ r ∈ xs, Yc B r) {v : Int} (h0 : 0 ≤ v) (h1 : v < xs.length) : gR xs v = [.int .i64 (gI xs v 0), .int .i64 (gI xs v 1), .int .i64 (gI xs v 2), .str (gS xs v 3), .int .i64 (gI xs v 4), .sl (gL xs v 5), .sl (gL xs v 6)] ∧ (Lit.int .i64 (gI xs v 0)).wf = true ∧ (Lit.int .i64 (gI xs v 1)).wf = true ∧ (Lit.int .i64 (gI xs v 2)).wf = true ∧ (gS xs v 3).size ≤ B ∧ (Lit.int .i64 (gI xs v 4)).wf = true ∧ Zi RS B (gL xs v 5) ∧ Zi YP B (gL xs v 6) ∧ True := by
  obtain ⟨c0, c1, c2, c3, c4, c5, c6, e, k0, k1, k2, k3, k4, k5, k6, _⟩ := (h (gR xs v) (gR_mem h0 h1)).open
  unfold gI gL gS
  rw [e]
  exact ⟨rfl, k0, k1, k2, k3, k4, k5, k6, trivial⟩
theorem Yc.rows {B : Nat} {xs : List (List D)} (h : ∀ r ∈ xs, Yc B r) {v : Int} (h0 : 0 ≤ v) (h1 : v < xs.length) {β : Type} (F : List D → Option β) : Zbw xs v F = F [.int .i64 (gI xs v 0), .int .i64 (gI xs v 1), .int .i64 (gI xs v 2), .str (gS xs v 3), .int .i64 (gI xs v 4), .sl (gL xs v 5), .sl (gL xs v 6)] := by
  rw [← (Yc.gets h h0 h1).1]
  exact Zbp h0 h1 F
theorem Yc.get {B : Nat} {xs : List (List D)} (h : Zi Yc B xs) {v : Int} (h0 : 0 ≤ v) (h1 : v < xs.length) : gR xs v = [.int .i64 (gI xs v 0), .int .i64 (gI xs v 1), .int .i64 (gI xs v 2), .str (gS xs v 3), .int .i64 (gI xs v 4), .sl (gL xs v 5), .sl (gL xs v 6)] ∧ (Lit.int .i64 (gI xs v 0)).wf = true ∧ (Lit.int .i64 (gI xs v 1)).wf = true ∧ (Lit.int .i64 (gI xs v 2)).wf = true ∧ (gS xs v 3).size ≤ B ∧ (Lit.int .i64 (gI xs v 4)).wf = true ∧ Zi RS B (gL xs v 5) ∧ Zi YP B (gL xs v 6) ∧ True := Yc.gets h.2 h0 h1
theorem Yc.row {B : Nat} {xs : List (List D)} (h : Zi Yc B xs) {v : Int} (h0 : 0 ≤ v) (h1 : v < xs.length) {β : Type} (F : List D → Option β) : Zbw xs v F = F [.int .i64 (gI xs v 0), .int .i64 (gI xs v 1), .int .i64 (gI xs v 2), .str (gS xs v 3), .int .i64 (gI xs v 4), .sl (gL xs v 5), .sl (gL xs v 6)] := Yc.rows h.2 h0 h1 F
set_option maxRecDepth 100000 in
theorem YQ.T {a0 : List (List D)} {a1 : Int} (h0 : 0 ≤ a1) (h1 : a1 ≤ 1048576) (ga0 : Zi Yc maxLen a0) : Tm (ZF 1) (fun k => YQ.t k a0 a1) (fun r => r < 0 ∨ 0 ≤ r ∧ r ≤ a1 ∧ Zi Yc lim a0 ∧ ((Zp a0 : Nat) : Int) ≤ 64 * (a1 - r) ∧ True) := by
  unfold YQ.t YQ.g
  have hm := Zy
  have hlim : lim = 1048576 := rfl
  have hlen := ga0.1
  try rw [Zj (x := a1 - (a0.length : Int)) (by omega) (by omega)]
  refine Tm.ite (fun h1 => ?_) (fun h1 => ?_)
  · try simp only [bz0, bz1, bz2, bz3, bz4, bz5, bz6, bz7, bz8, bz9, bza] at h1
    exact Tm.ret (by first | (left; omega) | (right; refine ⟨?_, ?_, ?_, ?_, trivial⟩ <;> first | assumption | omega))
  · try simp only [bz0, bz1, bz2, bz3, bz4, bz5, bz6, bz7, bz8, bz9, bza] at h1
    refine Tm.loop (okk := (ZF 1)) (p := fun k => k) (fun i hi => up0 hi) (b := fun k => YQ.l0 k a0 (fun z0 => some z0)) (fun v => match v with | (u0, i) => (((a0.length : Int)) - i).toNat) (fun v => match v with | (u0, i) => 0 ≤ u0 ∧ u0 ≤ a1 ∧ 0 ≤ i ∧ i ≤ (a0.length : Int) ∧ (∀ r ∈ a0.take i.toNat, Yc lim r) ∧ ((Zp (a0.take i.toNat) : Nat) : Int) ≤ 64 * (a1 - a0.length - u0 + i)) ?_ ?_ ?_
    · rintro ⟨u0, i⟩ hI
      try simp only [] at hI ⊢
      have : big = 2 ^ 64 := rfl
      have := ga0.1
      omega
    · exact ⟨by omega, by omega, by omega, by simp, by simp, by simp [Zp]⟩
    · rintro ⟨u0, i⟩ hI L hL
      try simp only [] at hI
      obtain ⟨u0a, u0b, i0, i1, hr, hwt⟩ := hI
      simp only [YQ.l0, atR, rdQ, Q.ask]
      refine Tm.ite (fun h2 => ?_) (fun h2 => ?_)
      · try simp only [bz0, bz1, bz2, bz3, bz4, bz5, bz6, bz7, bz8, bz9, bza] at h2
        refine Tm.atRow (by first | assumption | omega) (by first | assumption | omega) (fun x3 hx4 hm5 => ?_)
        obtain ⟨c6, c7, c8, c9, c10, c11, c12, rfl, g13, g14, g15, g16, g17, g18, g19, _⟩ := (ga0.2 x3 hm5).open
        refine Tm.uncons ?_
        refine Tm.dInt ?_
        refine Tm.uncons ?_
        refine Tm.dInt ?_
        refine Tm.uncons ?_
        refine Tm.dInt ?_
        refine Tm.uncons ?_
        refine Tm.dStr ?_
        refine Tm.uncons ?_
        refine Tm.dInt ?_
        refine Tm.uncons ?_
        refine Tm.dSl ?_
        refine Tm.uncons ?_
        refine Tm.dSl ?_
        refine Tm.atEnd ?_
        refine Yaq.tm (fun i hi => hi.1) (Yaq.T (by first | assumption | omega) (by first | assumption | omega) (by first | assumption | omega) (by first | assumption | omega) (by first | assumption | omega)) (fun y21 hy20 => ?_)
        rcases hy20 with hy20 | ⟨p26, p27, q22, q23, q24, q25, _⟩
        · exact Tm.ite (fun _ => Tm.ret (by left; omega)) (fun h => by simp at h; omega)
        refine Tm.ite (fun h28 => ?_) (fun h28 => ?_)
        · try simp only [bz0, bz1, bz2, bz3, bz4, bz5, bz6, bz7, bz8, bz9, bza] at h28
          exact Tm.ret (by first | (left; omega) | (rw [List.take_of_length_le (by omega)] at hwt; exact .inr ⟨by omega, by omega, ⟨by simp only [lim]; omega, ZcD (by omega) hr⟩, by omega, trivial⟩))
        · try simp only [bz0, bz1, bz2, bz3, bz4, bz5, bz6, bz7, bz8, bz9, bza] at h28
          try rw [Zj (x := i + 1) (by omega) (by omega)]
          have hwx := wt_take i0 hx4
          simp only [ZbG, wtD] at hwx
          refine hL (y21, (i + 1)) ⟨by omega, by omega, by omega, by omega, take_rows i0 hx4 hr ⟨_, _, _, _, _, _, _, rfl, by first | assumption | omega, by first | assumption | omega, by first | assumption | omega, by first | assumption | omega, by first | assumption | omega, by first | assumption | omega, by first | assumption | omega, trivial⟩, by omega⟩ (by (try simp only []); omega)
      · try simp only [bz0, bz1, bz2, bz3, bz4, bz5, bz6, bz7, bz8, bz9, bza] at h2
        exact Tm.ret (by first | (left; omega) | (rw [List.take_of_length_le (by omega)] at hwt; exact .inr ⟨by omega, by omega, ⟨by simp only [lim]; omega, ZcD (by omega) hr⟩, by omega, trivial⟩))
theorem Yar.tm {ι α : Type} {ok : ι → Prop} {ψ : α → Prop} {p : ι → Nat} {B : Nat} (hp : ∀ i, ok i → B ≤ p i) {a0 a1 φ} (h : Tm (fun k => B ≤ k) (fun k => Yar.t k a0 a1) φ) {G : ι → Int → Option α} (hG : ∀ z0, φ z0 → Tm ok (fun i => G i z0) ψ) : Tm ok (fun i => Yar.f (p i) a0 a1 (G i)) ψ := ZK (t := fun k => Yar.t k a0 a1) hp h hG
def RII (B : Nat) (r : List D) : Prop := ∃ (c0 : Int) (c1 : Int), r = [.int .i64 c0, .int .i64 c1] ∧ (Lit.int .i64 c0).wf = true ∧ (Lit.int .i64 c1).wf = true ∧ True
theorem RII.open {B : Nat} {r : List D} (h : RII B r) : ∃ (c0 : Int) (c1 : Int), r = [.int .i64 c0, .int .i64 c1] ∧ (Lit.int .i64 c0).wf = true ∧ (Lit.int .i64 c1).wf = true ∧ True := h
theorem RII.mono {B B' : Nat} (hb : B ≤ B') {r : List D} (h : RII B r) : RII B' r := by
  obtain ⟨c0, c1, rfl, k0, k1, _⟩ := h
  exact ⟨_, _, rfl, k0, k1, trivial⟩
theorem RII.wide {xs : List (List D)} (h : Zi RII lim xs) : Zi RII 2097152 xs := ⟨Nat.le_trans h.1 (by decide), fun r hr => (h.2 r hr).mono (by decide)⟩
theorem RII.len {B : Nat} {r : List D} (h : RII B r) : r.length = 2 := by
  obtain ⟨c0, c1, rfl, _⟩ := h.open
  rfl
theorem RII.flat {B : Nat} {xs : List (List D)} (h : ∀ r ∈ xs, RII B r) : ZaZ 2 xs := fun r hr => by
  obtain ⟨c0, c1, rfl, _⟩ := (h r hr).open
  exact ⟨rfl, by simp [Zau]⟩
theorem RII.wt {B : Nat} {xs : List (List D)} (h : ∀ r ∈ xs, RII B r) : Zp xs = 2 * xs.length := wt_flat (R := RII B) (fun r h => by obtain ⟨c0, c1, rfl, _⟩ := h; rfl) xs h
theorem RII.deep {B : Nat} {xs : List (List D)} (h : ∀ r ∈ xs, RII B r) : Zb xs = xs.map (·.map C.d) := deep_flat (R := RII B) (fun r h => by obtain ⟨c0, c1, rfl, _⟩ := h; rfl) xs h
theorem RII.gets {B : Nat} {xs : List (List D)} (h : ∀ r ∈ xs, RII B r) {v : Int} (h0 : 0 ≤ v) (h1 : v < xs.length) : gR xs v = [.int .i64 (gI xs v 0), .int .i64 (gI xs v 1)] ∧ (Lit.int .i64 (gI xs v 0)).wf = true ∧ (Lit.int .i64 (gI xs v 1)).wf = true ∧ True := by
  obtain ⟨c0, c1, e, k0, k1, _⟩ := (h (gR xs v) (gR_mem h0 h1)).open
  unfold gI
  rw [e]
  exact ⟨rfl, k0, k1, trivial⟩
theorem RII.rows {B : Nat} {xs : List (List D)} (h : ∀ r ∈ xs, RII B r) {v : Int} (h0 : 0 ≤ v) (h1 : v < xs.length) {β : Type} (F : List D → Option β) : Zbw xs v F = F [.int .i64 (gI xs v 0), .int .i64 (gI xs v 1)] := by
  rw [← (RII.gets h h0 h1).1]
  exact Zbp h0 h1 F
theorem RII.get {B : Nat} {xs : List (List D)} (h : Zi RII B xs) {v : Int} (h0 : 0 ≤ v) (h1 : v < xs.length) : gR xs v = [.int .i64 (gI xs v 0), .int .i64 (gI xs v 1)] ∧ (Lit.int .i64 (gI xs v 0)).wf = true ∧ (Lit.int .i64 (gI xs v 1)).wf = true ∧ True := RII.gets h.2 h0 h1
theorem RII.row {B : Nat} {xs : List (List D)} (h : Zi RII B xs) {v : Int} (h0 : 0 ≤ v) (h1 : v < xs.length) {β : Type} (F : List D → Option β) : Zbw xs v F = F [.int .i64 (gI xs v 0), .int .i64 (gI xs v 1)] := RII.rows h.2 h0 h1 F
theorem Yar.T {a0 : List (List D)} {a1 : Int} (h0 : 0 ≤ a1) (h1 : a1 ≤ 1048576) (ga0 : Zi RII maxLen a0) : Tm Z3 (fun k => Yar.t k a0 a1) (fun r => r < 0 ∨ 0 ≤ r ∧ r ≤ a1 ∧ Zi RII lim a0 ∧ ((Zp a0 : Nat) : Int) ≤ 64 * (a1 - r) ∧ True) := by
  unfold Yar.t Yar.g
  have hm := Zy
  have hlim : lim = 1048576 := rfl
  have hlen := ga0.1
  try rw [Zj (x := a1 - (a0.length : Int)) (by omega) (by omega)]
  refine Tm.ite (fun h1 => ?_) (fun h1 => ?_)
  · try simp only [bz0, bz1, bz2, bz3, bz4, bz5, bz6, bz7, bz8, bz9, bza] at h1
    exact Tm.ret (by first | (left; omega) | exact .inr ⟨by omega, by omega, ⟨by simp only [lim]; omega, fun r hr => ga0.2 r hr⟩, by rw [RII.wt ga0.2]; omega, trivial⟩)
  · try simp only [bz0, bz1, bz2, bz3, bz4, bz5, bz6, bz7, bz8, bz9, bza] at h1
    exact Tm.ret (by first | (left; omega) | exact .inr ⟨by omega, by omega, ⟨by simp only [lim]; omega, fun r hr => ga0.2 r hr⟩, by rw [RII.wt ga0.2]; omega, trivial⟩)
def ofP (l : List (Int × Int)) : List (List D) := l.map fun p => [.int .i64 p.1, .int .i64 p.2]
def upP (l : List (Int × Int)) : List (List C) := l.map fun p => [.d (.int .i64 p.1), .d (.int .i64 p.2)]
theorem ofP_up (l : List (Int × Int)) : (ofP l).map (·.map C.d) = upP l := by simp [ofP, upP]
theorem Yay (l : List (Int × Int)) : (ofP l).length = l.length := by simp [ofP]
theorem YaB (l : List (Int × Int)) : (upP l).length = l.length := by simp [upP]
theorem upP_app (a b : List (Int × Int)) : upP a ++ upP b = upP (a ++ b) := by simp [upP]
theorem imm_upP : ∀ l : List (Int × Int), C.immRows (upP l) = ofP l
  | [] => rfl
  | p :: l => by simp only [upP, ofP, List.map_cons, C.immRows, C.immCells, C.imm]; exact congrArg _ (imm_upP l)
theorem deep_ofP : ∀ l : List (Int × Int), Zb (ofP l) = upP l
  | [] => rfl
  | p :: l => by simp only [upP, ofP, List.map_cons, Zb, ZZ, ZbW]; exact congrArg _ (deep_ofP l)
theorem ofP_of : ∀ {a : List (List D)}, (∀ r ∈ a, RII lim r) → ∃ l, a = ofP l
  | [], _ => ⟨[], rfl⟩
  | r :: a, h => by
    obtain ⟨l, rfl⟩ := ofP_of (a := a) fun x hx => h x (by simp [hx])
    obtain ⟨u, n, rfl, _⟩ := (h r (by simp)).open
    exact ⟨(u, n) :: l, rfl⟩
theorem ofP_ok {B : Nat} {l : List (Int × Int)} (h : l.length ≤ B) (hw : ∀ p ∈ l, (Lit.int .i64 p.1).wf = true ∧ (Lit.int .i64 p.2).wf = true) : Zi RII B (ofP l) := ⟨by rw [Yay]; exact h, fun r hr => by
  simp only [ofP, List.mem_map] at hr
  obtain ⟨p, hp, rfl⟩ := hr
  exact ⟨p.1, p.2, rfl, (hw p hp).1, (hw p hp).2, trivial⟩⟩
theorem ofP_wf {l : List (Int × Int)} (h : Zi RII lim (ofP l)) : ∀ p ∈ l, (Lit.int .i64 p.1).wf = true ∧ (Lit.int .i64 p.2).wf = true := fun p hp => by
  obtain ⟨u, n, e, h1, h2, _⟩ := (h.2 [.int .i64 p.1, .int .i64 p.2] (by simp only [ofP, List.mem_map]; exact ⟨p, hp, rfl⟩)).open
  injection e with e1 e2
  injection e2 with e2
  injection e1 with _ e1
  injection e2 with _ e2
  subst e1 e2
  exact ⟨h1, h2⟩
theorem gR_ofP {l : List (Int × Int)} {i : Nat} (h : i < l.length) : gR (ofP l) (i : Int) = [.int .i64 l[i].1, .int .i64 l[i].2] := by
  have := gR_at (xs := ofP l) (v := (i : Int)) (by omega) (by rw [Yay]; omega)
  rw [Int.toNat_natCast, List.getElem?_eq_getElem (by rw [Yay]; exact h)] at this
  injection this with this
  rw [← this]
  simp [ofP]
theorem gI_ofP0 {l : List (Int × Int)} {i : Nat} (h : i < l.length) : gI (ofP l) (i : Int) 0 = l[i].1 := by
  unfold gI
  rw [gR_ofP h]
  rfl
theorem gI_ofP1 {l : List (Int × Int)} {i : Nat} (h : i < l.length) : gI (ofP l) (i : Int) 1 = l[i].2 := by
  unfold gI
  rw [gR_ofP h]
  rfl
theorem YaA {l : List (Int × Int)} {i : Nat} (h : i < l.length) {β : Type} (F : List D → Option β) : Zbw (ofP l) (i : Int) F = F [.int .i64 l[i].1, .int .i64 l[i].2] := by
  rw [← gR_ofP h]
  exact Zbp (by omega) (by rw [Yay]; omega) F
theorem atRow_ofPI {l : List (Int × Int)} {v : Int} {i : Nat} (hv : v = (i : Int)) (h : i < l.length) {β : Type} (F : List D → Option β) : Zbw (ofP l) v F = F [.int .i64 l[i].1, .int .i64 l[i].2] := by
  subst hv
  exact YaA h F
def Yaz (uid n : Int) : Bool → List (Int × Int) → List (Int × Int)
  | put, [] => if put then [] else [(uid, n)]
  | put, x :: l => (if put = false ∧ uid ≤ x.1 then [(uid, n)] else []) ++ ((if x.1 = uid then [] else [x]) ++ Yaz uid n (put || decide (uid ≤ x.1)) l)
theorem putR_true {uid n : Int} : ∀ {l : List (Int × Int)}, (∀ p ∈ l, p.1 ≠ uid) → Yaz uid n true l = l
  | [], _ => rfl
  | x :: l, h => by
    have hx := h x (by simp)
    simp only [Yaz, Bool.true_or]
    rw [putR_true fun p hp => h p (by simp [hp])]
    simp [hx]
def Asc (l : List (Int × Int)) : Prop := l.Pairwise fun p q => p.1 < q.1
theorem putR_drop {uid n : Int} {A B : List (Int × Int)} {m : Int} (h : Asc (A ++ (uid, m) :: B)) : Yaz uid n true (A ++ (uid, m) :: B) = A ++ B := by
  have h' := List.pairwise_append.mp h
  have hB : ∀ p ∈ B, p.1 ≠ uid := fun p hp e => by
    have := (List.pairwise_cons.mp h'.2.1).1 p hp
    simp only [] at this
    omega
  induction A with
  | nil => simp only [List.nil_append, Yaz, Bool.true_or]; rw [putR_true hB]; simp
  | cons x A ih =>
    have hx : x.1 ≠ uid := fun e => by
      have := h'.2.2 x (by simp) (uid, m) (by simp)
      simp only [] at this
      omega
    simp only [List.cons_append, Yaz, Bool.true_or]
    rw [ih (List.pairwise_cons.mp h).2 (List.pairwise_append.mp (List.pairwise_cons.mp h).2)]
    simp [hx]
theorem putR_set {uid n : Int} {A B : List (Int × Int)} {m : Int} (h : Asc (A ++ (uid, m) :: B)) : Yaz uid n false (A ++ (uid, m) :: B) = A ++ (uid, n) :: B := by
  have h' := List.pairwise_append.mp h
  have hB : ∀ p ∈ B, p.1 ≠ uid := fun p hp e => by
    have := (List.pairwise_cons.mp h'.2.1).1 p hp
    simp only [] at this
    omega
  induction A with
  | nil => simp only [List.nil_append, Yaz, Bool.false_or, Int.le_refl, decide_true]; rw [putR_true hB]; simp
  | cons x A ih =>
    have hx : x.1 < uid := by
      have := h'.2.2 x (by simp) (uid, m) (by simp)
      simpa using this
    simp only [List.cons_append, Yaz, Bool.false_or]
    rw [decide_eq_false (show ¬ uid ≤ x.1 by omega), ih (List.pairwise_cons.mp h).2 (List.pairwise_append.mp (List.pairwise_cons.mp h).2)]
    simp [show ¬ uid ≤ x.1 by omega, show ¬ x.1 = uid by omega]
theorem putR_new {uid n : Int} {A B : List (Int × Int)} (hA : ∀ p ∈ A, p.1 < uid) (hB : ∀ p ∈ B, uid < p.1) : Yaz uid n false (A ++ B) = A ++ (uid, n) :: B := by
  induction A with
  | nil =>
    cases B with
    | nil => rfl
    | cons x B =>
      have hx := hB x (by simp)
      simp only [List.nil_append, Yaz, Bool.false_or]
      rw [decide_eq_true (show uid ≤ x.1 by omega), putR_true fun p hp e => by have := hB p (by simp [hp]); omega]
      simp [show uid ≤ x.1 by omega, show ¬ x.1 = uid by omega]
  | cons x A ih =>
    have hx := hA x (by simp)
    simp only [List.cons_append, Yaz, Bool.false_or]
    rw [decide_eq_false (show ¬ uid ≤ x.1 by omega), ih fun p hp => hA p (by simp [hp])]
    simp [show ¬ uid ≤ x.1 by omega, show ¬ x.1 = uid by omega]
theorem putR_lenT {uid n : Int} : ∀ (l : List (Int × Int)), (Yaz uid n true l).length ≤ l.length
  | [] => by simp [Yaz]
  | x :: l => by
    have := putR_lenT (uid := uid) (n := n) l
    by_cases h2 : x.1 = uid
    · simp [Yaz, h2]; omega
    · simp [Yaz, h2]; omega
theorem putR_len {uid n : Int} : ∀ (b : Bool) (l : List (Int × Int)), (Yaz uid n b l).length ≤ l.length + 1
  | true, l => Nat.le_succ_of_le (putR_lenT l)
  | false, [] => by simp [Yaz]
  | false, x :: l => by
    have h1 := putR_lenT (uid := uid) (n := n) l
    have h3 := putR_len (uid := uid) (n := n) false l
    by_cases h : uid ≤ x.1
    · by_cases h2 : x.1 = uid
      · simp [Yaz, h, h2]; omega
      · simp [Yaz, h, h2]; omega
    · have h2 : ¬ x.1 = uid := by omega
      simp [Yaz, h, h2]; omega
theorem putR_mem {uid n : Int} {p : Int × Int} : ∀ {b : Bool} {l : List (Int × Int)}, p ∈ Yaz uid n b l → p = (uid, n) ∨ p ∈ l
  | b, [], h => by cases b <;> simp [Yaz] at h; exact .inl h
  | b, x :: l, h => by
    simp only [Yaz, List.mem_append] at h
    rcases h with h | h | h
    · split at h
      · simp at h; exact .inl h
      · simp at h
    · split at h
      · simp at h
      · simp at h; exact .inr (by simp [h])
    · rcases putR_mem h with q | q
      · exact .inl q
      · exact .inr (by simp [q])
theorem Yas.tm {ι α : Type} {ok : ι → Prop} {ψ : α → Prop} {p : ι → Nat} {B : Nat} (hp : ∀ i, ok i → B ≤ p i) {aA aB aH aF aD a1 φ} (h : Tm (fun k => B ≤ k) (fun k => Yas.t k aA aB aH aF aD a1) φ) {G : ι → Int → Option α} (hG : ∀ z0, φ z0 → Tm ok (fun i => G i z0) ψ) : Tm ok (fun i => Yas.f (p i) aA aB aH aF aD a1 (G i)) ψ := ZK (t := fun k => Yas.t k aA aB aH aF aD a1) hp h hG
theorem Yas.T {aA : ByteArray} {aB aH : Int} {aF aD : List (List D)} {a1 : Int} (h0 : 0 ≤ a1) (h1 : a1 ≤ 1048576) (ga0_0 : aA.size ≤ maxLen) (ga0_3 : Zi Yc maxLen aF) (ga0_4 : Zi RII maxLen aD) : Tm (ZF 1) (fun k => Yas.t k aA aB aH aF aD a1) (fun r => r < 0 ∨ 0 ≤ r ∧ r ≤ a1 ∧ aA.size ≤ lim ∧ Zi Yc lim aF ∧ Zi RII lim aD ∧ ((Zp aF + Zp aD : Nat) : Int) ≤ 64 * (a1 - r) ∧ True) := by
  unfold Yas.t Yas.g
  have hm := Zy
  have hlim : lim = 1048576 := rfl
  try rw [Zj (x := a1 - (aA.size : Int)) (by omega) (by omega)]
  refine Tm.ite (fun h1 => ?_) (fun h1 => ?_)
  · try simp only [bz0, bz1, bz2, bz3, bz4, bz5, bz6, bz7, bz8, bz9, bza] at h1
    exact Tm.ret (by first | (left; omega) | (right; refine ⟨?_, ?_, ?_, ?_, ?_, ?_, trivial⟩ <;> first | assumption | omega))
  · try simp only [bz0, bz1, bz2, bz3, bz4, bz5, bz6, bz7, bz8, bz9, bza] at h1
    refine YQ.tm (fun i hi => hi) (YQ.T (by first | assumption | omega) (by first | assumption | omega) (by first | assumption | omega)) (fun y3 hy2 => ?_)
    rcases hy2 with hy2 | ⟨p6, p7, q4, q5, _⟩
    · exact Tm.ite (fun _ => Tm.ret (by left; omega)) (fun h => by simp at h; omega)
    refine Tm.ite (fun h8 => ?_) (fun h8 => ?_)
    · try simp only [bz0, bz1, bz2, bz3, bz4, bz5, bz6, bz7, bz8, bz9, bza] at h8
      exact Tm.ret (by first | (left; omega) | (right; refine ⟨?_, ?_, ?_, ?_, ?_, ?_, trivial⟩ <;> first | assumption | omega))
    · try simp only [bz0, bz1, bz2, bz3, bz4, bz5, bz6, bz7, bz8, bz9, bza] at h8
      refine Yar.tm (fun i hi => up0 hi) (Yar.T (by first | assumption | omega) (by first | assumption | omega) (by first | assumption | omega)) (fun y10 hy9 => ?_)
      rcases hy9 with hy9 | ⟨p13, p14, q11, q12, _⟩
      · exact Tm.ite (fun _ => Tm.ret (by left; omega)) (fun h => by simp at h; omega)
      refine Tm.ite (fun h15 => ?_) (fun h15 => ?_)
      · try simp only [bz0, bz1, bz2, bz3, bz4, bz5, bz6, bz7, bz8, bz9, bza] at h15
        exact Tm.ret (by first | (left; omega) | (right; refine ⟨?_, ?_, ?_, ?_, ?_, ?_, trivial⟩ <;> first | assumption | omega))
      · try simp only [bz0, bz1, bz2, bz3, bz4, bz5, bz6, bz7, bz8, bz9, bza] at h15
        exact Tm.ret (by first | (left; omega) | (right; refine ⟨?_, ?_, ?_, ?_, ?_, ?_, trivial⟩ <;> first | assumption | omega))
theorem YB.tm {ι α : Type} {ok : ι → Prop} {ψ : α → Prop} {p : ι → Nat} {B : Nat} (hp : ∀ i, ok i → B ≤ p i) {a0 φ} (h : Tm (fun k => B ≤ k) (fun k => YB.t k a0) φ) {G : ι → (List (List C)) → Option α} (hG : ∀ z0, φ z0 → Tm ok (fun i => G i z0) ψ) : Tm ok (fun i => YB.f (p i) a0 (G i)) ψ := ZK (t := fun k => YB.t k a0) hp h hG
set_option maxRecDepth 100000 in
theorem YB.T {a0 : List (List D)} (ga0 : Zi RS lim a0) : Tm Z3 (fun k => YB.t k a0) (fun z => z = Zb a0 ∧ True) := by
  unfold YB.t YB.g
  have hm := Zy
  have hlim : lim = 1048576 := rfl
  have hlen := ga0.1
  refine Tm.guard (by first | omega | (simp only [lim, Zy, ZN] at *; omega) | (simp only [lim, ZN] at *; refine ⟨?_, ?_, ?_, ?_⟩ <;> omega)) ?_
  refine Tm.loop (okk := Z3) (p := fun k => k) (fun i hi => hi) (b := fun k => YB.l0 k a0 (fun z0 => some z0)) (fun v => match v with | (i, u1) => (((a0.length : Int)) - i).toNat) (fun v => match v with | (i, u1) => 0 ≤ i ∧ i ≤ (a0.length : Int) ∧ Zbq a0 ([.d (.str (⟨#[]⟩ : ByteArray))] : List C) i u1) ?_ ?_ ?_
  · rintro ⟨i, u1⟩ hI
    try simp only [] at hI ⊢
    have : big = 2 ^ 64 := rfl
    have := ga0.1
    simp only [lim] at this
    omega
  · exact ⟨by omega, by simp, Zbq.start _ _⟩
  · rintro ⟨i, u1⟩ hI L hL
    try simp only [] at hI
    obtain ⟨i0, i1, hF⟩ := hI
    have hFl := hF.len i1
    simp only [YB.l0, atR, rdQ, Q.ask]
    refine Tm.ite (fun h1 => ?_) (fun h1 => ?_)
    · try simp only [bz0, bz1, bz2, bz3, bz4, bz5, bz6, bz7, bz8, bz9, bza] at h1
      refine Tm.atRow (by first | assumption | omega) (by first | assumption | omega) (fun x2 hx3 hm4 => ?_)
      obtain ⟨c5, rfl, g6, _⟩ := (ga0.2 x2 hm4).open
      refine Tm.uncons ?_
      refine Tm.dStr ?_
      refine Tm.atEnd ?_
      refine Tm.guard (by first | omega | (simp only [lim, Zy, ZN] at *; omega) | (simp only [lim, ZN] at *; refine ⟨?_, ?_, ?_, ?_⟩ <;> omega)) ?_
      refine Tm.guard (by first | omega | (simp only [lim, Zy, ZN] at *; omega) | (simp only [lim, ZN] at *; refine ⟨?_, ?_, ?_, ?_⟩ <;> omega)) ?_
      try rw [Zj (x := i + 1) (by omega) (by omega)]
      refine hL (_, _) ⟨by omega, by omega, hF.next i0 hx3 rfl (by simp [ZZ, ZbW])⟩ (by (try simp only []); omega)
    · try simp only [bz0, bz1, bz2, bz3, bz4, bz5, bz6, bz7, bz8, bz9, bza] at h1
      exact Tm.ret (by exact ⟨hF.all (by omega), trivial⟩)
theorem Yp.tm {ι α : Type} {ok : ι → Prop} {ψ : α → Prop} {p : ι → Nat} {B : Nat} (hp : ∀ i, ok i → B ≤ p i) {a0 φ} (h : Tm (fun k => B ≤ k) (fun k => Yp.t k a0) φ) {G : ι → (List (List C)) → Option α} (hG : ∀ z0, φ z0 → Tm ok (fun i => G i z0) ψ) : Tm ok (fun i => Yp.f (p i) a0 (G i)) ψ := ZK (t := fun k => Yp.t k a0) hp h hG
theorem YM.tm {ι α : Type} {ok : ι → Prop} {ψ : α → Prop} {p : ι → Nat} {B : Nat} (hp : ∀ i, ok i → B ≤ p i) {aA aB aH aF aD φ} (h : Tm (fun k => B ≤ k) (fun k => YM.t k aA aB aH aF aD) φ) {G : ι → Int → ByteArray → Int → (List (List C)) → (List (List C)) → Option α} (hG : ∀ z0 z1 z2 z3 z4, φ (z0, z1, z2, z3, z4) → Tm ok (fun i => G i z0 z1 z2 z3 z4) ψ) : Tm ok (fun i => YM.f (p i) aA aB aH aF aD (G i)) ψ := bd5_tm (t := fun k => YM.t k aA aB aH aF aD) hp h hG
set_option maxRecDepth 100000 in
theorem toVal (n : Nat) : (∀ (a : List (List D)), a.length ≤ lim → (∀ x ∈ a, Y2 lim n x) → Tm (fun k => big + 2 * n + 1 ≤ k) (fun k => Yp.t k a) (fun z => z = Zb a)) ∧
    (∀ (c0 : Int) (c1 : ByteArray) (c2 : Int) (c3 c4 : List (List D)), c1.size ≤ lim → Zi RS lim c3 → c4.length ≤ lim → (∀ x ∈ c4, Y2 lim n x) → Tm (fun k => big + 2 * n + 2 ≤ k) (fun k => YM.t k c0 c1 c2 c3 c4) (fun z => z.1 = c0 ∧ z.2.1 = c1 ∧ z.2.2.1 = c2 ∧ z.2.2.2.1 = Zb c3 ∧ z.2.2.2.2 = Zb c4)) := by
  have hm : ZN = 2 ^ 36 := rfl
  have hlim : lim = 1048576 := rfl
  have hb : big = 2 ^ 64 := rfl
  induction n using Nat.strongRecOn with
  | ind n ih =>
  have S : ∀ (a : List (List D)), a.length ≤ lim → (∀ x ∈ a, Y2 lim n x) → Tm (fun k => big + 2 * n + 1 ≤ k) (fun k => Yp.t k a) (fun z => z = Zb a) := by
    intro a hlen g
    refine Tm.succ (g := fun k => Yp.g k a (fun z0 => some z0)) (fun k => Yp.t_succ k a) ?_
    unfold Yp.g Yp.body Yp.m
    refine Tm.guard ⟨by omega, by omega, by omega, by omega⟩ ?_
    refine Tm.loop (okk := fun k => big + 2 * n ≤ k) (p := fun k => k) (fun i hi => by omega) (b := fun k => Yp.l0 k (Yp.f k) (YM.f k) a (fun z0 => some z0)) (fun v => match v with | (i, u1) => (((a.length : Int)) - i).toNat) (fun v => match v with | (i, u1) => 0 ≤ i ∧ i ≤ (a.length : Int) ∧ Zbq a ([.d (.int .i64 0), .d (.str (⟨#[]⟩ : ByteArray)), .d (.int .i64 0), .own ([] : List (List C)), .own ([] : List (List C))] : List C) i u1) ?_ ?_ ?_
    · rintro ⟨i, u1⟩ hI
      simp only [] at hI ⊢
      omega
    · exact ⟨by omega, by simp, Zbq.start _ _⟩
    · rintro ⟨i, u1⟩ hI L hL
      simp only [] at hI
      obtain ⟨i0, i1, hF⟩ := hI
      have hFl := hF.len i1
      simp only [Yp.l0, atR, rdQ, Q.ask]
      refine Tm.ite (fun h4 => ?_) (fun h4 => ?_)
      · simp only [decide_eq_true_eq] at h4
        refine Tm.atRow (by omega) (by omega) (fun x5 hx6 hm7 => ?_)
        obtain ⟨n', hn', c0, c1, c2, c3, c4, rfl, w0, g1, w2, g3, l4, g4⟩ : ∃ n', n = n' + 1 ∧ ∃ c0 c1 c2 c3 c4, x5 = [.int .i64 c0, .str c1, .int .i64 c2, .sl c3, .sl c4] ∧ (Lit.int .i64 c0).wf = true ∧ c1.size ≤ lim ∧ (Lit.int .i64 c2).wf = true ∧ Zi RS lim c3 ∧ c4.length ≤ lim ∧ ∀ x ∈ c4, Y2 lim n' x := by
          have := g x5 hm7
          cases this with
          | mk c0 c1 c2 c3 c4 w0 g1 w2 g3 l4 g4 => exact ⟨_, rfl, _, _, _, _, _, rfl, w0, g1, w2, g3, l4, g4⟩
        refine Tm.uncons (Tm.dInt (Tm.uncons (Tm.dStr (Tm.uncons (Tm.dInt (Tm.uncons (Tm.dSl (Tm.uncons (Tm.dSl (Tm.atEnd ?_))))))))))
        refine YM.tm (B := big + 2 * n' + 2) (fun i hi => by have := hi.1; omega) ((ih n' (by omega)).2 c0 c1 c2 c3 c4 g1 g3 l4 g4) (fun y0 y1 y2 y3 y4 hy => ?_)
        simp only [] at hy
        obtain ⟨rfl, rfl, rfl, e3, e4⟩ := hy
        refine Tm.guard (by omega) (Tm.guard (by omega) ?_)
        rw [Zj (x := i + 1) (by omega) (by omega)]
        exact hL (_, _) ⟨by omega, by omega, hF.next i0 hx6 rfl (by simp [ZZ, ZbW, e3, e4])⟩ (by simp only []; omega)
      · simp only [decide_eq_false_iff_not, Int.not_lt] at h4
        exact Tm.ret (hF.all (by omega))
  refine ⟨S, ?_⟩
  intro c0 c1 c2 c3 c4 g1 g3 l4 g4
  refine Tm.succ (g := fun k => YM.g k c0 c1 c2 c3 c4 (fun z0 z1 z2 z3 z4 => some (z0, z1, z2, z3, z4))) (fun k => YM.t_succ k c0 c1 c2 c3 c4) ?_
  unfold YM.g YM.body
  refine YB.tm (B := big) (fun i hi => by omega) (YB.T g3) (fun y hy => ?_)
  refine Yp.tm (B := big + 2 * n + 1) (fun i hi => hi) (S c4 l4 g4) (fun y' hy' => ?_)
  exact Tm.ret ⟨rfl, rfl, rfl, hy.1, hy'⟩
theorem YM.T {aA : Int} {aB : ByteArray} {aH : Int} {aF aD : List (List D)} (g1 : aB.size ≤ lim) (g3 : Zi RS lim aF) (g4 : Zi YP lim aD) : Tm (ZF 1) (fun k => YM.t k aA aB aH aF aD) (fun z => z.1 = aA ∧ z.2.1 = aB ∧ z.2.2.1 = aH ∧ z.2.2.2.1 = Zb aF ∧ z.2.2.2.2 = Zb aD ∧ True) := by
  have hlim : lim = 1048576 := rfl
  have g' : ∀ x ∈ aD, Y2 lim 1099511627776 x := fun x hx => by
    obtain ⟨h, hh, hx⟩ := g4.2 x hx
    exact hx.mono (hh (by decide))
  exact (((toVal 1099511627776).2 aA aB aH aF aD g1 g3 g4.1 g').up (big_lv1 (n := 2 * 1099511627776 + 2) (by omega))).mono fun r hr => ⟨hr.1, hr.2.1, hr.2.2.1, hr.2.2.2.1, hr.2.2.2.2, trivial⟩
theorem Yai.f_of {β : Type} {k : Nat} {aA aB aH : Int} {aF : ByteArray} {aD : Int} {aX aY : List (List D)} {z0 z1 z2 : Int} {z3 : ByteArray} {z4 : Int} {z5 z6 : List (List C)} (h : Yai.t k aA aB aH aF aD aX aY = some (z0, z1, z2, z3, z4, z5, z6)) (K : Int → Int → Int → ByteArray → Int → (List (List C)) → (List (List C)) → Option β) : Yai.f k aA aB aH aF aD aX aY K = K z0 z1 z2 z3 z4 z5 z6 := by
  unfold Yai.f
  rw [h]
theorem Yai.tm {ι α : Type} {ok : ι → Prop} {ψ : α → Prop} {p : ι → Nat} {B : Nat} (hp : ∀ i, ok i → B ≤ p i) {aA aB aH : Int} {aF : ByteArray} {aD : Int} {aX aY : List (List D)} {φ : Int × Int × Int × ByteArray × Int × (List (List C)) × (List (List C)) → Prop} (h : Tm (fun k => B ≤ k) (fun k => Yai.t k aA aB aH aF aD aX aY) φ) {G : ι → Int → Int → Int → ByteArray → Int → (List (List C)) → (List (List C)) → Option α} (hG : ∀ z0 z1 z2 z3 z4 z5 z6, φ (z0, z1, z2, z3, z4, z5, z6) → Tm ok (fun ι0 => G ι0 z0 z1 z2 z3 z4 z5 z6) ψ) : Tm ok (fun ι0 => Yai.f (p ι0) aA aB aH aF aD aX aY (G ι0)) ψ := by
  obtain ⟨⟨z0, z1, z2, z3, z4, z5, z6⟩, h1, h2⟩ := h
  exact (hG z0 z1 z2 z3 z4 z5 z6 h1).congr fun i0 hi0 => Yai.f_of (h2 (p i0) (hp i0 hi0)) _
theorem Yai.T {aA aB aH : Int} {aF : ByteArray} {aD : Int} {aX aY : List (List D)} (ga0_3 : aF.size ≤ lim) (ga0_5 : Zi RS lim aX) (ga0_6 : Zi YP lim aY) : Tm (ZF 1) (fun k => Yai.t k aA aB aH aF aD aX aY) (fun z => z.1 = aA ∧ z.2.1 = aB ∧ z.2.2.1 = aH ∧ z.2.2.2.1 = aF ∧ z.2.2.2.2.1 = aD ∧ z.2.2.2.2.2.1 = Zb aX ∧ z.2.2.2.2.2.2 = Zb aY ∧ True) := by
  unfold Yai.t Yai.g
  have hm := Zy
  have hlim : lim = 1048576 := rfl
  refine YM.tm (fun i hi => hi) (YM.T (by first | assumption | omega) (by first | assumption | omega) (by first | assumption | omega)) (fun y2 y3 y4 y5 y6 hy1 => ?_)
  try simp only [] at hy1
  obtain ⟨rfl, rfl, rfl, rfl, rfl, _⟩ := hy1
  try simp only [ZO]
  exact Tm.ret (by exact ⟨by first | rfl | assumption, by first | rfl | assumption, by first | rfl | assumption, by first | rfl | assumption, by first | rfl | assumption, by first | rfl | assumption, by first | rfl | assumption, trivial⟩)
theorem YK.tm {ι α : Type} {ok : ι → Prop} {ψ : α → Prop} {p : ι → Nat} {B : Nat} (hp : ∀ i, ok i → B ≤ p i) {a0 φ} (h : Tm (fun k => B ≤ k) (fun k => YK.t k a0) φ) {G : ι → (List (List C)) → Option α} (hG : ∀ z0, φ z0 → Tm ok (fun i => G i z0) ψ) : Tm ok (fun i => YK.f (p i) a0 (G i)) ψ := ZK (t := fun k => YK.t k a0) hp h hG
set_option maxRecDepth 100000 in
theorem YK.T {a0 : List (List D)} (ga0 : Zi Yc lim a0) : Tm (ZF 1) (fun k => YK.t k a0) (fun z => z = Zb a0 ∧ True) := by
  unfold YK.t YK.g YK.m
  have hm := Zy
  have hlim : lim = 1048576 := rfl
  have hlen := ga0.1
  refine Tm.guard (by first | omega | (simp only [lim, Zy, ZN] at *; omega) | (simp only [lim, ZN] at *; refine ⟨?_, ?_, ?_, ?_⟩ <;> omega)) ?_
  refine Tm.loop (okk := (ZF 1)) (p := fun k => k) (fun i hi => up0 hi) (b := fun k => YK.l0 k a0 (fun z0 => some z0)) (fun v => match v with | (i, u1) => (((a0.length : Int)) - i).toNat) (fun v => match v with | (i, u1) => 0 ≤ i ∧ i ≤ (a0.length : Int) ∧ Zbq a0 ([.d (.int .i64 0), .d (.int .i64 0), .d (.int .i64 0), .d (.str (⟨#[]⟩ : ByteArray)), .d (.int .i64 0), .own ([] : List (List C)), .own ([] : List (List C))] : List C) i u1) ?_ ?_ ?_
  · rintro ⟨i, u1⟩ hI
    try simp only [] at hI ⊢
    have : big = 2 ^ 64 := rfl
    have := ga0.1
    simp only [lim] at this
    omega
  · exact ⟨by omega, by simp, Zbq.start _ _⟩
  · rintro ⟨i, u1⟩ hI L hL
    try simp only [] at hI
    obtain ⟨i0, i1, hF⟩ := hI
    have hFl := hF.len i1
    simp only [YK.l0, atR, rdQ, Q.ask]
    refine Tm.ite (fun h1 => ?_) (fun h1 => ?_)
    · try simp only [bz0, bz1, bz2, bz3, bz4, bz5, bz6, bz7, bz8, bz9, bza] at h1
      refine Tm.atRow (by first | assumption | omega) (by first | assumption | omega) (fun x2 hx3 hm4 => ?_)
      obtain ⟨c5, c6, c7, c8, c9, c10, c11, rfl, g12, g13, g14, g15, g16, g17, g18, _⟩ := (ga0.2 x2 hm4).open
      refine Tm.uncons ?_
      refine Tm.dInt ?_
      refine Tm.uncons ?_
      refine Tm.dInt ?_
      refine Tm.uncons ?_
      refine Tm.dInt ?_
      refine Tm.uncons ?_
      refine Tm.dStr ?_
      refine Tm.uncons ?_
      refine Tm.dInt ?_
      refine Tm.uncons ?_
      refine Tm.dSl ?_
      refine Tm.uncons ?_
      refine Tm.dSl ?_
      refine Tm.atEnd ?_
      refine Yai.tm (fun i hi => hi.1) (Yai.T (by first | assumption | omega) (by first | assumption | omega) (by first | assumption | omega)) (fun y20 y21 y22 y23 y24 y25 y26 hy19 => ?_)
      try simp only [] at hy19
      obtain ⟨rfl, rfl, rfl, rfl, rfl, rfl, rfl, _⟩ := hy19
      try simp only [ZO]
      refine Tm.guard (by first | omega | (simp only [lim, Zy, ZN] at *; omega) | (simp only [lim, ZN] at *; refine ⟨?_, ?_, ?_, ?_⟩ <;> omega)) ?_
      refine Tm.guard (by first | omega | (simp only [lim, Zy, ZN] at *; omega) | (simp only [lim, ZN] at *; refine ⟨?_, ?_, ?_, ?_⟩ <;> omega)) ?_
      try rw [Zj (x := i + 1) (by omega) (by omega)]
      refine hL (_, _) ⟨by omega, by omega, hF.next i0 hx3 rfl (by simp [ZZ, ZbW])⟩ (by (try simp only []); omega)
    · try simp only [bz0, bz1, bz2, bz3, bz4, bz5, bz6, bz7, bz8, bz9, bza] at h1
      exact Tm.ret (by exact ⟨hF.all (by omega), trivial⟩)
theorem Yav.tm {ι α : Type} {ok : ι → Prop} {ψ : α → Prop} {p : ι → Nat} {B : Nat} (hp : ∀ i, ok i → B ≤ p i) {aA aB φ} (h : Tm (fun k => B ≤ k) (fun k => Yav.t k aA aB) φ) {G : ι → Int → Int → Option α} (hG : ∀ z0 z1, φ (z0, z1) → Tm ok (fun i => G i z0 z1) ψ) : Tm ok (fun i => Yav.f (p i) aA aB (G i)) ψ := bd2_tm (t := fun k => Yav.t k aA aB) hp h hG
theorem Yav.T {aA aB : Int} : Tm Z3 (fun k => Yav.t k aA aB) (fun z => z.1 = aA ∧ z.2 = aB ∧ True) := by
  unfold Yav.t Yav.g
  have hm := Zy
  have hlim : lim = 1048576 := rfl
  exact Tm.ret (by exact ⟨by first | rfl | assumption, by first | rfl | assumption, trivial⟩)
theorem YX.tm {ι α : Type} {ok : ι → Prop} {ψ : α → Prop} {p : ι → Nat} {B : Nat} (hp : ∀ i, ok i → B ≤ p i) {a0 φ} (h : Tm (fun k => B ≤ k) (fun k => YX.t k a0) φ) {G : ι → (List (List C)) → Option α} (hG : ∀ z0, φ z0 → Tm ok (fun i => G i z0) ψ) : Tm ok (fun i => YX.f (p i) a0 (G i)) ψ := ZK (t := fun k => YX.t k a0) hp h hG
set_option maxRecDepth 100000 in
theorem YX.T {a0 : List (List D)} (ga0 : Zi RII lim a0) : Tm Z3 (fun k => YX.t k a0) (fun z => z = Zb a0 ∧ True) := by
  unfold YX.t YX.g
  have hm := Zy
  have hlim : lim = 1048576 := rfl
  have hlen := ga0.1
  refine Tm.guard (by first | omega | (simp only [lim, Zy, ZN] at *; omega) | (simp only [lim, ZN] at *; refine ⟨?_, ?_, ?_, ?_⟩ <;> omega)) ?_
  refine Tm.loop (okk := Z3) (p := fun k => k) (fun i hi => hi) (b := fun k => YX.l0 k a0 (fun z0 => some z0)) (fun v => match v with | (i, u1) => (((a0.length : Int)) - i).toNat) (fun v => match v with | (i, u1) => 0 ≤ i ∧ i ≤ (a0.length : Int) ∧ Zbq a0 ([.d (.int .i64 0), .d (.int .i64 0)] : List C) i u1) ?_ ?_ ?_
  · rintro ⟨i, u1⟩ hI
    try simp only [] at hI ⊢
    have : big = 2 ^ 64 := rfl
    have := ga0.1
    simp only [lim] at this
    omega
  · exact ⟨by omega, by simp, Zbq.start _ _⟩
  · rintro ⟨i, u1⟩ hI L hL
    try simp only [] at hI
    obtain ⟨i0, i1, hF⟩ := hI
    have hFl := hF.len i1
    simp only [YX.l0, atR, rdQ, Q.ask]
    refine Tm.ite (fun h1 => ?_) (fun h1 => ?_)
    · try simp only [bz0, bz1, bz2, bz3, bz4, bz5, bz6, bz7, bz8, bz9, bza] at h1
      refine Tm.atRow (by first | assumption | omega) (by first | assumption | omega) (fun x2 hx3 hm4 => ?_)
      obtain ⟨c5, c6, rfl, g7, g8, _⟩ := (ga0.2 x2 hm4).open
      refine Tm.uncons ?_
      refine Tm.dInt ?_
      refine Tm.uncons ?_
      refine Tm.dInt ?_
      refine Tm.atEnd ?_
      refine Yav.tm (fun i hi => hi.1) (Yav.T) (fun y10 y11 hy9 => ?_)
      try simp only [] at hy9
      obtain ⟨rfl, rfl, _⟩ := hy9
      try simp only [ZO]
      refine Tm.guard (by first | omega | (simp only [lim, Zy, ZN] at *; omega) | (simp only [lim, ZN] at *; refine ⟨?_, ?_, ?_, ?_⟩ <;> omega)) ?_
      refine Tm.guard (by first | omega | (simp only [lim, Zy, ZN] at *; omega) | (simp only [lim, ZN] at *; refine ⟨?_, ?_, ?_, ?_⟩ <;> omega)) ?_
      try rw [Zj (x := i + 1) (by omega) (by omega)]
      refine hL (_, _) ⟨by omega, by omega, hF.next i0 hx3 rfl (by simp [ZZ, ZbW])⟩ (by (try simp only []); omega)
    · try simp only [bz0, bz1, bz2, bz3, bz4, bz5, bz6, bz7, bz8, bz9, bza] at h1
      exact Tm.ret (by exact ⟨hF.all (by omega), trivial⟩)
theorem Yab.tm {ι α : Type} {ok : ι → Prop} {ψ : α → Prop} {p : ι → Nat} {B : Nat} (hp : ∀ i, ok i → B ≤ p i) {aA aB aH aF aD φ} (h : Tm (fun k => B ≤ k) (fun k => Yab.t k aA aB aH aF aD) φ) {G : ι → ByteArray → Int → Int → (List (List C)) → (List (List C)) → Option α} (hG : ∀ z0 z1 z2 z3 z4, φ (z0, z1, z2, z3, z4) → Tm ok (fun i => G i z0 z1 z2 z3 z4) ψ) : Tm ok (fun i => Yab.f (p i) aA aB aH aF aD (G i)) ψ := bd5_tm (t := fun k => Yab.t k aA aB aH aF aD) hp h hG
theorem Yab.T {aA : ByteArray} {aB aH : Int} {aF aD : List (List D)} (ga0_0 : aA.size ≤ lim) (ga0_3 : Zi Yc lim aF) (ga0_4 : Zi RII lim aD) : Tm (ZF 1) (fun k => Yab.t k aA aB aH aF aD) (fun z => z.1 = aA ∧ z.2.1 = aB ∧ z.2.2.1 = aH ∧ z.2.2.2.1 = Zb aF ∧ z.2.2.2.2 = Zb aD ∧ True) := by
  unfold Yab.t Yab.g
  have hm := Zy
  have hlim : lim = 1048576 := rfl
  refine YK.tm (fun i hi => hi) (YK.T (by first | assumption | omega)) (fun y2 hy1 => ?_)
  try simp only [] at hy1
  obtain ⟨rfl, _⟩ := hy1
  try simp only [ZO]
  refine YX.tm (fun i hi => up0 hi) (YX.T (by first | assumption | omega)) (fun y4 hy3 => ?_)
  try simp only [] at hy3
  obtain ⟨rfl, _⟩ := hy3
  try simp only [ZO]
  exact Tm.ret (by exact ⟨by first | rfl | assumption, by first | rfl | assumption, by first | rfl | assumption, by first | rfl | assumption, by first | rfl | assumption, trivial⟩)
theorem Yw.f_of {β : Type} {k aA aB aH aF aD z0 z1 z2 z3 z4} (h : Yw.t k aA aB aH aF aD = some (z0, z1, z2, z3, z4)) (K : Int → ByteArray → Int → (List (List C)) → (List (List C)) → Option β) : Yw.f k aA aB aH aF aD K = K z0 z1 z2 z3 z4 := by unfold Yw.f Yw.w; rw [h]; rfl
theorem YJ.f_of {β : Type} {k a0 z0} (h : YJ.t k a0 = some z0) (K : (List (List C)) → Option β) : YJ.f k a0 K = K z0 := by unfold YJ.f; rw [h]; rfl
theorem Yao.f_of {β : Type} {k aA aB aH aF aD z0 z1 z2 z3 z4} (h : Yao.t k aA aB aH aF aD = some (z0, z1, z2, z3, z4)) (K : ByteArray → Int → Int → (List (List C)) → (List (List C)) → Option β) : Yao.f k aA aB aH aF aD K = K z0 z1 z2 z3 z4 := by unfold Yao.f; rw [h]; rfl
theorem YI.f_of {β : Type} {k a0 a1 a2 z0} (h : YI.t k a0 a1 a2 = some z0) (K : Bool → Option β) : YI.f k a0 a1 a2 K = K z0 := by unfold YI.f; rw [h]; rfl
theorem YI.tm {ι α : Type} {ok : ι → Prop} {ψ : α → Prop} {p : ι → Nat} {B : Nat} (hp : ∀ i, ok i → B ≤ p i) {a0 a1 a2 φ} (h : Tm (fun k => B ≤ k) (fun k => YI.t k a0 a1 a2) φ) {G : ι → Bool → Option α} (hG : ∀ z0, φ z0 → Tm ok (fun i => G i z0) ψ) : Tm ok (fun i => YI.f (p i) a0 a1 a2 (G i)) ψ := ZK (t := fun k => YI.t k a0 a1 a2) hp h hG
theorem YI.T {a0 a1 a2 : Int} : Tm Z3 (fun k => YI.t k a0 a1 a2) (fun r => r = true → a1 ≤ a0 ∧ a0 ≤ a2) := by
  unfold YI.t YI.g
  have hm := Zy
  have hlim : lim = 1048576 := rfl
  refine Tm.ite (fun h1 => ?_) (fun h1 => ?_)
  · try simp only [bz0, bz1, bz2, bz3, bz4, bz5, bz6, bz7, bz8, bz9, bza] at h1
    exact Tm.ret (by first | (intro h; simp at h; omega) | (intro h; cases h))
  · try simp only [bz0, bz1, bz2, bz3, bz4, bz5, bz6, bz7, bz8, bz9, bza] at h1
    exact Tm.ret (by first | (intro h; simp at h; omega) | (intro h; cases h))
theorem l1In_f {β : Type} {k : Nat} {a b c : Int} (K : Bool → Option β) : YI.f k a b c K = K (decide (b ≤ a) && decide (a ≤ c)) := by
  refine YI.f_of ?_ K
  unfold YI.t YI.g
  by_cases h : b ≤ a <;> simp [h]
def inB (a b c : Int) : Bool := decide (b ≤ a) && decide (a ≤ c)
theorem l1In_fv {β : Type} {k : Nat} {a b c : Int} (K : Bool → Option β) : YI.f k a b c K = K (inB a b c) := l1In_f K
theorem Yo.f_of {β : Type} {k a0 z0} (h : Yo.t k a0 = some z0) (K : Bool → Option β) : Yo.f k a0 K = K z0 := by unfold Yo.f; rw [h]; rfl
theorem Yo.tm {ι α : Type} {ok : ι → Prop} {ψ : α → Prop} {p : ι → Nat} {B : Nat} (hp : ∀ i, ok i → B ≤ p i) {a0 φ} (h : Tm (fun k => B ≤ k) (fun k => Yo.t k a0) φ) {G : ι → Bool → Option α} (hG : ∀ z0, φ z0 → Tm ok (fun i => G i z0) ψ) : Tm ok (fun i => Yo.f (p i) a0 (G i)) ψ := ZK (t := fun k => Yo.t k a0) hp h hG
theorem Yo.T {a0 : ByteArray} (ga0 : a0.size ≤ lim) : Tm Z3 (fun k => Yo.t k a0) (fun _ => True) := by
  unfold Yo.t Yo.g
  have hm := Zy
  have hlim : lim = 1048576 := rfl
  refine Tm.loop (okk := Z3) (p := fun k => k) (fun i hi => hi) (b := fun k => Yo.l0 k a0 (fun z0 => some z0)) (fun i => (((a0.size : Int)) - i).toNat) (fun i => 0 ≤ i ∧ i ≤ (a0.size : Int)) ?_ ?_ ?_
  · rintro i hI
    try simp only [] at hI ⊢
    have : big = 2 ^ 64 := rfl
    omega
  · ((try simp only []); omega)
  · rintro i hI L hL
    try simp only [] at hI
    obtain ⟨i0, i1⟩ := hI
    simp only [Yo.l0]
    refine Tm.ite (fun h1 => ?_) (fun h1 => ?_)
    · try simp only [bz0, bz1, bz2, bz3, bz4, bz5, bz6, bz7, bz8, bz9, bza] at h1
      refine Tm.atStr (by first | assumption | omega) (by first | assumption | omega) (fun b2 hb3 => ?_)
      try rw [Zj (x := (b2.toNat : Int)) (by omega) (by omega)]
      refine YI.tm (fun i hi => hi.1) (YI.T) (fun y5 hy4 => ?_)
      refine Tm.ite (fun h6 => ?_) (fun h6 => ?_)
      · try simp only [bz0, bz1, bz2, bz3, bz4, bz5, bz6, bz7, bz8, bz9, bza] at h6
        refine Tm.atStr (by first | assumption | omega) (by first | assumption | omega) (fun b7 hb8 => ?_)
        try rw [Zj (x := (b7.toNat : Int)) (by omega) (by omega)]
        refine YI.tm (fun i hi => hi.1) (YI.T) (fun y10 hy9 => ?_)
        refine Tm.ite (fun h11 => ?_) (fun h11 => ?_)
        · try simp only [bz0, bz1, bz2, bz3, bz4, bz5, bz6, bz7, bz8, bz9, bza] at h11
          refine Tm.atStr (by first | assumption | omega) (by first | assumption | omega) (fun b12 hb13 => ?_)
          refine Tm.ite (fun h14 => ?_) (fun h14 => ?_)
          · try simp only [bz0, bz1, bz2, bz3, bz4, bz5, bz6, bz7, bz8, bz9, bza] at h14
            exact Tm.ret (by trivial)
          · try simp only [bz0, bz1, bz2, bz3, bz4, bz5, bz6, bz7, bz8, bz9, bza] at h14
            try rw [Zj (x := i + 1) (by omega) (by omega)]
            exact hL _ (by (try simp only []); omega) (by (try simp only []); omega)
        · try simp only [bz0, bz1, bz2, bz3, bz4, bz5, bz6, bz7, bz8, bz9, bza] at h11
          have z15 := hy9 h11
          try rw [Zj (x := i + 1) (by omega) (by omega)]
          exact hL _ (by (try simp only []); omega) (by (try simp only []); omega)
      · try simp only [bz0, bz1, bz2, bz3, bz4, bz5, bz6, bz7, bz8, bz9, bza] at h6
        have z16 := hy4 h6
        try rw [Zj (x := i + 1) (by omega) (by omega)]
        exact hL _ (by (try simp only []); omega) (by (try simp only []); omega)
    · try simp only [bz0, bz1, bz2, bz3, bz4, bz5, bz6, bz7, bz8, bz9, bza] at h1
      refine YI.tm (fun i hi => hi.1) (YI.T) (fun y18 hy17 => ?_)
      refine Tm.ite (fun h19 => ?_) (fun h19 => ?_)
      · try simp only [bz0, bz1, bz2, bz3, bz4, bz5, bz6, bz7, bz8, bz9, bza] at h19
        have z20 := hy17 h19
        refine Tm.atStr (by first | assumption | omega) (by first | assumption | omega) (fun b21 hb22 => ?_)
        refine Tm.ite (fun h23 => ?_) (fun h23 => ?_)
        · try simp only [bz0, bz1, bz2, bz3, bz4, bz5, bz6, bz7, bz8, bz9, bza] at h23
          try rw [Zj (x := (a0.size : Int) - 1) (by omega) (by omega)]
          refine Tm.atStr (by first | assumption | omega) (by first | assumption | omega) (fun b24 hb25 => ?_)
          exact Tm.ret (by trivial)
        · try simp only [bz0, bz1, bz2, bz3, bz4, bz5, bz6, bz7, bz8, bz9, bza] at h23
          exact Tm.ret (by trivial)
      · try simp only [bz0, bz1, bz2, bz3, bz4, bz5, bz6, bz7, bz8, bz9, bza] at h19
        exact Tm.ret (by trivial)
noncomputable def Yo.v (a0 : ByteArray) : Bool := (Yo.t big a0).getD default
theorem Yo.tv {a0 : ByteArray} (ga0 : a0.size ≤ lim) {k : Nat} (hk : Z3 k) : Yo.t k a0 = some (Yo.v a0) := (Yo.T ga0).val hk
theorem Yo.fv {a0 : ByteArray} (ga0 : a0.size ≤ lim) {k : Nat} (hk : Z3 k) {β : Type} (K : Bool → Option β) : Yo.f k a0 K = K (Yo.v a0) := Yo.f_of (Yo.tv ga0 hk) K
noncomputable def namesB (xs : List (List D)) : Bool := (List.range xs.length).all fun i => Yo.v (gS xs (i : Int) 0) && (!decide ((i : Int) > 0) || ZbO (gS xs ((i : Int) - 1) 0) (gS xs (i : Int) 0))
theorem Y3.f_of {β : Type} {k a0 z0} (h : Y3.t k a0 = some z0) (K : Bool → Option β) : Y3.f k a0 K = K z0 := by unfold Y3.f; rw [h]; rfl
def textB (s : ByteArray) : Bool := (List.range s.size).all fun i => inB (bS s (i : Int)) 32 126
theorem l4Text_fv {s : ByteArray} (g : s.size ≤ lim) {k : Nat} (hk : Z3 k) {β : Type} (K : Bool → Option β) : Y3.f k s K = K (textB s && decide ((s.size : Int) ≤ 100)) := Y3.f_of (by
  have hlim : lim = 1048576 := rfl
  have hb : big = 2 ^ 64 := rfl
  unfold Y3.t Y3.g textB
  rw [Zb6 (n := s.size) (fun i => inB (bS s (i : Int)) 32 126) (r1 := some false) (r2 := some (decide ((s.size : Int) ≤ 100))) (by unfold Z3 at hk; omega)]
  · generalize List.all _ _ = x
    cases x <;> rfl
  · intro L i hi
    simp (disch := omega) only [Y3.l0, ZQ (show (i : Int) < s.size by omega), cond_true, atStr_at, wrap_b, l1In_fv, Zj]
    generalize inB _ _ _ = x
    cases x <;> rfl
  · intro L
    simp [Y3.l0]) K
theorem Y0.f_of {β : Type} {k aA aB aH aF aD z0} (h : Y0.t k aA aB aH aF aD = some z0) (K : Bool → Option β) : Y0.f k aA aB aH aF aD K = K z0 := by unfold Y0.f; rw [h]; rfl
theorem Yu.f_of {β : Type} {k aA aB aH aF aD a1 z0} (h : Yu.t k aA aB aH aF aD a1 = some z0) (K : Int → Option β) : Yu.f k aA aB aH aF aD a1 K = K z0 := by unfold Yu.f Yu.w; rw [h]; rfl
theorem Yu.tm {ι α : Type} {ok : ι → Prop} {ψ : α → Prop} {p : ι → Nat} {B : Nat} (hp : ∀ i, ok i → B ≤ p i) {aA aB aH aF aD a1 φ} (h : Tm (fun k => B ≤ k) (fun k => Yu.t k aA aB aH aF aD a1) φ) {G : ι → Int → Option α} (hG : ∀ z0, φ z0 → Tm ok (fun i => G i z0) ψ) : Tm ok (fun i => Yu.f (p i) aA aB aH aF aD a1 (G i)) ψ := ZK (t := fun k => Yu.t k aA aB aH aF aD a1) hp h hG
set_option maxRecDepth 100000 in
theorem l4Keys_fv {c0 : Int} {c1 : ByteArray} {c2 : Int} {c3 c4 : List (List D)} (g : Zi RS lim c3) {k : Nat} (hk : Z3 k) {β : Type} (K : Bool → Option β) : Y0.f k c0 c1 c2 c3 c4 K = K (namesB c3 && (c3.length : Int) == (c4.length : Int)) := Y0.f_of (by
  have hl := g.1
  have hlim : lim = 1048576 := rfl
  have hb : big = 2 ^ 64 := rfl
  unfold Y0.t Y0.g
  rw [Zb6 (n := c3.length) (fun i => Yo.v (gS c3 (i : Int) 0) && (!decide ((i : Int) > 0) || ZbO (gS c3 ((i : Int) - 1) 0) (gS c3 (i : Int) 0))) (r1 := some false) (r2 := some ((c3.length : Int) == (c4.length : Int))) (by unfold Z3 at hk; omega)]
  · unfold namesB
    generalize List.all _ _ = x
    cases x <;> rfl
  · intro L i hi
    have k0 := (RS.get g (v := (i : Int)) (by omega) (by omega)).2.1
    simp (disch := omega) only [Y0.l0, atR, rdQ, Q.ask, ZQ (show (i : Int) < c3.length by omega), cond_true, RS.row g, ZY, Zaj, Z6, Yo.fv k0 hk, Zj]
    by_cases h0 : (i : Int) > 0
    · simp (disch := omega) only [ZQ h0, cond_true, RS.row g, ZY, Zaj, Z6]
      cases Yo.v (gS c3 (i : Int) 0) <;> cases ZbO (gS c3 ((i : Int) - 1) 0) (gS c3 (i : Int) 0) <;> rfl
    · simp only [ZV h0, cond_false]
      cases Yo.v (gS c3 (i : Int) 0) <;> rfl
  · intro L
    simp [Y0.l0, atR, rdQ, Q.ask]) K
def bareText : ByteArray := (⟨#[]⟩ : ByteArray)
noncomputable def YaC (kind : Int) (text : ByteArray) (num : Int) (keys kids : List (List D)) : Bool :=
  bif kind == 1 then (keys.length : Int) == 0 && ((kids.length : Int) == 0 && (num == 0 && (textB text && decide ((text.size : Int) ≤ 100))))
  else bif kind == 2 then (keys.length : Int) == 0 && ((kids.length : Int) == 0 && Zae text bareText)
  else bif kind == 3 then (keys.length : Int) == 0 && ((kids.length : Int) == 0 && (Zae text bareText && inB num 0 1))
  else bif kind == 4 then (keys.length : Int) == 0 && (Zae text bareText && num == 0)
  else bif kind == 5 then (namesB keys && (keys.length : Int) == (kids.length : Int)) && (Zae text bareText && num == 0)
  else false
def sumL (f : List D → Int) : List (List D) → Int → Int
  | [], n => n
  | r :: rs, n => if f r = 0 ∨ n + f r > 300 then 0 else sumL f rs (n + f r)
noncomputable def Yax : Nat → List D → Int
  | 0, _ => 0
  | d + 1, r => bif sumL (Yax d) (rL r 4) 1 == 0 then 0 else bif YaC (rI r 0) (rS r 1) (rI r 2) (rL r 3) (rL r 4) then sumL (Yax d) (rL r 4) 1 else 0
theorem sumL_range {f : List D → Int} (hf : ∀ r, 0 ≤ f r) : ∀ {rs : List (List D)} {n : Int}, 1 ≤ n → n ≤ 300 → 0 ≤ sumL f rs n ∧ sumL f rs n ≤ 300 ∧ (sumL f rs n ≠ 0 → n + rs.length ≤ 300)
  | [], n, h, h' => by simp only [sumL, List.length_nil]; omega
  | r :: rs, n, h, h' => by
    have := hf r
    simp only [sumL]
    split
    · omega
    · have := sumL_range hf (rs := rs) (n := n + f r) (by omega) (by omega)
      simp only [List.length_cons]
      omega
theorem YaF : ∀ (d : Nat) (r : List D), 0 ≤ Yax d r ∧ Yax d r ≤ 300
  | 0, r => by simp [Yax]
  | d + 1, r => by
    have := sumL_range (f := Yax d) (fun r => (YaF d r).1) (rs := rL r 4) (n := 1) (by omega) (by omega)
    simp only [Yax]
    generalize sumL (Yax d) (rL r 4) 1 = n at *
    cases n == 0 <;> cases YaC (rI r 0) (rS r 1) (rI r 2) (rL r 3) (rL r 4) <;> simp <;> omega
set_option maxRecDepth 100000 in
theorem look_t (d : Nat) : ∀ {c0 : Int} {c1 : ByteArray} {c2 : Int} {c3 c4 : List (List D)}, c1.size ≤ lim → Zi RS lim c3 → Zi YP lim c4 → d ≤ 6 → ∀ {k : Nat}, big + d + 1 ≤ k → Yu.t k c0 c1 c2 c3 c4 (d : Int) = some (Yax d [.int .i64 c0, .str c1, .int .i64 c2, .sl c3, .sl c4]) := by
  have hlim : lim = 1048576 := rfl
  have hb : big = 2 ^ 64 := rfl
  induction d with
  | zero =>
    intro c0 c1 c2 c3 c4 g1 g3 g4 hd k hk
    cases k with
    | zero => omega
    | succ k => rfl
  | succ d ih =>
    intro c0 c1 c2 c3 c4 g1 g3 g4 hd k hk
    cases k with
    | zero => omega
    | succ k =>
    have hl := g4.1
    have hk0 : Z3 k := by unfold Z3; omega
    rw [Yu.t_succ]
    unfold Yu.g Yu.body
    rw [show (((d + 1 : Nat) : Int) == 0) = false by rw [beq_eq_false_iff_ne]; omega, cond_false]
    have key := iter_val (b := Yu.l0 k (Yu.f k) ((d + 1 : Nat) : Int) c0 c1 c2 c3 c4 fun z0 => some z0) (fun v => ((c4.length : Int) - v.2).toNat) (fun v => 0 ≤ v.2 ∧ v.2 ≤ c4.length ∧ 1 ≤ v.1 ∧ v.1 ≤ 300)
      (fun v => bif sumL (Yax d) (c4.drop v.2.toNat) v.1 == 0 then some 0 else bif YaC c0 c1 c2 c3 c4 then some (sumL (Yax d) (c4.drop v.2.toNat) v.1) else some 0) ?_ k (1, 0) (by simp only []; omega) (by simp only []; omega)
    · rw [key]
      simp only [Yax]
      show (bif sumL (Yax d) (List.drop 0 c4) 1 == 0 then some 0 else bif YaC c0 c1 c2 c3 c4 then some (sumL (Yax d) (List.drop 0 c4) 1) else some 0) = some (bif sumL (Yax d) c4 1 == 0 then 0 else bif YaC c0 c1 c2 c3 c4 then sumL (Yax d) c4 1 else 0)
      rw [List.drop_zero]
      cases sumL (Yax d) c4 1 == 0 <;> cases YaC c0 c1 c2 c3 c4 <;> rfl
    · rintro ⟨n, i⟩ ⟨i0, i1, n0, n1⟩ L hL
      simp only [] at i0 i1 n0 n1 hL ⊢
      by_cases hi : i < c4.length
      · have hg := YP.get g4 i0 hi
        have hr := YaF d (gR c4 i)
        have ih' := ih (c0 := gI c4 i 0) (c2 := gI c4 i 2) hg.2.2.1 hg.2.2.2.2.1 hg.2.2.2.2.2.1 (by omega) (k := k) (by omega)
        rw [← hg.1] at ih'
        simp (disch := omega) only [Yu.l0, atR, rdQ, Q.ask, ZQ hi, cond_true, YP.row g4, ZY, Zaj, Zad, Za7, Z6, Zj, show ((d + 1 : Nat) : Int) - 1 = (d : Int) by omega]
        rw [Yu.f_of ih', drop_gR i0 hi]
        simp only [sumL]
        by_cases hz : Yax d (gR c4 i) = 0
        · rw [hz]
          simp
        · rw [show (Yax d (gR c4 i) == 0) = false by rw [beq_eq_false_iff_ne]; exact hz, cond_false, Zj (by omega) (by omega)]
          by_cases hn : n + Yax d (gR c4 i) > 300
          · rw [ZQ hn, if_pos (.inr hn)]
            rfl
          · rw [ZV hn, if_neg (by omega), cond_false, hL _ ⟨by simp only []; omega, by simp only []; omega, by simp only []; omega, by simp only []; omega⟩ (by simp only []; omega)]
      · rw [drop_end (by omega)]
        simp only [Yu.l0, atR, rdQ, Q.ask, ZV hi, cond_false, sumL, l4Keys_fv g3 hk0, l1In_fv, l4Text_fv g1 hk0]
        rw [show (n == 0) = false by rw [beq_eq_false_iff_ne]; omega, cond_false]
        unfold YaC
        generalize (textB c1 && decide ((c1.size : Int) ≤ 100)) = b1
        generalize hb2 : Zae c1 (⟨#[]⟩ : ByteArray) = b2
        have hb3 : Zae c1 bareText = b2 := hb2
        rw [hb3]
        generalize namesB c3 = b3
        generalize inB c2 0 1 = b4
        generalize (c2 == 0) = b5
        generalize ((c4.length : Int) == 0) = b6
        generalize ((c3.length : Int) == (c4.length : Int)) = b7
        generalize ((c3.length : Int) == 0) = b8
        rcases ZaA c0 with rfl | rfl | rfl | rfl | rfl | ⟨e1, e2, e3, e4, e5⟩
        · cases b1 <;> cases b5 <;> cases b6 <;> cases b8 <;> rfl
        · cases b2 <;> cases b6 <;> cases b8 <;> rfl
        · cases b2 <;> cases b4 <;> cases b6 <;> cases b8 <;> rfl
        · cases b2 <;> cases b5 <;> cases b8 <;> rfl
        · cases b2 <;> cases b3 <;> cases b5 <;> cases b7 <;> cases b8 <;> rfl
        · cases b8 <;> simp only [e1, e2, e3, e4, e5, cond_false, cond_true]
theorem look_fv {d c0 : Int} {c1 : ByteArray} {c2 : Int} {c3 c4 : List (List D)} (hd0 : 0 ≤ d) (hd : d ≤ 6) (g1 : c1.size ≤ lim) (g3 : Zi RS lim c3) (g4 : Zi YP lim c4) {k : Nat} (hk : ZF 1 k) {β : Type} (K : Int → Option β) : Yu.f k c0 c1 c2 c3 c4 d K = K (Yax d.toNat [.int .i64 c0, .str c1, .int .i64 c2, .sl c3, .sl c4]) := by
  have hb : big = 2 ^ 64 := rfl
  have h1 : lv 1 = 2 ^ 65 := rfl
  obtain ⟨n, rfl⟩ : ∃ n : Nat, d = n := ⟨d.toNat, by omega⟩
  exact Yu.f_of (look_t n g1 g3 g4 (by omega) (by unfold ZF at hk; omega)) K
theorem Yu.T {aA : Int} {aB : ByteArray} {aH : Int} {aF aD : List (List D)} {a1 : Int} (h0 : 0 ≤ a1) (h1 : a1 ≤ 6) (g1 : aB.size ≤ lim) (g3 : Zi RS lim aF) (g4 : Zi YP lim aD) : Tm (ZF 1) (fun k => Yu.t k aA aB aH aF aD a1) (fun _ => True) := by
  have hb : big = 2 ^ 64 := rfl
  have h2 : lv 1 = 2 ^ 65 := rfl
  obtain ⟨n, rfl⟩ : ∃ n : Nat, a1 = n := ⟨a1.toNat, by omega⟩
  exact Tm.of (fun k hk => look_t n g1 g3 g4 (by omega) (by omega)) trivial
theorem Yaa.f_of {β : Type} {k aA aB aH aF aD z0} (h : Yaa.t k aA aB aH aF aD = some z0) (K : Bool → Option β) : Yaa.f k aA aB aH aF aD K = K z0 := by unfold Yaa.f; rw [h]; rfl
theorem Yaa.tm {ι α : Type} {ok : ι → Prop} {ψ : α → Prop} {p : ι → Nat} {B : Nat} (hp : ∀ i, ok i → B ≤ p i) {aA aB aH aF aD φ} (h : Tm (fun k => B ≤ k) (fun k => Yaa.t k aA aB aH aF aD) φ) {G : ι → Bool → Option α} (hG : ∀ z0, φ z0 → Tm ok (fun i => G i z0) ψ) : Tm ok (fun i => Yaa.f (p i) aA aB aH aF aD (G i)) ψ := ZK (t := fun k => Yaa.t k aA aB aH aF aD) hp h hG
theorem Yaa.T {aA : Int} {aB : ByteArray} {aH : Int} {aF aD : List (List D)} (ga0_1 : aB.size ≤ lim) (ga0_3 : Zi RS lim aF) (ga0_4 : Zi YP lim aD) : Tm (ZF 1) (fun k => Yaa.t k aA aB aH aF aD) (fun _ => True) := by
  unfold Yaa.t Yaa.g
  have hm := Zy
  have hlim : lim = 1048576 := rfl
  have la0_3 := ga0_3.1
  have la0_4 := ga0_4.1
  refine Yu.tm (fun i hi => hi) (Yu.T (by first | assumption | omega) (by first | assumption | omega) (by first | assumption | omega) (by first | assumption | omega) (by first | assumption | omega)) (fun y2 hy1 => ?_)
  exact Tm.ret (by trivial)
theorem Yk.f_of {β : Type} {k a0 z0} (h : Yk.t k a0 = some z0) (K : Bool → Option β) : Yk.f k a0 K = K z0 := by unfold Yk.f; rw [h]; rfl
theorem Yk.tm {ι α : Type} {ok : ι → Prop} {ψ : α → Prop} {p : ι → Nat} {B : Nat} (hp : ∀ i, ok i → B ≤ p i) {a0 φ} (h : Tm (fun k => B ≤ k) (fun k => Yk.t k a0) φ) {G : ι → Bool → Option α} (hG : ∀ z0, φ z0 → Tm ok (fun i => G i z0) ψ) : Tm ok (fun i => Yk.f (p i) a0 (G i)) ψ := ZK (t := fun k => Yk.t k a0) hp h hG
set_option maxRecDepth 100000 in
theorem Yk.T {a0 : List (List D)} (ga0 : Zi Yc lim a0) : Tm (ZF 1) (fun k => Yk.t k a0) (fun _ => True) := by
  unfold Yk.t Yk.g
  have hm := Zy
  have hlim : lim = 1048576 := rfl
  have la0 := ga0.1
  refine Tm.loop (okk := (ZF 1)) (p := fun k => k) (fun i hi => up0 hi) (b := fun k => Yk.l0 k a0 (fun z0 => some z0)) (fun i => (((a0.length : Int)) - i).toNat) (fun i => 0 ≤ i ∧ i ≤ (a0.length : Int)) ?_ ?_ ?_
  · rintro i hI
    try simp only [] at hI ⊢
    have : big = 2 ^ 64 := rfl
    omega
  · ((try simp only []); omega)
  · rintro i hI L hL
    try simp only [] at hI
    obtain ⟨i0, i1⟩ := hI
    simp only [Yk.l0, atR, rdQ, Q.ask]
    refine Tm.ite (fun h1 => ?_) (fun h1 => ?_)
    · try simp only [bz0, bz1, bz2, bz3, bz4, bz5, bz6, bz7, bz8, bz9, bza] at h1
      refine Tm.atRow (by first | assumption | omega) (by first | assumption | omega) (fun x2 hx3 hm4 => ?_)
      obtain ⟨c5, c6, c7, c8, c9, c10, c11, rfl, g12, g13, g14, g15, g16, g17, g18, _⟩ := (ga0.2 x2 hm4).open
      refine Tm.uncons ?_
      refine Tm.dInt ?_
      refine Tm.uncons ?_
      refine Tm.dInt ?_
      refine Tm.uncons ?_
      refine Tm.dInt ?_
      refine Tm.uncons ?_
      refine Tm.dStr ?_
      refine Tm.uncons ?_
      refine Tm.dInt ?_
      refine Tm.uncons ?_
      refine Tm.dSl ?_
      refine Tm.uncons ?_
      refine Tm.dSl ?_
      refine Tm.atEnd ?_
      refine YI.tm (fun i hi => up0 hi.1) (YI.T) (fun y20 hy19 => ?_)
      refine Tm.ite (fun h21 => ?_) (fun h21 => ?_)
      · try simp only [bz0, bz1, bz2, bz3, bz4, bz5, bz6, bz7, bz8, bz9, bza] at h21
        exact Tm.ret (by trivial)
      · try simp only [bz0, bz1, bz2, bz3, bz4, bz5, bz6, bz7, bz8, bz9, bza] at h21
        have z22 := hy19 h21
        refine YI.tm (fun i hi => up0 hi.1) (YI.T) (fun y24 hy23 => ?_)
        refine Tm.ite (fun h25 => ?_) (fun h25 => ?_)
        · try simp only [bz0, bz1, bz2, bz3, bz4, bz5, bz6, bz7, bz8, bz9, bza] at h25
          exact Tm.ret (by trivial)
        · try simp only [bz0, bz1, bz2, bz3, bz4, bz5, bz6, bz7, bz8, bz9, bza] at h25
          have z26 := hy23 h25
          refine Yaa.tm (fun i hi => hi.1) (Yaa.T (by first | assumption | omega) (by first | assumption | omega) (by first | assumption | omega)) (fun y28 hy27 => ?_)
          refine Tm.ite (fun h29 => ?_) (fun h29 => ?_)
          · try simp only [bz0, bz1, bz2, bz3, bz4, bz5, bz6, bz7, bz8, bz9, bza] at h29
            exact Tm.ret (by trivial)
          · try simp only [bz0, bz1, bz2, bz3, bz4, bz5, bz6, bz7, bz8, bz9, bza] at h29
            refine Tm.ite (fun h30 => ?_) (fun h30 => ?_)
            · try simp only [bz0, bz1, bz2, bz3, bz4, bz5, bz6, bz7, bz8, bz9, bza] at h30
              try rw [Zj (x := i - 1) (by omega) (by omega)]
              refine Tm.atRow (by first | assumption | omega) (by first | assumption | omega) (fun x31 hx32 hm33 => ?_)
              obtain ⟨c34, c35, c36, c37, c38, c39, c40, rfl, g41, g42, g43, g44, g45, g46, g47, _⟩ := (ga0.2 x31 hm33).open
              refine Tm.uncons ?_
              refine Tm.dInt ?_
              refine Tm.uncons ?_
              refine Tm.dInt ?_
              refine Tm.uncons ?_
              refine Tm.dInt ?_
              refine Tm.uncons ?_
              refine Tm.dStr ?_
              refine Tm.uncons ?_
              refine Tm.dInt ?_
              refine Tm.uncons ?_
              refine Tm.dSl ?_
              refine Tm.uncons ?_
              refine Tm.dSl ?_
              refine Tm.atEnd ?_
              refine Tm.ite (fun h48 => ?_) (fun h48 => ?_)
              · try simp only [bz0, bz1, bz2, bz3, bz4, bz5, bz6, bz7, bz8, bz9, bza] at h48
                exact Tm.ret (by trivial)
              · try simp only [bz0, bz1, bz2, bz3, bz4, bz5, bz6, bz7, bz8, bz9, bza] at h48
                try rw [Zj (x := i + 1) (by omega) (by omega)]
                exact hL _ (by (try simp only []); omega) (by (try simp only []); omega)
            · try simp only [bz0, bz1, bz2, bz3, bz4, bz5, bz6, bz7, bz8, bz9, bza] at h30
              try rw [Zj (x := i + 1) (by omega) (by omega)]
              exact hL _ (by (try simp only []); omega) (by (try simp only []); omega)
    · try simp only [bz0, bz1, bz2, bz3, bz4, bz5, bz6, bz7, bz8, bz9, bza] at h1
      exact Tm.ret (by trivial)
noncomputable def Yk.v (a0 : List (List D)) : Bool := (Yk.t (lv 1) a0).getD default
theorem Yk.tv {a0 : List (List D)} (ga0 : Zi Yc lim a0) {k : Nat} (hk : (ZF 1) k) : Yk.t k a0 = some (Yk.v a0) := (Yk.T ga0).val hk
theorem Yk.fv {a0 : List (List D)} (ga0 : Zi Yc lim a0) {k : Nat} (hk : (ZF 1) k) {β : Type} (K : Bool → Option β) : Yk.f k a0 K = K (Yk.v a0) := Yk.f_of (Yk.tv ga0 hk) K
theorem Yy.f_of {β : Type} {k a0 a1 z0} (h : Yy.t k a0 a1 = some z0) (K : Bool → Option β) : Yy.f k a0 a1 K = K z0 := by unfold Yy.f; rw [h]; rfl
theorem Yy.tm {ι α : Type} {ok : ι → Prop} {ψ : α → Prop} {p : ι → Nat} {B : Nat} (hp : ∀ i, ok i → B ≤ p i) {a0 a1 φ} (h : Tm (fun k => B ≤ k) (fun k => Yy.t k a0 a1) φ) {G : ι → Bool → Option α} (hG : ∀ z0, φ z0 → Tm ok (fun i => G i z0) ψ) : Tm ok (fun i => Yy.f (p i) a0 a1 (G i)) ψ := ZK (t := fun k => Yy.t k a0 a1) hp h hG
set_option maxRecDepth 100000 in
theorem Yy.T {a0 : List (List D)} {a1 : Int} (ga0 : Zi RII lim a0) : Tm Z3 (fun k => Yy.t k a0 a1) (fun _ => True) := by
  unfold Yy.t Yy.g
  have hm := Zy
  have hlim : lim = 1048576 := rfl
  have la0 := ga0.1
  refine Tm.loop (okk := Z3) (p := fun k => k) (fun i hi => hi) (b := fun k => Yy.l0 k a0 a1 (fun z0 => some z0)) (fun i => (((a0.length : Int)) - i).toNat) (fun i => 0 ≤ i ∧ i ≤ (a0.length : Int)) ?_ ?_ ?_
  · rintro i hI
    try simp only [] at hI ⊢
    have : big = 2 ^ 64 := rfl
    omega
  · ((try simp only []); omega)
  · rintro i hI L hL
    try simp only [] at hI
    obtain ⟨i0, i1⟩ := hI
    simp only [Yy.l0, atR, rdQ, Q.ask]
    refine Tm.ite (fun h1 => ?_) (fun h1 => ?_)
    · try simp only [bz0, bz1, bz2, bz3, bz4, bz5, bz6, bz7, bz8, bz9, bza] at h1
      refine Tm.atRow (by first | assumption | omega) (by first | assumption | omega) (fun x2 hx3 hm4 => ?_)
      obtain ⟨c5, c6, rfl, g7, g8, _⟩ := (ga0.2 x2 hm4).open
      refine Tm.uncons ?_
      refine Tm.dInt ?_
      refine Tm.uncons ?_
      refine Tm.dInt ?_
      refine Tm.atEnd ?_
      refine YI.tm (fun i hi => hi.1) (YI.T) (fun y10 hy9 => ?_)
      refine Tm.ite (fun h11 => ?_) (fun h11 => ?_)
      · try simp only [bz0, bz1, bz2, bz3, bz4, bz5, bz6, bz7, bz8, bz9, bza] at h11
        exact Tm.ret (by trivial)
      · try simp only [bz0, bz1, bz2, bz3, bz4, bz5, bz6, bz7, bz8, bz9, bza] at h11
        have z12 := hy9 h11
        refine Tm.atRow (by first | assumption | omega) (by first | assumption | omega) (fun x13 hx14 hm15 => ?_)
        rw [hx3] at hx14
        injection hx14 with hx14
        subst hx14
        refine Tm.uncons ?_
        refine Tm.dInt ?_
        refine Tm.uncons ?_
        refine Tm.dInt ?_
        refine Tm.atEnd ?_
        refine YI.tm (fun i hi => hi.1) (YI.T) (fun y19 hy18 => ?_)
        refine Tm.ite (fun h20 => ?_) (fun h20 => ?_)
        · try simp only [bz0, bz1, bz2, bz3, bz4, bz5, bz6, bz7, bz8, bz9, bza] at h20
          exact Tm.ret (by trivial)
        · try simp only [bz0, bz1, bz2, bz3, bz4, bz5, bz6, bz7, bz8, bz9, bza] at h20
          have z21 := hy18 h20
          refine Tm.ite (fun h22 => ?_) (fun h22 => ?_)
          · try simp only [bz0, bz1, bz2, bz3, bz4, bz5, bz6, bz7, bz8, bz9, bza] at h22
            try rw [Zj (x := i - 1) (by omega) (by omega)]
            refine Tm.atRow (by first | assumption | omega) (by first | assumption | omega) (fun x23 hx24 hm25 => ?_)
            obtain ⟨c26, c27, rfl, g28, g29, _⟩ := (ga0.2 x23 hm25).open
            refine Tm.uncons ?_
            refine Tm.dInt ?_
            refine Tm.uncons ?_
            refine Tm.dInt ?_
            refine Tm.atEnd ?_
            refine Tm.atRow (by first | assumption | omega) (by first | assumption | omega) (fun x30 hx31 hm32 => ?_)
            rw [hx3] at hx31
            injection hx31 with hx31
            subst hx31
            refine Tm.uncons ?_
            refine Tm.dInt ?_
            refine Tm.uncons ?_
            refine Tm.dInt ?_
            refine Tm.atEnd ?_
            refine Tm.ite (fun h35 => ?_) (fun h35 => ?_)
            · try simp only [bz0, bz1, bz2, bz3, bz4, bz5, bz6, bz7, bz8, bz9, bza] at h35
              exact Tm.ret (by trivial)
            · try simp only [bz0, bz1, bz2, bz3, bz4, bz5, bz6, bz7, bz8, bz9, bza] at h35
              try rw [Zj (x := i + 1) (by omega) (by omega)]
              exact hL _ (by (try simp only []); omega) (by (try simp only []); omega)
          · try simp only [bz0, bz1, bz2, bz3, bz4, bz5, bz6, bz7, bz8, bz9, bza] at h22
            try rw [Zj (x := i + 1) (by omega) (by omega)]
            exact hL _ (by (try simp only []); omega) (by (try simp only []); omega)
    · try simp only [bz0, bz1, bz2, bz3, bz4, bz5, bz6, bz7, bz8, bz9, bza] at h1
      exact Tm.ret (by trivial)
def runP (xs : List (List D)) (low : Int) (i : Nat) : Bool := inB (gI xs (i : Int) 0) 1 1000000 && (inB (gI xs (i : Int) 1) low 10000 && (!decide ((i : Int) > 0) || !decide (gI xs ((i : Int) - 1) 0 ≥ gI xs (i : Int) 0)))
def runsB (xs : List (List D)) (low : Int) : Bool := (List.range xs.length).all fun i => runP xs low i
set_option maxRecDepth 100000 in
theorem l11Runs_fv {a : List (List D)} {low : Int} (g : Zi RII lim a) {k : Nat} (hk : Z3 k) {β : Type} (K : Bool → Option β) : Yy.f k a low K = K (runsB a low && decide ((a.length : Int) ≤ 80)) := Yy.f_of (by
  have hl := g.1
  have hlim : lim = 1048576 := rfl
  have hb : big = 2 ^ 64 := rfl
  unfold Yy.t Yy.g
  rw [Zb6 (n := a.length) (runP a low) (r1 := some false) (r2 := some (decide ((a.length : Int) ≤ 80))) (by unfold Z3 at hk; omega)]
  · unfold runsB
    generalize List.all _ _ = x
    cases x <;> rfl
  · intro L i hi
    unfold runP
    simp (disch := omega) only [Yy.l0, atR, rdQ, Q.ask, ZQ (show (i : Int) < a.length by omega), cond_true, RII.row g, ZY, Zad, Z6, l1In_fv, Zj]
    by_cases h0 : (i : Int) > 0
    · simp (disch := omega) only [ZQ h0, cond_true, RII.row g, ZY, Zad, Z6]
      cases inB (gI a (i : Int) 0) 1 1000000 <;> cases inB (gI a (i : Int) 1) low 10000 <;> cases decide (gI a ((i : Int) - 1) 0 ≥ gI a (i : Int) 0) <;> rfl
    · simp only [ZV h0, cond_false]
      cases inB (gI a (i : Int) 0) 1 1000000 <;> cases inB (gI a (i : Int) 1) low 10000 <;> rfl
  · intro L
    simp [Yy.l0, atR, rdQ, Q.ask]) K
theorem Yl.f_of {β : Type} {k a0 z0} (h : Yl.t k a0 = some z0) (K : Int → Option β) : Yl.f k a0 K = K z0 := by unfold Yl.f; rw [h]; rfl
theorem Yl.tm {ι α : Type} {ok : ι → Prop} {ψ : α → Prop} {p : ι → Nat} {B : Nat} (hp : ∀ i, ok i → B ≤ p i) {a0 φ} (h : Tm (fun k => B ≤ k) (fun k => Yl.t k a0) φ) {G : ι → Int → Option α} (hG : ∀ z0, φ z0 → Tm ok (fun i => G i z0) ψ) : Tm ok (fun i => Yl.f (p i) a0 (G i)) ψ := ZK (t := fun k => Yl.t k a0) hp h hG
set_option maxRecDepth 100000 in
theorem Yl.T {a0 : List (List D)} (ga0 : Zi RII lim a0) : Tm Z3 (fun k => Yl.t k a0) (fun _ => True) := by
  unfold Yl.t Yl.g
  have hm := Zy
  have hlim : lim = 1048576 := rfl
  have la0 := ga0.1
  refine Tm.loop (okk := Z3) (p := fun k => k) (fun i hi => hi) (b := fun k => Yl.l0 k a0 (fun z0 => some z0)) (fun v => match v with | (u0, i) => (((a0.length : Int)) - i).toNat) (fun v => match v with | (u0, i) => 0 ≤ i ∧ i ≤ (a0.length : Int)) ?_ ?_ ?_
  · rintro ⟨u0, i⟩ hI
    try simp only [] at hI ⊢
    have : big = 2 ^ 64 := rfl
    omega
  · ((try simp only []); omega)
  · rintro ⟨u0, i⟩ hI L hL
    try simp only [] at hI
    obtain ⟨i0, i1⟩ := hI
    simp only [Yl.l0, atR, rdQ, Q.ask]
    refine Tm.ite (fun h1 => ?_) (fun h1 => ?_)
    · try simp only [bz0, bz1, bz2, bz3, bz4, bz5, bz6, bz7, bz8, bz9, bza] at h1
      refine Tm.atRow (by first | assumption | omega) (by first | assumption | omega) (fun x2 hx3 hm4 => ?_)
      obtain ⟨c5, c6, rfl, g7, g8, _⟩ := (ga0.2 x2 hm4).open
      refine Tm.uncons ?_
      refine Tm.dInt ?_
      refine Tm.uncons ?_
      refine Tm.dInt ?_
      refine Tm.atEnd ?_
      try rw [Zj (x := u0 + c6) (by omega) (by omega)]
      try rw [Zj (x := i + 1) (by omega) (by omega)]
      exact hL _ (by (try simp only []); omega) (by (try simp only []); omega)
    · try simp only [bz0, bz1, bz2, bz3, bz4, bz5, bz6, bz7, bz8, bz9, bza] at h1
      exact Tm.ret (by trivial)
noncomputable def Yl.v (a0 : List (List D)) : Int := (Yl.t big a0).getD default
theorem Yl.tv {a0 : List (List D)} (ga0 : Zi RII lim a0) {k : Nat} (hk : Z3 k) : Yl.t k a0 = some (Yl.v a0) := (Yl.T ga0).val hk
theorem Yl.fv {a0 : List (List D)} (ga0 : Zi RII lim a0) {k : Nat} (hk : Z3 k) {β : Type} (K : Int → Option β) : Yl.f k a0 K = K (Yl.v a0) := Yl.f_of (Yl.tv ga0 hk) K
theorem YT.f_of {β : Type} {k aA aB aH aF aD z0} (h : YT.t k aA aB aH aF aD = some z0) (K : Bool → Option β) : YT.f k aA aB aH aF aD K = K z0 := by unfold YT.f; rw [h]; rfl
theorem YT.T {aA : ByteArray} {aB aH : Int} {aF aD : List (List D)} (ga0_0 : aA.size ≤ lim) (ga0_3 : Zi Yc lim aF) (ga0_4 : Zi RII lim aD) : Tm (ZF 1) (fun k => YT.t k aA aB aH aF aD) (fun _ => True) := by
  unfold YT.t YT.g
  have hm := Zy
  have hlim : lim = 1048576 := rfl
  have la0_3 := ga0_3.1
  have la0_4 := ga0_4.1
  refine Yo.tm (fun i hi => up0 hi) (Yo.T (by first | assumption | omega)) (fun y2 hy1 => ?_)
  refine Tm.ite (fun h3 => ?_) (fun h3 => ?_)
  · try simp only [bz0, bz1, bz2, bz3, bz4, bz5, bz6, bz7, bz8, bz9, bza] at h3
    refine YI.tm (fun i hi => up0 hi) (YI.T) (fun y5 hy4 => ?_)
    refine Tm.ite (fun h6 => ?_) (fun h6 => ?_)
    · try simp only [bz0, bz1, bz2, bz3, bz4, bz5, bz6, bz7, bz8, bz9, bza] at h6
      have z7 := hy4 h6
      refine YI.tm (fun i hi => up0 hi) (YI.T) (fun y9 hy8 => ?_)
      refine Tm.ite (fun h10 => ?_) (fun h10 => ?_)
      · try simp only [bz0, bz1, bz2, bz3, bz4, bz5, bz6, bz7, bz8, bz9, bza] at h10
        have z11 := hy8 h10
        refine Yk.tm (fun i hi => hi) (Yk.T (by first | assumption | omega)) (fun y13 hy12 => ?_)
        refine Tm.ite (fun h14 => ?_) (fun h14 => ?_)
        · try simp only [bz0, bz1, bz2, bz3, bz4, bz5, bz6, bz7, bz8, bz9, bza] at h14
          refine Yy.tm (fun i hi => up0 hi) (Yy.T (by first | assumption | omega)) (fun y16 hy15 => ?_)
          refine Tm.ite (fun h17 => ?_) (fun h17 => ?_)
          · try simp only [bz0, bz1, bz2, bz3, bz4, bz5, bz6, bz7, bz8, bz9, bza] at h17
            refine Yl.tm (fun i hi => up0 hi) (Yl.T (by first | assumption | omega)) (fun y19 hy18 => ?_)
            exact Tm.ret (by trivial)
          · try simp only [bz0, bz1, bz2, bz3, bz4, bz5, bz6, bz7, bz8, bz9, bza] at h17
            exact Tm.ret (by trivial)
        · try simp only [bz0, bz1, bz2, bz3, bz4, bz5, bz6, bz7, bz8, bz9, bza] at h14
          exact Tm.ret (by trivial)
      · try simp only [bz0, bz1, bz2, bz3, bz4, bz5, bz6, bz7, bz8, bz9, bza] at h10
        exact Tm.ret (by trivial)
    · try simp only [bz0, bz1, bz2, bz3, bz4, bz5, bz6, bz7, bz8, bz9, bza] at h6
      exact Tm.ret (by trivial)
  · try simp only [bz0, bz1, bz2, bz3, bz4, bz5, bz6, bz7, bz8, bz9, bza] at h3
    exact Tm.ret (by trivial)
noncomputable def YT.v (aA : ByteArray) (aB aH : Int) (aF aD : List (List D)) : Bool := (YT.t (lv 1) aA aB aH aF aD).getD default
theorem YT.tv {aA : ByteArray} {aB aH : Int} {aF aD : List (List D)} (ga0_0 : aA.size ≤ lim) (ga0_3 : Zi Yc lim aF) (ga0_4 : Zi RII lim aD) {k : Nat} (hk : (ZF 1) k) : YT.t k aA aB aH aF aD = some (YT.v aA aB aH aF aD) := (YT.T ga0_0 ga0_3 ga0_4).val hk
theorem YT.fv {aA : ByteArray} {aB aH : Int} {aF aD : List (List D)} (ga0_0 : aA.size ≤ lim) (ga0_3 : Zi Yc lim aF) (ga0_4 : Zi RII lim aD) {k : Nat} (hk : (ZF 1) k) {β : Type} (K : Bool → Option β) : YT.f k aA aB aH aF aD K = K (YT.v aA aB aH aF aD) := YT.f_of (YT.tv ga0_0 ga0_3 ga0_4 hk) K
theorem Yq.f_of {β : Type} {k aA aB aH aF aD a1 z0} (h : Yq.t k aA aB aH aF aD a1 = some z0) (K : Int → Option β) : Yq.f k aA aB aH aF aD a1 K = K z0 := by unfold Yq.f; rw [h]; rfl
set_option maxRecDepth 100000 in
theorem Yq.T {aA : ByteArray} {aB aH : Int} {aF aD : List (List D)} {a1 : Int} (ga0_0 : aA.size ≤ lim) (ga0_3 : Zi Yc lim aF) (ga0_4 : Zi RII lim aD) : Tm Z3 (fun k => Yq.t k aA aB aH aF aD a1) (fun _ => True) := by
  unfold Yq.t Yq.g
  have hm := Zy
  have hlim : lim = 1048576 := rfl
  have la0_3 := ga0_3.1
  have la0_4 := ga0_4.1
  refine Tm.loop (okk := Z3) (p := fun k => k) (fun i hi => hi) (b := fun k => Yq.l0 k a1 aA aB aH aF aD (fun z0 => some z0)) (fun i => (((aF.length : Int)) - i).toNat) (fun i => 0 ≤ i ∧ i ≤ (aF.length : Int)) ?_ ?_ ?_
  · rintro i hI
    try simp only [] at hI ⊢
    have : big = 2 ^ 64 := rfl
    omega
  · ((try simp only []); omega)
  · rintro i hI L hL
    try simp only [] at hI
    obtain ⟨i0, i1⟩ := hI
    simp only [Yq.l0, atR, rdQ, Q.ask]
    refine Tm.ite (fun h1 => ?_) (fun h1 => ?_)
    · try simp only [bz0, bz1, bz2, bz3, bz4, bz5, bz6, bz7, bz8, bz9, bza] at h1
      refine Tm.atRow (by first | assumption | omega) (by first | assumption | omega) (fun x2 hx3 hm4 => ?_)
      obtain ⟨c5, c6, c7, c8, c9, c10, c11, rfl, g12, g13, g14, g15, g16, g17, g18, _⟩ := (ga0_3.2 x2 hm4).open
      refine Tm.uncons ?_
      refine Tm.dInt ?_
      refine Tm.uncons ?_
      refine Tm.dInt ?_
      refine Tm.uncons ?_
      refine Tm.dInt ?_
      refine Tm.uncons ?_
      refine Tm.dStr ?_
      refine Tm.uncons ?_
      refine Tm.dInt ?_
      refine Tm.uncons ?_
      refine Tm.dSl ?_
      refine Tm.uncons ?_
      refine Tm.dSl ?_
      refine Tm.atEnd ?_
      refine Tm.ite (fun h19 => ?_) (fun h19 => ?_)
      · try simp only [bz0, bz1, bz2, bz3, bz4, bz5, bz6, bz7, bz8, bz9, bza] at h19
        refine Tm.atRow (by first | assumption | omega) (by first | assumption | omega) (fun x20 hx21 hm22 => ?_)
        rw [hx3] at hx21
        injection hx21 with hx21
        subst hx21
        refine Tm.uncons ?_
        refine Tm.dInt ?_
        refine Tm.uncons ?_
        refine Tm.dInt ?_
        refine Tm.uncons ?_
        refine Tm.dInt ?_
        refine Tm.uncons ?_
        refine Tm.dStr ?_
        refine Tm.uncons ?_
        refine Tm.dInt ?_
        refine Tm.uncons ?_
        refine Tm.dSl ?_
        refine Tm.uncons ?_
        refine Tm.dSl ?_
        refine Tm.atEnd ?_
        exact Tm.ret (by trivial)
      · try simp only [bz0, bz1, bz2, bz3, bz4, bz5, bz6, bz7, bz8, bz9, bza] at h19
        try rw [Zj (x := i + 1) (by omega) (by omega)]
        exact hL _ (by (try simp only []); omega) (by (try simp only []); omega)
    · try simp only [bz0, bz1, bz2, bz3, bz4, bz5, bz6, bz7, bz8, bz9, bza] at h1
      exact Tm.ret (by trivial)
noncomputable def Yq.v (aA : ByteArray) (aB aH : Int) (aF aD : List (List D)) (a1 : Int) : Int := (Yq.t big aA aB aH aF aD a1).getD default
theorem Yq.tv {aA : ByteArray} {aB aH : Int} {aF aD : List (List D)} {a1 : Int} (ga0_0 : aA.size ≤ lim) (ga0_3 : Zi Yc lim aF) (ga0_4 : Zi RII lim aD) {k : Nat} (hk : Z3 k) : Yq.t k aA aB aH aF aD a1 = some (Yq.v aA aB aH aF aD a1) := (Yq.T ga0_0 ga0_3 ga0_4).val hk
theorem Yq.fv {aA : ByteArray} {aB aH : Int} {aF aD : List (List D)} {a1 : Int} (ga0_0 : aA.size ≤ lim) (ga0_3 : Zi Yc lim aF) (ga0_4 : Zi RII lim aD) {k : Nat} (hk : Z3 k) {β : Type} (K : Int → Option β) : Yq.f k aA aB aH aF aD a1 K = K (Yq.v aA aB aH aF aD a1) := Yq.f_of (Yq.tv ga0_0 ga0_3 ga0_4 hk) K
theorem YU.f_of {β : Type} {k aA aB aH aF aD z0} (h : YU.t k aA aB aH aF aD = some z0) (K : Int → Option β) : YU.f k aA aB aH aF aD K = K z0 := by unfold YU.f; rw [h]; rfl
theorem Y4.f_of {β : Type} {k a0 a1 a2 z0} (h : Y4.t k a0 a1 a2 = some z0) (K : (List (List C)) → Option β) : Y4.f k a0 a1 a2 K = K z0 := by unfold Y4.f; rw [h]; rfl
theorem Y7.f_of {β : Type} {k a0 a1 z0 z1} (h : Y7.t k a0 a1 = some (z0, z1)) (K : Int → Bool → Option β) : Y7.f k a0 a1 K = K z0 z1 := by unfold Y7.f; rw [h]; rfl
theorem Y6.f_of {β : Type} {k : Nat} {aA : ByteArray} {aB aH : Int} {aF aD : List (List D)} {z0 : ByteArray} {z1 z2 : Int} {z3 z4 : List (List C)} {z5 z6 : Int} (h : Y6.t k aA aB aH aF aD = some (z0, z1, z2, z3, z4, z5, z6)) (K : ByteArray → Int → Int → (List (List C)) → (List (List C)) → Int → Int → Option β) : Y6.f k aA aB aH aF aD K = K z0 z1 z2 z3 z4 z5 z6 := by
  unfold Y6.f
  rw [h]
theorem Y6.tm {ι α : Type} {ok : ι → Prop} {ψ : α → Prop} {p : ι → Nat} {B : Nat} (hp : ∀ i, ok i → B ≤ p i) {aA : ByteArray} {aB aH : Int} {aF aD : List (List D)} {φ : ByteArray × Int × Int × (List (List C)) × (List (List C)) × Int × Int → Prop} (h : Tm (fun k => B ≤ k) (fun k => Y6.t k aA aB aH aF aD) φ) {G : ι → ByteArray → Int → Int → (List (List C)) → (List (List C)) → Int → Int → Option α} (hG : ∀ z0 z1 z2 z3 z4 z5 z6, φ (z0, z1, z2, z3, z4, z5, z6) → Tm ok (fun ι0 => G ι0 z0 z1 z2 z3 z4 z5 z6) ψ) : Tm ok (fun ι0 => Y6.f (p ι0) aA aB aH aF aD (G ι0)) ψ := by
  obtain ⟨⟨z0, z1, z2, z3, z4, z5, z6⟩, h1, h2⟩ := h
  exact (hG z0 z1 z2 z3 z4 z5 z6 h1).congr fun i0 hi0 => Y6.f_of (h2 (p i0) (hp i0 hi0)) _
theorem YZ.f_of {β : Type} {k a0 z0} (h : YZ.t k a0 = some z0) (K : (List (List C)) → Option β) : YZ.f k a0 K = K z0 := by unfold YZ.f; rw [h]; rfl
theorem clone_string_fv {a : List (List D)} (g : Zi RS lim a) {k : Nat} {β : Type} (K : List (List C) → Option β) : YZ.f k a K = K (a.map (·.map C.d)) := YZ.f_of (by
  have hl := g.1
  have hlim : lim = 1048576 := rfl
  have hm : ZN = 2 ^ 36 := rfl
  unfold YZ.t YZ.g
  rw [ZaP (RS.flat g.2), ZaP (by simp only [List.length_nil, map_len]; omega), List.nil_append]
  exact nilSl_same) K
theorem Yj.f_of {β : Type} {k aA aB aH aF aD z0 z1 z2 z3 z4} (h : Yj.t k aA aB aH aF aD = some (z0, z1, z2, z3, z4)) (K : Int → ByteArray → Int → (List (List C)) → (List (List C)) → Option β) : Yj.f k aA aB aH aF aD K = K z0 z1 z2 z3 z4 := by unfold Yj.f Yj.w; rw [h]; rfl
set_option maxRecDepth 100000 in
theorem copyVal (n : Nat) : ∀ (c0 : Int) (c1 : ByteArray) (c2 : Int) (c3 c4 : List (List D)), Zi RS lim c3 → c4.length ≤ lim → (∀ x ∈ c4, Y2 lim n x) → ∀ {k : Nat}, big + n + 1 ≤ k → Yj.t k c0 c1 c2 c3 c4 = some (c0, c1, c2, Zb c3, Zb c4) := by
  have hm : ZN = 2 ^ 36 := rfl
  have hlim : lim = 1048576 := rfl
  have hb : big = 2 ^ 64 := rfl
  induction n using Nat.strongRecOn with
  | ind n ih =>
  intro c0 c1 c2 c3 c4 g3 l4 g4 k hk
  obtain ⟨k, rfl⟩ : ∃ k', k = k' + 1 := ⟨k - 1, by omega⟩
  rw [Yj.t_succ]
  unfold Yj.g Yj.body
  rw [clone_string_fv g3]
  refine (iter_copy (xs := c4) (r := some (c0, c1, c2, c3.map (·.map C.d), Zb c4)) (by omega) (fun L i hi => ?_) (fun L => ?_)).trans (by rw [RS.deep g3.2])
  · have hl : (Zb (c4.take i)).length = i := by rw [Zw, List.length_take]; omega
    obtain ⟨n', hn', d0, d1, d2, d3, d4, e, w0, w1, w2, w3, w4, w5⟩ : ∃ n', n = n' + 1 ∧ ∃ d0 d1 d2 d3 d4, gR c4 (i : Int) = [.int .i64 d0, .str d1, .int .i64 d2, .sl d3, .sl d4] ∧ (Lit.int .i64 d0).wf = true ∧ d1.size ≤ lim ∧ (Lit.int .i64 d2).wf = true ∧ Zi RS lim d3 ∧ d4.length ≤ lim ∧ ∀ x ∈ d4, Y2 lim n' x := by
      have := g4 _ (gR_mem (xs := c4) (v := (i : Int)) (by omega) (by omega))
      generalize gR c4 (i : Int) = r at this
      cases this with
      | mk e0 e1 e2 e3 e4 w0 p1 w2 p3 p4 p5 => exact ⟨_, rfl, _, _, _, _, _, rfl, w0, p1, w2, p3, p4, p5⟩
    simp (disch := omega) only [Yj.l0, atR, rdQ, Q.ask, ZQ (show (i : Int) < c4.length by omega), cond_true, Zbp (xs := c4) (v := (i : Int)), e, ZY, Zad, Zaj, Za7, Z6, Yj.f_of (ih n' (by omega) d0 d1 d2 d3 d4 w3 w4 w5 (k := k) (by omega)), Zj]
    rw [ZaP (by rw [hl, List.length_singleton]; omega)]
    simp only [ZZ, ZbW]
  · simp only [Yj.l0, atR, rdQ, Q.ask, ZV (show ¬ (c4.length : Int) < c4.length by omega), cond_false]
set_option maxRecDepth 100000 in
theorem l4CopyVal (n : Nat) : ∀ (c0 : Int) (c1 : ByteArray) (c2 : Int) (c3 c4 : List (List D)), Zi RS lim c3 → c4.length ≤ lim → (∀ x ∈ c4, Y2 lim n x) → ∀ {k : Nat}, big + n + 1 ≤ k → Yw.t k c0 c1 c2 c3 c4 = some (c0, c1, c2, Zb c3, Zb c4) := by
  have hm : ZN = 2 ^ 36 := rfl
  have hlim : lim = 1048576 := rfl
  have hb : big = 2 ^ 64 := rfl
  induction n using Nat.strongRecOn with
  | ind n ih =>
  intro c0 c1 c2 c3 c4 g3 l4 g4 k hk
  have l3 := g3.1
  obtain ⟨k, rfl⟩ : ∃ k', k = k' + 1 := ⟨k - 1, by omega⟩
  rw [Yw.t_succ]
  unfold Yw.g Yw.body
  rw [ZaP (RS.flat g3.2), ZaP (by simp only [List.length_nil, map_len]; omega), List.nil_append]
  refine (iter_copy (xs := c4) (r := some (c0, c1, c2, c3.map (·.map C.d), Zb c4)) (by omega) (fun L i hi => ?_) (fun L => ?_)).trans (by rw [RS.deep g3.2])
  · have hl : (Zb (c4.take i)).length = i := by rw [Zw, List.length_take]; omega
    obtain ⟨n', hn', d0, d1, d2, d3, d4, e, w0, w1, w2, w3, w4, w5⟩ : ∃ n', n = n' + 1 ∧ ∃ d0 d1 d2 d3 d4, gR c4 (i : Int) = [.int .i64 d0, .str d1, .int .i64 d2, .sl d3, .sl d4] ∧ (Lit.int .i64 d0).wf = true ∧ d1.size ≤ lim ∧ (Lit.int .i64 d2).wf = true ∧ Zi RS lim d3 ∧ d4.length ≤ lim ∧ ∀ x ∈ d4, Y2 lim n' x := by
      have := g4 _ (gR_mem (xs := c4) (v := (i : Int)) (by omega) (by omega))
      generalize gR c4 (i : Int) = r at this
      cases this with
      | mk e0 e1 e2 e3 e4 w0 p1 w2 p3 p4 p5 => exact ⟨_, rfl, _, _, _, _, _, rfl, w0, p1, w2, p3, p4, p5⟩
    simp (disch := omega) only [Yw.l0, atR, rdQ, Q.ask, ZQ (show (i : Int) < c4.length by omega), cond_true, Zbp (xs := c4) (v := (i : Int)), e, ZY, Zad, Zaj, Za7, Z6, Yw.f_of (ih n' (by omega) d0 d1 d2 d3 d4 w3 w4 w5 (k := k) (by omega)), Zj]
    rw [ZaP (by rw [hl, List.length_singleton]; omega)]
    simp only [ZZ, ZbW]
  · simp only [Yw.l0, atR, rdQ, Q.ask, ZV (show ¬ (c4.length : Int) < c4.length by omega), cond_false]
theorem value_h {xs : List (List D)} (g : Zi YP lim xs) : ∀ x ∈ xs, Y2 lim 1099511627776 x := fun x hx => by
  obtain ⟨h, hh, hx⟩ := g.2 x hx
  exact hx.mono (hh (by decide))
theorem copyValue_fv {c0 c2 : Int} {c1 : ByteArray} {c3 c4 : List (List D)} (g3 : Zi RS lim c3) (g4 : Zi YP lim c4) {k : Nat} (hk : ZF 1 k) {β : Type} (K : Int → ByteArray → Int → List (List C) → List (List C) → Option β) : Yj.f k c0 c1 c2 c3 c4 K = K c0 c1 c2 (Zb c3) (Zb c4) :=
  Yj.f_of (copyVal 1099511627776 c0 c1 c2 c3 c4 g3 g4.1 (value_h g4) (Nat.le_trans (big_lv1 (n := 1099511627776 + 1) (by omega)) hk)) K
theorem l4Copy_fv {c0 c2 : Int} {c1 : ByteArray} {c3 c4 : List (List D)} (g3 : Zi RS lim c3) (g4 : Zi YP lim c4) {k : Nat} (hk : ZF 1 k) {β : Type} (K : Int → ByteArray → Int → List (List C) → List (List C) → Option β) : Yw.f k c0 c1 c2 c3 c4 K = K c0 c1 c2 (Zb c3) (Zb c4) :=
  Yw.f_of (l4CopyVal 1099511627776 c0 c1 c2 c3 c4 g3 g4.1 (value_h g4) (Nat.le_trans (big_lv1 (n := 1099511627776 + 1) (by omega)) hk)) K
theorem YF.f_of {β : Type} {k a0 z0} (h : YF.t k a0 = some z0) (K : (List (List C)) → Option β) : YF.f k a0 K = K z0 := by unfold YF.f; rw [h]; rfl
set_option maxRecDepth 100000 in
theorem copyWorks_fv {a : List (List D)} (g : Zi Yc lim a) {k : Nat} (hk : ZF 1 k) {β : Type} (K : List (List C) → Option β) : YF.f k a K = K (Zb a) := YF.f_of (by
  have hm : ZN = 2 ^ 36 := rfl
  have hlim : lim = 1048576 := rfl
  have hb : big = 2 ^ 64 := rfl
  have hk0 : big ≤ k := up0 hk
  have l := g.1
  unfold YF.t YF.g
  refine iter_copy (xs := a) (by omega) (fun L i hi => ?_) (fun L => ?_)
  · have hl : (Zb (a.take i)).length = i := by rw [Zw, List.length_take]; omega
    obtain ⟨e, -, -, -, k3, -, k5, k6, -⟩ := Yc.get g (v := (i : Int)) (by omega) (by omega)
    simp (disch := omega) only [YF.l0, atR, rdQ, Q.ask, ZQ (show (i : Int) < a.length by omega), cond_true, Zbp (xs := a) (v := (i : Int)), e, ZY, Zad, Zaj, Za7, Z6, copyValue_fv k5 k6 hk, Zj]
    rw [ZaP (by rw [hl, List.length_singleton]; omega)]
    simp only [ZZ, ZbW]
  · simp only [YF.l0, atR, rdQ, Q.ask, ZV (show ¬ (a.length : Int) < a.length by omega), cond_false]) K
set_option maxRecDepth 100000 in
theorem l12Works_fv {a : List (List D)} (g : Zi Yc lim a) {k : Nat} (hk : ZF 1 k) {β : Type} (K : List (List C) → Option β) : YJ.f k a K = K (Zb a) := YJ.f_of (by
  have hm : ZN = 2 ^ 36 := rfl
  have hlim : lim = 1048576 := rfl
  have hb : big = 2 ^ 64 := rfl
  have hk0 : big ≤ k := up0 hk
  have l := g.1
  unfold YJ.t YJ.g
  refine iter_copy (xs := a) (by omega) (fun L i hi => ?_) (fun L => ?_)
  · have hl : (Zb (a.take i)).length = i := by rw [Zw, List.length_take]; omega
    obtain ⟨e, -, -, -, k3, -, k5, k6, -⟩ := Yc.get g (v := (i : Int)) (by omega) (by omega)
    simp (disch := omega) only [YJ.l0, atR, rdQ, Q.ask, ZQ (show (i : Int) < a.length by omega), cond_true, Zbp (xs := a) (v := (i : Int)), e, ZY, Zad, Zaj, Za7, Z6, l4Copy_fv k5 k6 hk, Zj]
    rw [ZaP (by rw [hl, List.length_singleton]; omega)]
    simp only [ZZ, ZbW]
  · simp only [YJ.l0, atR, rdQ, Q.ask, ZV (show ¬ (a.length : Int) < a.length by omega), cond_false]) K
theorem YW.f_of {β : Type} {k a0 z0} (h : YW.t k a0 = some z0) (K : (List (List C)) → Option β) : YW.f k a0 K = K z0 := by unfold YW.f; rw [h]; rfl
theorem clone_run_fv {a : List (List D)} (g : Zi RII lim a) {k : Nat} {β : Type} (K : List (List C) → Option β) : YW.f k a K = K (a.map (·.map C.d)) := YW.f_of (by
  have hl := g.1
  have hlim : lim = 1048576 := rfl
  have hm : ZN = 2 ^ 36 := rfl
  unfold YW.t YW.g
  rw [ZaP (RII.flat g.2), ZaP (by simp only [List.length_nil, map_len]; omega), List.nil_append]
  exact nilSl_same) K
theorem Yak.f_of {β : Type} {k aA aB aH aF aD z0 z1 z2 z3 z4} (h : Yak.t k aA aB aH aF aD = some (z0, z1, z2, z3, z4)) (K : ByteArray → Int → Int → (List (List C)) → (List (List C)) → Option β) : Yak.f k aA aB aH aF aD K = K z0 z1 z2 z3 z4 := by unfold Yak.f; rw [h]; rfl
theorem Y8.f_of {β : Type} {k a0 a1 a2 z0} (h : Y8.t k a0 a1 a2 = some z0) (K : Bool → Option β) : Y8.f k a0 a1 a2 K = K z0 := by unfold Y8.f; rw [h]; rfl
theorem within_f {β : Type} {k : Nat} {a b c : Int} (K : Bool → Option β) : Y8.f k a b c K = K (decide (b ≤ a) && decide (a ≤ c)) := by
  refine Y8.f_of ?_ K
  unfold Y8.t Y8.g
  by_cases h : b ≤ a <;> simp [h]
theorem Y1.same {k : Nat} {a : ByteArray} : Y1.t k a = Yo.t k a := by
  unfold Y1.t Yo.t Y1.g Yo.g
  congr 1
  funext L v
  simp only [Y1.l0, Yo.l0, l1In_f, within_f]
  refine bif_congr (fun _ => ?_) (fun _ => rfl)
  unfold Za0
  split
  · split
    · rename_i b _
      have hb : b.toNat < 256 := b.toNat_lt
      simp only []
      rw [Zj (x := (b.toNat : Int)) (by omega) (by omega)]
      generalize (b.toNat : Int) = x
      by_cases h1 : x < 97 <;> by_cases h2 : x < 48 <;> by_cases h3 : x > 57 <;> by_cases h4 : x > 122 <;> simp [h1, h2, h3, h4] <;> (try omega) <;> grind
    · rfl
  · rfl
theorem impl_NameOk_f {β : Type} {k : Nat} {a : ByteArray} (K : Bool → Option β) : Y1.f k a K = Yo.f k a K := by
  unfold Y1.f Yo.f
  rw [Y1.same]
theorem within_fv {β : Type} {k : Nat} {a b c : Int} (K : Bool → Option β) : Y8.f k a b c K = K (inB a b c) := within_f K
theorem Yae.f_of {β : Type} {k a0 z0} (h : Yae.t k a0 = some z0) (K : Bool → Option β) : Yae.f k a0 K = K z0 := by unfold Yae.f; rw [h]; rfl
theorem isCopies_f {β : Type} {k : Nat} {a : Int} (K : Bool → Option β) : Yae.f k a K = K (decide (0 ≤ a) && decide (a ≤ 10000)) := by
  refine Yae.f_of ?_ K
  unfold Yae.t Yae.g
  rw [within_f]
theorem YV.f_of {β : Type} {k a0 a1 z0} (h : YV.t k a0 a1 = some z0) (K : Bool → Option β) : YV.f k a0 a1 K = K z0 := by unfold YV.f; rw [h]; rfl
set_option maxRecDepth 100000 in
theorem namesOk_fv {a : List (List D)} {n : Int} (g : Zi RS lim a) {k : Nat} (hk : Z3 k) {β : Type} (K : Bool → Option β) : YV.f k a n K = K (namesB a && decide ((a.length : Int) ≤ n)) := YV.f_of (by
  have hl := g.1
  have hlim : lim = 1048576 := rfl
  have hb : big = 2 ^ 64 := rfl
  unfold YV.t YV.g
  rw [Zb6 (n := a.length) (fun i => Yo.v (gS a (i : Int) 0) && (!decide ((i : Int) > 0) || ZbO (gS a ((i : Int) - 1) 0) (gS a (i : Int) 0))) (r1 := some false) (r2 := some (decide ((a.length : Int) ≤ n))) (by unfold Z3 at hk; omega)]
  · unfold namesB
    generalize List.all _ _ = x
    cases x <;> rfl
  · intro L i hi
    have k0 := (RS.get g (v := (i : Int)) (by omega) (by omega)).2.1
    simp (disch := omega) only [YV.l0, atR, rdQ, Q.ask, ZQ (show (i : Int) < a.length by omega), cond_true, RS.row g, ZY, Zaj, Z6, impl_NameOk_f, Yo.fv k0 hk, Zj]
    by_cases h0 : (i : Int) > 0
    · simp (disch := omega) only [ZQ h0, cond_true, RS.row g, ZY, Zaj, Z6]
      cases Yo.v (gS a (i : Int) 0) <;> cases ZbO (gS a ((i : Int) - 1) 0) (gS a (i : Int) 0) <;> rfl
    · simp only [ZV h0, cond_false]
      cases Yo.v (gS a (i : Int) 0) <;> rfl
  · intro L
    simp [YV.l0, atR, rdQ, Q.ask]) K
theorem YL.f_of {β : Type} {k aA aB aH aF aD z0} (h : YL.t k aA aB aH aF aD = some z0) (K : Bool → Option β) : YL.f k aA aB aH aF aD K = K z0 := by unfold YL.f; rw [h]; rfl
theorem Yn.f_of {β : Type} {k aA aB aH aF aD a1 z0} (h : Yn.t k aA aB aH aF aD a1 = some z0) (K : Int → Option β) : Yn.f k aA aB aH aF aD a1 K = K z0 := by unfold Yn.f Yn.w; rw [h]; rfl
theorem Yap.f_of {β : Type} {k aA aB aH aF aD z0} (h : Yap.t k aA aB aH aF aD = some z0) (K : Bool → Option β) : Yap.f k aA aB aH aF aD K = K z0 := by unfold Yap.f; rw [h]; rfl
theorem shapeOk_fv {c0 : Int} {c1 : ByteArray} {c2 : Int} {c3 c4 : List (List D)} (g1 : c1.size ≤ lim) (g3 : Zi RS lim c3) {k : Nat} (hk : Z3 k) {β : Type} (K : Bool → Option β) : YL.f k c0 c1 c2 c3 c4 K = K (YaC c0 c1 c2 c3 c4 && (!(c0 == 5) || decide ((c3.length : Int) ≤ 300))) := YL.f_of (by
  have hlim : lim = 1048576 := rfl
  have hb : big = 2 ^ 64 := rfl
  unfold YL.t YL.g YL.m
  have text : Zo (YL.l0 k ((c2 : Int) == 0) (((c3.length : Int) : Int) == 0) (((c4.length : Int) : Int) == 0) (c1.size : Int) c0 c1 c2 c3 c4 fun z0 => some z0) k 0 = some (textB c1 && (decide ((c1.size : Int) ≤ 100) && (c2 == 0 && ((c3.length : Int) == 0 && (c4.length : Int) == 0)))) := by
    rw [Zb6 (n := c1.size) (fun i => inB (bS c1 (i : Int)) 32 126) (r1 := some false) (r2 := some (decide ((c1.size : Int) ≤ 100) && (c2 == 0 && ((c3.length : Int) == 0 && (c4.length : Int) == 0)))) (by unfold Z3 at hk; omega)]
    · unfold textB
      generalize List.all _ _ = x
      cases x <;> rfl
    · intro L i hi
      simp (disch := omega) only [YL.l0, ZQ (show (i : Int) < c1.size by omega), cond_true, atStr_at, wrap_b, within_fv, Zj]
      generalize inB _ _ _ = x
      cases x <;> rfl
    · intro L
      simp only [YL.l0, ZV (show ¬ (c1.size : Int) < c1.size by omega), cond_false]
      cases decide ((c1.size : Int) ≤ 100) <;> cases c2 == 0 <;> cases ((c3.length : Int) == 0) <;> rfl
  simp only [text, within_fv, namesOk_fv g3 hk]
  unfold YaC
  generalize textB c1 = b1
  generalize decide ((c1.size : Int) ≤ 100) = b0
  generalize hb2 : Zae c1 (⟨#[]⟩ : ByteArray) = b2
  have hb3 : Zae c1 bareText = b2 := hb2
  rw [hb3]
  generalize namesB c3 = b3
  generalize inB c2 0 1 = b4
  generalize (c2 == 0) = b5
  generalize ((c4.length : Int) == 0) = b6
  generalize ((c3.length : Int) == (c4.length : Int)) = b7
  generalize ((c3.length : Int) == 0) = b8
  generalize decide ((c3.length : Int) ≤ 300) = b9
  rcases ZaA c0 with rfl | rfl | rfl | rfl | rfl | ⟨e1, e2, e3, e4, e5⟩
  · cases b0 <;> cases b1 <;> cases b5 <;> cases b6 <;> cases b8 <;> rfl
  · cases b2 <;> cases b6 <;> cases b8 <;> rfl
  · cases b2 <;> cases b4 <;> cases b6 <;> cases b8 <;> rfl
  · cases b2 <;> cases b5 <;> cases b8 <;> rfl
  · cases b2 <;> cases b3 <;> cases b5 <;> cases b7 <;> cases b9 <;> rfl
  · simp only [e1, e2, e3, e4, e5, cond_false, Bool.false_and]) K
set_option maxRecDepth 100000 in
theorem measured_t (d : Nat) : ∀ {c0 : Int} {c1 : ByteArray} {c2 : Int} {c3 c4 : List (List D)}, c1.size ≤ lim → Zi RS lim c3 → Zi YP lim c4 → d ≤ 6 → ∀ {k : Nat}, big + d + 1 ≤ k → Yn.t k c0 c1 c2 c3 c4 (d : Int) = some (bif Yax d [.int .i64 c0, .str c1, .int .i64 c2, .sl c3, .sl c4] == 0 then 301 else Yax d [.int .i64 c0, .str c1, .int .i64 c2, .sl c3, .sl c4]) := by
  have hlim : lim = 1048576 := rfl
  have hb : big = 2 ^ 64 := rfl
  induction d with
  | zero =>
    intro c0 c1 c2 c3 c4 g1 g3 g4 hd k hk
    cases k with
    | zero => omega
    | succ k => rfl
  | succ d ih =>
    intro c0 c1 c2 c3 c4 g1 g3 g4 hd k hk
    cases k with
    | zero => omega
    | succ k =>
    have hl := g4.1
    have hk0 : Z3 k := by unfold Z3; omega
    rw [Yn.t_succ]
    unfold Yn.g Yn.body
    rw [show (((d + 1 : Nat) : Int) == 0) = false by rw [beq_eq_false_iff_ne]; omega, cond_false, shapeOk_fv g1 g3 hk0]
    have key := iter_val (b := Yn.l0 k (Yn.f k) ((d + 1 : Nat) : Int) c4 (c4.length : Int) fun z0 => some z0) (fun v => ((c4.length : Int) - v.2).toNat) (fun v => 0 ≤ v.2 ∧ v.2 ≤ c4.length ∧ 1 ≤ v.1 ∧ v.1 ≤ 300)
      (fun v => bif sumL (Yax d) (c4.drop v.2.toNat) v.1 == 0 then some 301 else some (sumL (Yax d) (c4.drop v.2.toNat) v.1)) ?_ k (1, 0) (by simp only []; omega) (by simp only []; omega)
    · rw [key]
      show (bif !(YaC c0 c1 c2 c3 c4 && (!(c0 == 5) || decide ((c3.length : Int) ≤ 300))) then some 301 else bif sumL (Yax d) (List.drop 0 c4) 1 == 0 then some 301 else some (sumL (Yax d) (List.drop 0 c4) 1)) = some (bif Yax (d + 1) [.int .i64 c0, .str c1, .int .i64 c2, .sl c3, .sl c4] == 0 then 301 else Yax (d + 1) [.int .i64 c0, .str c1, .int .i64 c2, .sl c3, .sl c4])
      have el : Yax (d + 1) [.int .i64 c0, .str c1, .int .i64 c2, .sl c3, .sl c4] = bif sumL (Yax d) c4 1 == 0 then 0 else bif YaC c0 c1 c2 c3 c4 then sumL (Yax d) c4 1 else 0 := rfl
      rw [List.drop_zero, el]
      have hs := sumL_range (f := Yax d) (fun r => (YaF d r).1) (rs := c4) (n := 1) (by omega) (by omega)
      by_cases hz : sumL (Yax d) c4 1 = 0
      · rw [hz]
        cases (YaC c0 c1 c2 c3 c4 && (!(c0 == 5) || decide ((c3.length : Int) ≤ 300))) <;> rfl
      · have hz' : (sumL (Yax d) c4 1 == 0) = false := by rw [beq_eq_false_iff_ne]; exact hz
        rw [hz', cond_false, cond_false]
        by_cases hsh : YaC c0 c1 c2 c3 c4 = true
        · have h5 : (!(c0 == 5) || decide ((c3.length : Int) ≤ 300)) = true := by
            by_cases h5 : c0 = 5
            · subst h5
              have : (c3.length : Int) = c4.length := by
                unfold YaC at hsh
                simp at hsh
                omega
              have := hs.2.2 hz
              simp
              omega
            · simp [h5]
          rw [hsh, h5]
          simp only [Bool.and_self, Bool.not_true, cond_false, cond_true, hz']
        · rw [Bool.not_eq_true] at hsh
          rw [hsh]
          rfl
    · rintro ⟨n, i⟩ ⟨i0, i1, n0, n1⟩ L hL
      simp only [] at i0 i1 n0 n1 hL ⊢
      by_cases hi : i < c4.length
      · have hg := YP.get g4 i0 hi
        have hr := YaF d (gR c4 i)
        have ih' := ih (c0 := gI c4 i 0) (c2 := gI c4 i 2) hg.2.2.1 hg.2.2.2.2.1 hg.2.2.2.2.2.1 (by omega) (k := k) (by omega)
        rw [← hg.1] at ih'
        simp (disch := omega) only [Yn.l0, atR, rdQ, Q.ask, ZQ hi, cond_true, YP.row g4, ZY, Zaj, Zad, Za7, Z6, Zj, show ((d + 1 : Nat) : Int) - 1 = (d : Int) by omega]
        rw [Yn.f_of ih', drop_gR i0 hi]
        simp only [sumL]
        by_cases hz : Yax d (gR c4 i) = 0
        · rw [hz, show ((0 : Int) == 0) = true from rfl, cond_true, Zj (by omega) (by omega), ZQ (by omega)]
          simp
        · rw [show (Yax d (gR c4 i) == 0) = false by rw [beq_eq_false_iff_ne]; exact hz, cond_false, Zj (by omega) (by omega)]
          by_cases hn : n + Yax d (gR c4 i) > 300
          · rw [ZQ hn, if_pos (.inr hn)]
            rfl
          · rw [ZV hn, if_neg (by omega), cond_false, hL _ ⟨by simp only []; omega, by simp only []; omega, by simp only []; omega, by simp only []; omega⟩ (by simp only []; omega)]
      · rw [drop_end (by omega)]
        simp only [Yn.l0, atR, rdQ, Q.ask, ZV hi, cond_false, sumL]
        rw [show (n == 0) = false by rw [beq_eq_false_iff_ne]; omega, cond_false]
noncomputable def valB (c0 : Int) (c1 : ByteArray) (c2 : Int) (c3 c4 : List (List D)) : Bool := decide (Yax 6 [.int .i64 c0, .str c1, .int .i64 c2, .sl c3, .sl c4] > 0)
theorem spec_ValueOk_fv {c0 : Int} {c1 : ByteArray} {c2 : Int} {c3 c4 : List (List D)} (g1 : c1.size ≤ lim) (g3 : Zi RS lim c3) (g4 : Zi YP lim c4) {k : Nat} (hk : ZF 1 k) {β : Type} (K : Bool → Option β) : Yaa.f k c0 c1 c2 c3 c4 K = K (valB c0 c1 c2 c3 c4) := Yaa.f_of (by
  unfold Yaa.t Yaa.g
  rw [look_fv (by omega) (by omega) g1 g3 g4 hk]
  rfl) K
theorem impl_ValueOk_fv {c0 : Int} {c1 : ByteArray} {c2 : Int} {c3 c4 : List (List D)} (g1 : c1.size ≤ lim) (g3 : Zi RS lim c3) (g4 : Zi YP lim c4) {k : Nat} (hk : ZF 1 k) {β : Type} (K : Bool → Option β) : Yap.f k c0 c1 c2 c3 c4 K = K (valB c0 c1 c2 c3 c4) := Yap.f_of (by
  have hb : big = 2 ^ 64 := rfl
  have h1 : lv 1 = 2 ^ 65 := rfl
  unfold Yap.t Yap.g
  rw [Yn.f_of (show Yn.t k c0 c1 c2 c3 c4 6 = _ from measured_t 6 g1 g3 g4 (by omega) (by unfold ZF at hk; omega))]
  unfold valB
  have hr := YaF 6 [.int .i64 c0, .str c1, .int .i64 c2, .sl c3, .sl c4]
  generalize Yax 6 [.int .i64 c0, .str c1, .int .i64 c2, .sl c3, .sl c4] = n at *
  by_cases hz : n = 0
  · subst hz; rfl
  · rw [show (n == 0) = false by rw [beq_eq_false_iff_ne]; exact hz, cond_false, ZQ (by omega), ZQ (by omega)]) K
theorem YS.f_of {β : Type} {k a0 z0} (h : YS.t k a0 = some z0) (K : Bool → Option β) : YS.f k a0 K = K z0 := by unfold YS.f; rw [h]; rfl
set_option maxRecDepth 100000 in
theorem YS.same {a0 : List (List D)} (g : Zi Yc lim a0) {k : Nat} (hk : ZF 1 k) : YS.t k a0 = Yk.t k a0 := by
  have hl := g.1
  have hlim : lim = 1048576 := rfl
  unfold YS.t Yk.t YS.g Yk.g
  refine congrArg (fun b => Zo b k 0) (funext fun L => funext fun v => ?_)
  simp only [YS.l0, atR, rdQ, Q.ask, Yk.l0, atR, rdQ, Q.ask, within_fv, l1In_fv]
  refine bif_congr (fun h => ?_) (fun _ => rfl)
  by_cases h0 : 0 ≤ v ∧ v < a0.length
  · obtain ⟨h0, h1⟩ := h0
    obtain ⟨-, -, -, -, k3, -, k5, k6, -⟩ := Yc.get g h0 h1
    simp (disch := omega) only [Yc.row g, ZY, Zaj, Zad, Za7, Z6]
    simp only [spec_ValueOk_fv k3 k5 k6 hk, impl_ValueOk_fv k3 k5 k6 hk]
  · simp only [atRow_none h0]
theorem impl_WorksOk_fv {a0 : List (List D)} (g : Zi Yc lim a0) {k : Nat} (hk : ZF 1 k) {β : Type} (K : Bool → Option β) : YS.f k a0 K = K (Yk.v a0) :=
  YS.f_of ((YS.same g hk).trans (Yk.tv g hk)) K
theorem Y5.f_of {β : Type} {k a0 z0} (h : Y5.t k a0 = some z0) (K : Bool → Option β) : Y5.f k a0 K = K z0 := by unfold Y5.f; rw [h]; rfl
set_option maxRecDepth 100000 in
theorem runsOk_fv {a : List (List D)} (g : Zi RII lim a) {k : Nat} (hk : Z3 k) {β : Type} (K : Bool → Option β) : Y5.f k a K = K (runsB a 0 && decide ((a.length : Int) ≤ 80)) := Y5.f_of (by
  have hl := g.1
  have hlim : lim = 1048576 := rfl
  have hb : big = 2 ^ 64 := rfl
  have hc : ∀ {n : Int} {β : Type} (K : Bool → Option β), Yae.f k n K = K (inB n 0 10000) := fun K => isCopies_f K
  unfold Y5.t Y5.g
  rw [Zb6 (n := a.length) (runP a 0) (r1 := some false) (r2 := some (decide ((a.length : Int) ≤ 80))) (by unfold Z3 at hk; omega)]
  · unfold runsB
    generalize List.all _ _ = x
    cases x <;> rfl
  · intro L i hi
    unfold runP
    simp (disch := omega) only [Y5.l0, atR, rdQ, Q.ask, ZQ (show (i : Int) < a.length by omega), cond_true, RII.row g, ZY, Zad, Z6, within_fv, hc, Zj]
    by_cases h0 : (i : Int) > 0
    · simp (disch := omega) only [ZQ h0, cond_true, RII.row g, ZY, Zad, Z6]
      cases inB (gI a (i : Int) 0) 1 1000000 <;> cases inB (gI a (i : Int) 1) 0 10000 <;> cases decide (gI a ((i : Int) - 1) 0 ≥ gI a (i : Int) 0) <;> rfl
    · simp only [ZV h0, cond_false]
      cases inB (gI a (i : Int) 0) 1 1000000 <;> cases inB (gI a (i : Int) 1) 0 10000 <;> rfl
  · intro L
    simp [Y5.l0, atR, rdQ, Q.ask]) K
theorem Yal.f_of {β : Type} {k aA aB z0} (h : Yal.t k aA aB = some z0) (K : Bool → Option β) : Yal.f k aA aB K = K z0 := by unfold Yal.f; rw [h]; rfl
theorem Yb.f_of {β : Type} {k a0 z0} (h : Yb.t k a0 = some z0) (K : Int → Option β) : Yb.f k a0 K = K z0 := by unfold Yb.f; rw [h]; rfl
theorem Yi.f_of {β : Type} {k a0 z0} (h : Yi.t k a0 = some z0) (K : Bool → Option β) : Yi.f k a0 K = K z0 := by unfold Yi.f; rw [h]; rfl
theorem YG.f_of {β : Type} {k aA aB aH aF aD z0} (h : YG.t k aA aB aH aF aD = some z0) (K : Int → Option β) : YG.f k aA aB aH aF aD K = K z0 := by unfold YG.f; rw [h]; rfl
theorem Yam.f_of {β : Type} {k aA aB aH aF aD z0} (h : Yam.t k aA aB aH aF aD = some z0) (K : Bool → Option β) : Yam.f k aA aB aH aF aD K = K z0 := by unfold Yam.f; rw [h]; rfl
theorem runs_low (a : List (List D)) : runsB a 1 = (runsB a 0 && (List.range a.length).all fun i => !(gI a (i : Int) 1 == 0)) := by
  unfold runsB
  rw [Bool.eq_iff_iff]
  simp only [Bool.and_eq_true, List.all_eq_true]
  have h1 : ∀ i, runP a 1 i = (runP a 0 i && !(gI a (i : Int) 1 == 0)) := fun i => by
    unfold runP
    have : inB (gI a (i : Int) 1) 1 10000 = (inB (gI a (i : Int) 1) 0 10000 && !(gI a (i : Int) 1 == 0)) := by
      unfold inB
      generalize gI a (i : Int) 1 = n
      by_cases h1 : 1 ≤ n
      · rw [ZQ h1, ZQ (show 0 ≤ n by omega), show (n == 0) = false by rw [beq_eq_false_iff_ne]; omega]
        cases decide (n ≤ 10000) <;> rfl
      · rw [ZV h1]
        by_cases h0 : n = 0
        · subst h0; rfl
        · rw [ZV (show ¬ 0 ≤ n by omega)]
          rfl
    rw [this]
    cases inB (gI a (i : Int) 0) 1 1000000 <;> cases inB (gI a (i : Int) 1) 0 10000 <;> cases gI a (i : Int) 1 == 0 <;> simp
  constructor
  · intro h
    refine ⟨fun x hx => ?_, fun x hx => ?_⟩
    · have := h x hx; rw [h1, Bool.and_eq_true] at this; exact this.1
    · have := h x hx; rw [h1, Bool.and_eq_true] at this; exact this.2
  · intro h x hx
    rw [h1, Bool.and_eq_true]
    exact ⟨h.1 x hx, h.2 x hx⟩
set_option maxRecDepth 100000 in
theorem Yam.same {aA : ByteArray} {aB aH : Int} {aF aD : List (List D)} (g0 : aA.size ≤ lim) (g3 : Zi Yc lim aF) (g4 : Zi RII lim aD) {k : Nat} (hk : ZF 1 k) : Yam.t k aA aB aH aF aD = YT.t k aA aB aH aF aD := by
  have hk0 : Z3 k := up0 hk
  have hl := g4.1
  have hlim : lim = 1048576 := rfl
  have hb : big = 2 ^ 64 := rfl
  have hc : ∀ {n : Int} {β : Type} (K : Bool → Option β), Yae.f k n K = K (inB n 0 10000) := fun K => isCopies_f K
  have hf : ∀ {β : Type} (K : Int → Option β), Yb.f k aD K = K (Zbo (fun i => gI aD (i : Int) 1 == 0) aD.length) := fun K => Yb.f_of (by
    unfold Yb.t Yb.g
    refine iter_findI (n := aD.length) _ some (by unfold Z3 at hk0; omega) (fun L i hi => ?_) (fun L => by simp [Yb.l0, atR, rdQ, Q.ask])
    have hs : ∀ {x y : Int} {β : Type} (K : Bool → Option β), Yal.f k x y K = K (y == 0) := fun K => Yal.f_of (by unfold Yal.t Yal.g; rfl) K
    simp (disch := omega) only [Yb.l0, atR, rdQ, Q.ask, ZQ (show (i : Int) < aD.length by omega), cond_true, RII.row g4, ZY, Zad, Z6, hs, Zj]) K
  have hcf : ∀ {β : Type} (K : Bool → Option β), Yi.f k aD K = K (!(List.range aD.length).all fun i => !(gI aD (i : Int) 1 == 0)) := fun K => Yi.f_of (by
    unfold Yi.t Yi.g
    rw [hf, findI_all]) K
  have hr : ∀ {β : Type} (K : Int → Option β), YG.f k aA aB aH aF aD K = Yl.f k aD K := fun K => by
    unfold YG.f Yl.f
    have : YG.t k aA aB aH aF aD = Yl.t k aD := by
      unfold YG.t Yl.t YG.g Yl.g
      refine congrArg (fun b => Zo b k (0, 0)) (funext fun L => funext fun v => ?_)
      simp only [YG.l0, atR, rdQ, Q.ask, Yl.l0, atR, rdQ, Q.ask]
    cases h2 : Yl.t k aD <;> simp only [this, h2]
  unfold Yam.t YT.t Yam.g YT.g
  simp only [impl_NameOk_f, Yo.fv g0 hk0, within_fv, l1In_fv, hc, l11Runs_fv g4 hk0, runsOk_fv g4 hk0, impl_WorksOk_fv g3 hk, Yk.fv g3 hk, hcf, hr, runs_low]
  generalize Yo.v aA = b1
  generalize inB aB 0 10000 = b2
  generalize inB aH 0 1000000 = b3
  generalize Yk.v aF = b4
  generalize runsB aD 0 = b5
  generalize decide ((aD.length : Int) ≤ 80) = b6
  generalize List.all _ _ = b7
  cases b1 <;> cases b2 <;> cases b3 <;> cases b4 <;> cases b5 <;> cases b6 <;> cases b7 <;> rfl
theorem copyIsle_fv {a0 : ByteArray} {a1 a2 : Int} {a3 a4 : List (List D)} (g3 : Zi Yc lim a3) (g4 : Zi RII lim a4) {k : Nat} (hk : ZF 1 k) {β : Type} (K : ByteArray → Int → Int → List (List C) → List (List C) → Option β) : Yak.f k a0 a1 a2 a3 a4 K = K a0 a1 a2 (Zb a3) (a4.map (·.map C.d)) := Yak.f_of (by
  unfold Yak.t Yak.g
  rw [copyWorks_fv g3 hk, clone_run_fv g4]) K
theorem l13Copy_fv {a0 : ByteArray} {a1 a2 : Int} {a3 a4 : List (List D)} (g3 : Zi Yc lim a3) (g4 : Zi RII lim a4) {k : Nat} (hk : ZF 1 k) {β : Type} (K : ByteArray → Int → Int → List (List C) → List (List C) → Option β) : Yao.f k a0 a1 a2 a3 a4 K = K a0 a1 a2 (Zb a3) (a4.map (·.map C.d)) := Yao.f_of (by
  have l4 := g4.1
  have hlim : lim = 1048576 := rfl
  have hm : ZN = 2 ^ 36 := rfl
  unfold Yao.t Yao.g
  rw [l12Works_fv g3 hk, ZaP (RII.flat g4.2), ZaP (by simp only [List.length_nil, map_len]; omega), List.nil_append]) K
theorem IsleOkI {aA : ByteArray} {aB aH : Int} {aF aD : List (List D)} (g0 : aA.size ≤ lim) (g3 : Zi Yc lim aF) (g4 : Zi RII lim aD) {k : Nat} (hk : ZF 1 k) {β : Type} (K : Bool → Option β) : Yam.f k aA aB aH aF aD K = K (YT.v aA aB aH aF aD) := Yam.f_of ((Yam.same g0 g3 g4 hk).trans (YT.tv g0 g3 g4 hk)) K
theorem Y9.f_of {β : Type} {k aA aB aH aF aD a1 z0} (h : Y9.t k aA aB aH aF aD a1 = some z0) (K : Int → Option β) : Y9.f k aA aB aH aF aD a1 K = K z0 := by unfold Y9.f; rw [h]; rfl
theorem Yaj.f_of {β : Type} {k aA aB z0} (h : Yaj.t k aA aB = some z0) (K : Bool → Option β) : Yaj.f k aA aB K = K z0 := by unfold Yaj.f; rw [h]; rfl
theorem Ye.f_of {β : Type} {k : Nat} {xs z0 : List (List C)} (h : Ye.t k xs = some z0) (K : (List (List C)) → Option β) : Ye.f k xs K = K z0 := by
  unfold Ye.f
  rw [h]
theorem Yah.f_of {β : Type} {k a0 z0} (h : Yah.t k a0 = some z0) (K : Bool → Option β) : Yah.f k a0 K = K z0 := by unfold Yah.f; rw [h]; rfl
theorem Yaf.f_of {β : Type} {k a0 a1 z0} (h : Yaf.t k a0 a1 = some z0) (K : Int → Option β) : Yaf.f k a0 a1 K = K z0 := by unfold Yaf.f; rw [h]; rfl
theorem Yau.f_of {β : Type} {k aA aB a1 z0} (h : Yau.t k aA aB a1 = some z0) (K : Int → Option β) : Yau.f k aA aB a1 K = K z0 := by unfold Yau.f; rw [h]; rfl
theorem Ya.f_of {β : Type} {k a0 a1 z0 z1} (h : Ya.t k a0 a1 = some (z0, z1)) (K : Int → Bool → Option β) : Ya.f k a0 a1 K = K z0 z1 := by unfold Ya.f; rw [h]; rfl
theorem half_eq {x : Int} (h0 : 0 ≤ x) (h1 : x < 4611686018427387904) : Int.fdiv (IntKind.wrap .u64 (IntKind.wrap .i64 x)) (2 ^ (min (1 : Int).toNat 64)) = x / 2 := by
  rw [Zj (by omega) (by omega)]
  have : IntKind.wrap .u64 x = x := by simp only [IntKind.wrap, IntKind.signed, IntKind.bits]; simp; omega
  rw [this, show (min (1 : Int).toNat 64) = 1 from rfl, Int.pow_one, Int.fdiv_eq_ediv_of_nonneg _ (by decide)]
theorem isNaN_fv {x : Int} {k : Nat} {β : Type} (K : Bool → Option β) : Yah.f k x K = K false := Yah.f_of (by unfold Yah.t Yah.g; simp) K
theorem cmpI_fv {x y : Int} {k : Nat} {β : Type} (K : Int → Option β) : Yaf.f k x y K = K (if x < y then -1 else if y < x then 1 else 0) := Yaf.f_of (by
  unfold Yaf.t Yaf.g
  simp only [isNaN_fv, cond_false]
  by_cases h : x < y
  · simp [h]
  · by_cases h2 : y < x <;> simp [h, h2]) K
def lbP (l : List (Int × Int)) (t : Int) : Nat := (l.takeWhile fun p => decide (p.1 < t)).length
theorem lbP_le (l : List (Int × Int)) (t : Int) : lbP l t ≤ l.length := (List.takeWhile_sublist _).length_le
theorem YaH : ∀ {l : List (Int × Int)} {t : Int}, Asc l → (∀ p ∈ l.take (lbP l t), p.1 < t) ∧ ∀ p ∈ l.drop (lbP l t), t ≤ p.1
  | [], t, _ => by simp [lbP]
  | x :: l, t, h => by
    obtain ⟨h1, h2⟩ := List.pairwise_cons.mp h
    by_cases hx : x.1 < t
    · obtain ⟨q1, q2⟩ := YaH (t := t) h2
      have e : lbP (x :: l) t = lbP l t + 1 := by simp [lbP, List.takeWhile_cons, hx]
      rw [e, List.take_succ_cons, List.drop_succ_cons]
      exact ⟨fun p hp => by rcases List.mem_cons.mp hp with rfl | hp; exact hx; exact q1 p hp, q2⟩
    · have e : lbP (x :: l) t = 0 := by simp [lbP, List.takeWhile_cons, hx]
      rw [e]
      exact ⟨by simp, fun p hp => by
        rw [List.drop_zero] at hp
        rcases List.mem_cons.mp hp with rfl | hp
        · omega
        · have := h1 p hp; omega⟩
theorem lbP_lt {l : List (Int × Int)} {t : Int} (h : Asc l) {i : Nat} (hi : i < l.length) (hq : i < lbP l t) : l[i].1 < t := (YaH h).1 _ (by
  rw [List.mem_take_iff_getElem]
  exact ⟨i, by omega, rfl⟩)
theorem lbP_ge {l : List (Int × Int)} {t : Int} (h : Asc l) {i : Nat} (hi : i < l.length) (hq : lbP l t ≤ i) : t ≤ l[i].1 := (YaH h).2 _ (by
  rw [List.mem_drop_iff_getElem]
  exact ⟨i - lbP l t, by omega, by congr 1; omega⟩)
def hitP (l : List (Int × Int)) (t : Int) : Bool := match l[lbP l t]? with | some p => p.1 == t | none => false
theorem move2_fv {x n t : Int} {k : Nat} {β : Type} (K : Int → Option β) : Yau.f k x n t K = K (if x < t then -1 else if t < x then 1 else 0) := Yau.f_of (by
  unfold Yau.t Yau.g
  rw [cmpI_fv]) K
set_option maxRecDepth 100000 in
theorem bin_fv {l : List (Int × Int)} {t : Int} (hl : l.length ≤ 1048576) (ha : Asc l) {k : Nat} (hk : Z3 k) {β : Type} (K : Int → Bool → Option β) : Ya.f k (ofP l) t K = K (lbP l t : Int) (hitP l t) := by
  have hb : big = 2 ^ 64 := rfl
  have hle := lbP_le l t
  refine Ya.f_of ?_ K
  unfold Ya.t Ya.g
  refine iter_val (fun v : Int × Int => (v.2 - v.1).toNat) (fun v => 0 ≤ v.1 ∧ v.1 ≤ (lbP l t : Int) ∧ (lbP l t : Int) ≤ v.2 ∧ v.2 ≤ (l.length : Int)) (fun _ => some ((lbP l t : Int), hitP l t)) ?_ k _ ?_ ?_
  · rintro ⟨i, j⟩ ⟨i0, i1, j0, j1⟩ L hL
    simp only [] at i0 i1 j0 j1 hL
    simp only [Ya.l0, atR, rdQ, Q.ask]
    by_cases h : i < j
    · obtain ⟨m, hm⟩ : ∃ m : Nat, (i + j) / 2 = (m : Int) := ⟨((i + j) / 2).toNat, by omega⟩
      rw [ZQ h]
      simp only [cond_true]
      rw [half_eq (by omega) (by omega), hm, Zj (x := (m : Int)) (by omega) (by omega), ZaP (by decide), YaA (by omega)]
      simp only [ZY, Zad, Z6, move2_fv]
      by_cases hq : l[m].1 < t
      · have : m < lbP l t := by
          rcases Nat.lt_or_ge m (lbP l t) with h | h
          · exact h
          · have := lbP_ge ha (by omega) h; omega
        rw [if_pos hq, ZQ (show (-1 : Int) < 0 by decide), cond_true, Zj (by omega) (by omega)]
        exact hL _ ⟨by show 0 ≤ (m : Int) + 1; omega, by show (m : Int) + 1 ≤ _; omega, j0, j1⟩ (by simp only []; omega)
      · have : lbP l t ≤ m := by
          rcases Nat.lt_or_ge m (lbP l t) with h | h
          · have := lbP_lt ha (show m < l.length by omega) h; omega
          · exact h
        rw [if_neg hq, ZV (show ¬ (if t < l[m].1 then (1 : Int) else 0) < 0 by split <;> decide), cond_false]
        exact hL _ ⟨i0, i1, by show _ ≤ (m : Int); omega, by show (m : Int) ≤ _; omega⟩ (by simp only []; omega)
    · rw [ZV h]
      simp only [cond_false, Yay]
      obtain rfl : i = (lbP l t : Int) := by omega
      unfold hitP
      by_cases hlt : lbP l t < l.length
      · rw [ZQ (show (lbP l t : Int) < (l.length : Int) by omega), cond_true, YaA hlt, List.getElem?_eq_getElem hlt]
        simp only [ZY, Zad, Z6, move2_fv]
        have := lbP_ge ha hlt (Nat.le_refl _)
        by_cases he : l[lbP l t].1 = t
        · simp [he]
        · rw [if_neg (by omega), if_pos (by omega), show ((1 : Int) == 0) = false from rfl, show (l[lbP l t].1 == t) = false from by simpa using he]
      · rw [ZV (show ¬ (lbP l t : Int) < (l.length : Int) by omega), cond_false, List.getElem?_eq_none (by omega)]
  · simp only [Yay]
    omega
  · simp only [Yay]
    unfold Z3 at hk
    omega
theorem hit_true {l : List (Int × Int)} {t : Int} (h : hitP l t = true) : ∃ hlt : lbP l t < l.length, l[lbP l t].1 = t := by
  unfold hitP at h
  split at h
  · rename_i p hp
    obtain ⟨h1, h2⟩ := List.getElem?_eq_some_iff.mp hp
    exact ⟨h1, by rw [h2]; simpa using h⟩
  · cases h
theorem hit_false {l : List (Int × Int)} {t : Int} (ha : Asc l) (h : hitP l t = false) : ∀ p ∈ l, p.1 ≠ t := by
  intro p hp e
  obtain ⟨q1, q2⟩ := YaH (t := t) ha
  have hp' : p ∈ l.take (lbP l t) ++ l.drop (lbP l t) := by rw [List.take_append_drop]; exact hp
  rcases List.mem_append.mp hp' with h1 | h1
  · have := q1 p h1; omega
  · obtain ⟨i, hi, hpi⟩ := List.mem_drop_iff_getElem.mp h1
    have hlt : lbP l t < l.length := by omega
    have h0 := lbP_ge ha hlt (Nat.le_refl _)
    have : i = 0 := by
      rcases Nat.eq_zero_or_pos i with h | h
      · exact h
      · have := List.pairwise_iff_getElem.mp ha (lbP l t) (lbP l t + i) hlt (by omega) (by omega)
        have e2 : l[lbP l t + i].1 = t := by rw [hpi, e]
        omega
    subst this
    unfold hitP at h
    rw [List.getElem?_eq_getElem hlt] at h
    simp only [Nat.add_zero] at hpi
    simp [hpi, e] at h
theorem Yv.f_of {β : Type} {k : Nat} {xs : List (List C)} {i : Int} {ys z0 : List (List C)} (h : Yv.t k xs i ys = some z0) (K : (List (List C)) → Option β) : Yv.f k xs i ys K = K z0 := by
  unfold Yv.f
  rw [h]
theorem YA.f_of {β : Type} {k : Nat} {aA : ByteArray} {aB aH : Int} {aF aD : List (List D)} {z0 : ByteArray} {z1 z2 : Int} {z3 z4 : List (List C)} {z5 z6 : Int} (h : YA.t k aA aB aH aF aD = some (z0, z1, z2, z3, z4, z5, z6)) (K : ByteArray → Int → Int → (List (List C)) → (List (List C)) → Int → Int → Option β) : YA.f k aA aB aH aF aD K = K z0 z1 z2 z3 z4 z5 z6 := by
  unfold YA.f
  rw [h]
theorem YA.tm {ι α : Type} {ok : ι → Prop} {ψ : α → Prop} {p : ι → Nat} {B : Nat} (hp : ∀ i, ok i → B ≤ p i) {aA : ByteArray} {aB aH : Int} {aF aD : List (List D)} {φ : ByteArray × Int × Int × (List (List C)) × (List (List C)) × Int × Int → Prop} (h : Tm (fun k => B ≤ k) (fun k => YA.t k aA aB aH aF aD) φ) {G : ι → ByteArray → Int → Int → (List (List C)) → (List (List C)) → Int → Int → Option α} (hG : ∀ z0 z1 z2 z3 z4 z5 z6, φ (z0, z1, z2, z3, z4, z5, z6) → Tm ok (fun ι0 => G ι0 z0 z1 z2 z3 z4 z5 z6) ψ) : Tm ok (fun ι0 => YA.f (p ι0) aA aB aH aF aD (G ι0)) ψ := by
  obtain ⟨⟨z0, z1, z2, z3, z4, z5, z6⟩, h1, h2⟩ := h
  exact (hG z0 z1 z2 z3 z4 z5 z6 h1).congr fun i0 hi0 => YA.f_of (h2 (p i0) (hp i0 hi0)) _
theorem isle_parts {a0 : ByteArray} {a1 a2 : Int} {a3 : List (List D)} {l : List (Int × Int)} (g0 : a0.size ≤ lim) (g3 : Zi Yc lim a3) (g4 : Zi RII lim (ofP l)) (h : YT.v a0 a1 a2 a3 (ofP l) = true) : runsB (ofP l) 1 = true ∧ Yk.v a3 = true ∧ l.length ≤ 80 := by
  have hk : ZF 1 (lv 1) := Nat.le_refl _
  have ht := YT.tv (aB := a1) (aH := a2) g0 g3 g4 hk
  have hk0 : Z3 (lv 1) := up0 hk
  rw [h] at ht
  unfold YT.t YT.g at ht
  simp only [Yo.fv g0 hk0, l1In_fv, Yk.fv g3 hk, l11Runs_fv g4 hk0, Yay] at ht
  by_cases h80 : (l.length : Int) ≤ 80
  · generalize Yo.v a0 = b1 at ht
    generalize inB a1 0 10000 = b2 at ht
    generalize inB a2 0 1000000 = b3 at ht
    generalize Yk.v a3 = b4 at ht ⊢
    generalize runsB (ofP l) 1 = b5 at ht ⊢
    cases b1 <;> cases b2 <;> cases b3 <;> cases b4 <;> cases b5 <;> simp at ht ⊢
    omega
  · rw [ZV h80] at ht
    generalize Yo.v a0 = b1 at ht
    generalize inB a1 0 10000 = b2 at ht
    generalize inB a2 0 1000000 = b3 at ht
    generalize Yk.v a3 = b4 at ht
    cases b1 <;> cases b2 <;> cases b3 <;> cases b4 <;> simp at ht
theorem runs_pairs {l : List (Int × Int)} (h : runsB (ofP l) 1 = true) : Asc l ∧ ∀ p ∈ l, 1 ≤ p.2 ∧ p.2 ≤ 10000 ∧ 1 ≤ p.1 ∧ p.1 ≤ 1000000 := by
  unfold runsB at h
  rw [List.all_eq_true] at h
  have hp : ∀ i (hi : i < l.length), (1 ≤ l[i].2 ∧ l[i].2 ≤ 10000 ∧ 1 ≤ l[i].1 ∧ l[i].1 ≤ 1000000) ∧ ∀ h0 : 0 < i, l[i - 1].1 < l[i].1 := fun i hi => by
    have := h i (by rw [List.mem_range, Yay]; exact hi)
    unfold runP inB at this
    rw [gI_ofP0 hi, gI_ofP1 hi] at this
    simp only [Bool.and_eq_true, Bool.or_eq_true, Bool.not_eq_true', decide_eq_true_eq, decide_eq_false_iff_not] at this
    refine ⟨⟨this.2.1.1, this.2.1.2, this.1.1, this.1.2⟩, fun h0 => ?_⟩
    rw [show ((i : Int) - 1) = ((i - 1 : Nat) : Int) by omega, gI_ofP0 (by omega)] at this
    rcases this.2.2 with q | q <;> omega
  have hd : ∀ d i (hi : i + d + 1 < l.length), l[i].1 < l[i + d + 1].1 := fun d => by
    induction d with
    | zero => intro i hi; have := (hp (i + 1) hi).2 (by omega); simpa using this
    | succ d ih =>
      intro i hi
      have h1 := ih i (by omega)
      have h2 := (hp (i + (d + 1) + 1) hi).2 (by omega)
      simp only [Nat.add_sub_cancel] at h2
      have e : i + (d + 1) = i + d + 1 := by omega
      simp only [e] at h2 ⊢
      omega
  refine ⟨List.pairwise_iff_getElem.mpr fun i j hi hj hij => ?_, fun p hpm => ?_⟩
  · have := hd (j - i - 1) i (by omega)
    have e : i + (j - i - 1) + 1 = j := by omega
    simp only [e] at this
    exact this
  · obtain ⟨i, hi, rfl⟩ := List.mem_iff_getElem.mp hpm
    exact (hp i hi).1
noncomputable def worksP (a : List (List D)) (i : Nat) : Bool := inB (gI a (i : Int) 0) 1 1000000 && (inB (gI a (i : Int) 1) 1 10000 && (valB (gI a (i : Int) 2) (gS a (i : Int) 3) (gI a (i : Int) 4) (gL a (i : Int) 5) (gL a (i : Int) 6) && (!decide ((i : Int) > 0) || !decide (gI a ((i : Int) - 1) 0 ≥ gI a (i : Int) 0))))
set_option maxRecDepth 100000 in
theorem works_low {a : List (List D)} (g : Zi Yc lim a) (h : Yk.v a = true) : ∀ i, i < a.length → worksP a i = true := by
  have hl := g.1
  have hlim : lim = 1048576 := rfl
  have hb : big = 2 ^ 64 := rfl
  have hb1 : lv 1 = 2 ^ 65 := rfl
  have hk : ZF 1 (lv 1) := Nat.le_refl _
  have ht := Yk.tv g hk
  rw [h] at ht
  unfold Yk.t Yk.g at ht
  rw [Zb6 (n := a.length) (worksP a) (r1 := some false) (r2 := some (decide ((a.length : Int) ≤ 40))) (by omega)] at ht
  · cases hq : (List.range a.length).all (worksP a) with
    | false => rw [hq] at ht; simp at ht
    | true =>
      rw [List.all_eq_true] at hq
      exact fun i hi => hq i (List.mem_range.mpr hi)
  · intro L i hi
    obtain ⟨-, -, -, -, k3, -, k5, k6, -⟩ := Yc.get g (v := (i : Int)) (by omega) (by omega)
    unfold worksP
    simp (disch := omega) only [Yk.l0, atR, rdQ, Q.ask, ZQ (show (i : Int) < a.length by omega), cond_true, Yc.row g, ZY, Zad, Zaj, Za7, Z6, l1In_fv, spec_ValueOk_fv k3 k5 k6 hk, Zj]
    by_cases h0 : (i : Int) > 0
    · simp (disch := omega) only [ZQ h0, cond_true, Yc.row g, ZY, Zad, Zaj, Za7, Z6, Zj]
      cases inB (gI a (i : Int) 0) 1 1000000 <;> cases inB (gI a (i : Int) 1) 1 10000 <;> cases valB (gI a (i : Int) 2) (gS a (i : Int) 3) (gI a (i : Int) 4) (gL a (i : Int) 5) (gL a (i : Int) 6) <;> cases decide (gI a ((i : Int) - 1) 0 ≥ gI a (i : Int) 0) <;> rfl
    · simp only [ZV h0, cond_false]
      cases inB (gI a (i : Int) 0) 1 1000000 <;> cases inB (gI a (i : Int) 1) 1 10000 <;> cases valB (gI a (i : Int) 2) (gS a (i : Int) 3) (gI a (i : Int) 4) (gL a (i : Int) 5) (gL a (i : Int) 6) <;> rfl
  · intro L
    simp [Yk.l0, atR, rdQ, Q.ask]
def runN (l : List (Int × Int)) (uid : Int) : Int := match l.find? fun p => p.1 == uid with | some p => p.2 | none => 0
set_option maxRecDepth 100000 in
theorem l11Run_fv {l : List (Int × Int)} {uid : Int} (hl : l.length ≤ 1048576) {k : Nat} (hk : Z3 k) {β : Type} (K : Int → Bool → Option β) : Y7.f k (ofP l) uid K = K (runN l uid) (l.any fun p => p.1 == uid) := by
  have hb : big = 2 ^ 64 := rfl
  refine Y7.f_of ?_ K
  unfold Y7.t Y7.g
  refine (iter_val (fun v : Int => ((l.length : Int) - v).toNat) (fun v => 0 ≤ v ∧ v ≤ (l.length : Int) ∧ ∀ p ∈ l.take v.toNat, (p.1 == uid) = false) (fun _ => some (runN l uid, l.any fun p => p.1 == uid)) ?_ k 0 ⟨by omega, by omega, by simp⟩ (by unfold Z3 at hk; omega))
  rintro v ⟨v0, v1, hv⟩ L hL
  obtain ⟨i, rfl⟩ : ∃ i : Nat, v = (i : Int) := ⟨v.toNat, by omega⟩
  simp only [Int.toNat_natCast] at hv
  simp only [Y7.l0, atR, rdQ, Q.ask, Yay]
  have hs : l = l.take i ++ l.drop i := (List.take_append_drop i l).symm
  have hf : (l.take i).find? (fun p => p.1 == uid) = none := by rw [List.find?_eq_none]; intro p hp; rw [hv p hp]; simp
  have ha : (l.take i).any (fun p => p.1 == uid) = false := by rw [List.any_eq_false]; intro p hp; rw [hv p hp]; simp
  by_cases h : i < l.length
  · rw [ZQ (show (i : Int) < (l.length : Int) by omega)]
    simp only [cond_true, YaA h, ZY, Zad, Z6]
    have hd : l.drop i = l[i] :: l.drop (i + 1) := (List.getElem_cons_drop h).symm
    cases hq : l[i].1 == uid with
    | true =>
      simp only [cond_true]
      congr 2
      · unfold runN
        conv => rhs; rw [hs, List.find?_append, hf, hd, List.find?_cons_of_pos (by simpa using hq)]
        rfl
      · conv => rhs; rw [hs, List.any_append, ha, hd, List.any_cons, hq]
        rfl
    | false =>
      simp only [cond_false]
      rw [Zj (by omega) (by omega)]
      refine hL _ ⟨by omega, by omega, fun p hp => ?_⟩ (by omega)
      rw [show ((i : Int) + 1).toNat = i + 1 by omega, List.take_add_one, List.getElem?_eq_getElem h] at hp
      rcases List.mem_append.mp hp with hp | hp
      · exact hv p hp
      · simp at hp; subst hp; exact hq
  · rw [ZV (show ¬ (i : Int) < (l.length : Int) by omega)]
    simp only [cond_false]
    have he : l.take i = l := List.take_of_length_le (by omega)
    rw [he] at hf ha
    unfold runN
    rw [hf, ha]
set_option maxRecDepth 100000 in
theorem l13Put_fv {l : List (Int × Int)} {uid n : Int} (hl : l.length ≤ 1048576) {k : Nat} (hk : Z3 k) {β : Type} (K : List (List C) → Option β) : Y4.f k (ofP l) uid n K = K (upP (Yaz uid n (n == 0) l)) := by
  have hb : big = 2 ^ 64 := rfl
  have hm : ZN = 2 ^ 36 := rfl
  refine Y4.f_of ?_ K
  unfold Y4.t Y4.g
  have one : ∀ u m : Int, ([[.d (.int .i64 u), .d (.int .i64 m)]] : List (List C)) = upP [(u, m)] := fun _ _ => rfl
  refine (iter_val (fun v : Bool × Int × List (List C) => ((l.length : Int) - v.2.1).toNat) (fun v => 0 ≤ v.2.1 ∧ v.2.1 ≤ (l.length : Int) ∧ ∃ q, v.2.2 = upP q ∧ q.length ≤ v.2.1.toNat + 1 ∧ (v.1 = false → q.length ≤ v.2.1.toNat) ∧ q ++ Yaz uid n v.1 (l.drop v.2.1.toNat) = Yaz uid n (n == 0) l) (fun _ => some (upP (Yaz uid n (n == 0) l))) ?_ k _ ⟨by simp, by simp, [], rfl, by simp, by simp, by simp⟩ (by unfold Z3 at hk; simp only []; omega))
  rintro ⟨b, v, out⟩ ⟨v0, v1, q, hq, hql, hqf, hv⟩ L hL
  simp only [] at v0 v1 hq hql hqf hv hL
  subst hq
  obtain ⟨i, rfl⟩ : ∃ i : Nat, v = (i : Int) := ⟨v.toNat, by omega⟩
  simp only [Int.toNat_natCast] at hql hqf hv
  simp only [Y4.l0, atR, rdQ, Q.ask, Yay, one]
  by_cases h : i < l.length
  · rw [ZQ (show (i : Int) < (l.length : Int) by omega)]
    rw [(List.getElem_cons_drop h).symm] at hv
    simp only [Yaz] at hv
    have hw : IntKind.wrap .i64 ((i : Int) + 1) = (i : Int) + 1 := Zj (by omega) (by omega)
    have ht : ((i : Int) + 1).toNat = i + 1 := by omega
    simp only [cond_true, YaA h, ZY, Zad, Z6, upP_app, hw]
    cases b with
    | false =>
      have hqf' := hqf rfl
      by_cases h1 : uid ≤ l[i].1
      · simp only [h1, and_self, if_true, Bool.false_or, decide_true] at hv
        rw [ZQ (show l[i].1 ≥ uid from h1)]
        simp only [Bool.not_false, cond_true]
        rw [ZaP (by simp only [YaB, List.length_singleton]; omega)]
        by_cases h2 : l[i].1 = uid
        · rw [if_pos h2] at hv
          rw [show (l[i].1 != uid) = false by simp [h2]]
          simp only [cond_false]
          exact hL _ ⟨by simp only []; omega, by simp only []; omega, q ++ [(uid, n)], rfl, by simp only [ht, List.length_append, List.length_singleton]; omega, by simp, by simp only [ht]; rw [← hv]; simp⟩ (by simp only []; omega)
        · rw [if_neg h2] at hv
          rw [show (l[i].1 != uid) = true by simp [h2]]
          simp only [cond_true]
          rw [ZaP (by simp only [YaB, List.length_append, List.length_singleton]; omega)]
          exact hL _ ⟨by simp only []; omega, by simp only []; omega, q ++ [(uid, n)] ++ [(l[i].1, l[i].2)], rfl, by simp only [ht, List.length_append, List.length_singleton]; omega, by simp, by simp only [ht]; rw [← hv]; simp⟩ (by simp only []; omega)
      · simp only [h1, and_false, if_false, List.nil_append, Bool.false_or, decide_false] at hv
        rw [ZV (show ¬ l[i].1 ≥ uid from h1)]
        have h2 : ¬ l[i].1 = uid := by omega
        rw [if_neg h2] at hv
        rw [show (l[i].1 != uid) = true by simp [h2]]
        simp only [Bool.not_false, cond_true, cond_false]
        rw [ZaP (by simp only [YaB, List.length_singleton]; omega)]
        exact hL _ ⟨by simp only []; omega, by simp only []; omega, q ++ [(l[i].1, l[i].2)], rfl, by simp only [ht, List.length_append, List.length_singleton]; omega, fun _ => by simp only [ht, List.length_append, List.length_singleton]; omega, by simp only [ht]; rw [← hv]; simp⟩ (by simp only []; omega)
    | true =>
      simp only [Bool.true_eq_false, false_and, if_false, List.nil_append, Bool.true_or] at hv
      simp only [Bool.not_true, cond_false]
      by_cases h2 : l[i].1 = uid
      · rw [if_pos h2, List.nil_append] at hv
        rw [show (l[i].1 != uid) = false by simp [h2]]
        simp only [cond_false]
        exact hL _ ⟨by simp only []; omega, by simp only []; omega, q, rfl, by simp only [ht]; omega, by simp, by simp only [ht]; exact hv⟩ (by simp only []; omega)
      · rw [if_neg h2] at hv
        rw [show (l[i].1 != uid) = true by simp [h2]]
        simp only [cond_true]
        rw [ZaP (by simp only [YaB, List.length_singleton]; omega)]
        exact hL _ ⟨by simp only []; omega, by simp only []; omega, q ++ [(l[i].1, l[i].2)], rfl, by simp only [ht, List.length_append, List.length_singleton]; omega, by simp, by simp only [ht]; rw [← hv]; simp⟩ (by simp only []; omega)
  · rw [ZV (show ¬ (i : Int) < (l.length : Int) by omega)]
    rw [List.drop_eq_nil_of_le (by omega)] at hv
    simp only [cond_false]
    cases b with
    | false =>
      simp only [Bool.not_false, cond_true, upP_app]
      rw [ZaP (by simp only [YaB, List.length_singleton]; have := hqf rfl; omega), ← hv]
      simp [Yaz]
    | true =>
      simp only [Bool.not_true, cond_false]
      rw [← hv]
      simp [Yaz]
section
variable {a0 : ByteArray} {a1 a2 : Int} {a3 : List (List D)} {l : List (Int × Int)}
noncomputable def overI (a0 : ByteArray) (a1 a2 : Int) (a3 : List (List D)) (l : List (Int × Int)) : Int := Zbo (fun i => decide (gI (ofP l) (i : Int) 1 > Yq.v a0 a1 a2 a3 (ofP l) (gI (ofP l) (i : Int) 0))) l.length
def lackP (a3 : List (List D)) (l : List (Int × Int)) (i : Nat) : Bool := decide (runN l (gI a3 (i : Int) 0) < gI a3 (i : Int) 1)
noncomputable def moveV (a0 : ByteArray) (a1 a2 : Int) (a3 : List (List D)) (l : List (Int × Int)) : List (Int × Int) × Int × Int :=
  bif YT.v a0 a1 a2 a3 (ofP l) then
    (bif decide (overI a0 a1 a2 a3 l ≥ 0) then (Yaz (gI (ofP l) (overI a0 a1 a2 a3 l) 0) (gI (ofP l) (overI a0 a1 a2 a3 l) 1 - 1) (gI (ofP l) (overI a0 a1 a2 a3 l) 1 - 1 == 0) l, gI (ofP l) (overI a0 a1 a2 a3 l) 0, -1)
    else (bif decide (Yl.v (ofP l) < a1) then
      (match (List.range a3.length).find? (lackP a3 l) with
      | some i => (Yaz (gI a3 (i : Int) 0) (runN l (gI a3 (i : Int) 0) + 1) (runN l (gI a3 (i : Int) 0) + 1 == 0) l, gI a3 (i : Int) 0, 1)
      | none => (l, 0, 0)) else (l, 0, 0)))
  else (l, 0, 0)
def moveR (a0 : ByteArray) (a1 a2 : Int) (a3 : List (List D)) (z : List (Int × Int) × Int × Int) : ByteArray × Int × Int × List (List C) × List (List C) × Int × Int := (a0, a1, a2, Zb a3, upP z.1, z.2.1, z.2.2)
theorem runN_mem {l : List (Int × Int)} {uid : Int} (h : ∀ p ∈ l, 1 ≤ p.2 ∧ p.2 ≤ 10000) : 0 ≤ runN l uid ∧ runN l uid ≤ 10000 := by
  unfold runN
  split
  · rename_i p hp
    have := h p (List.mem_of_find?_eq_some hp)
    omega
  · omega
set_option maxRecDepth 100000 in
theorem spec_Move_t (g0 : a0.size ≤ lim) (g3 : Zi Yc lim a3) (g4 : Zi RII lim (ofP l)) {k : Nat} (hk : ZF 1 k) : Y6.t k a0 a1 a2 a3 (ofP l) = some (moveR a0 a1 a2 a3 (moveV a0 a1 a2 a3 l)) := by
  have hk0 : Z3 k := up0 hk
  have hb : big = 2 ^ 64 := rfl
  have hlim : lim = 1048576 := rfl
  have l4 := g4.1
  have l3 := g3.1
  rw [Yay] at l4
  unfold Y6.t Y6.g Y6.m; simp only [atR, rdQ, Q.ask]
  rw [l13Copy_fv g3 g4 hk, YT.fv g0 g3 g4 hk, ofP_up]
  unfold moveV
  cases hok : YT.v a0 a1 a2 a3 (ofP l) with
  | false => rfl
  | true =>
    obtain ⟨hr, hw, h80⟩ := isle_parts g0 g3 g4 hok
    obtain ⟨hasc, hlow⟩ := runs_pairs hr
    have hover : ∀ {β : Type} (K : Int → Option β), YU.f k a0 a1 a2 a3 (ofP l) K = K (overI a0 a1 a2 a3 l) := fun K => YU.f_of (by
      unfold YU.t YU.g overI
      refine iter_findI (n := l.length) _ some (by unfold Z3 at hk0; omega) (fun L i hi => ?_) (fun L => by simp [YU.l0, atR, rdQ, Q.ask, Yay])
      simp (disch := omega) only [YU.l0, atR, rdQ, Q.ask, Yay, ZQ (show (i : Int) < l.length by omega), cond_true, YaA hi, ZY, Zad, Z6, Yq.fv g0 g3 g4 hk0, gI_ofP0 hi, gI_ofP1 hi, Zj]) K
    simp only [Bool.not_true, cond_false, cond_true, hover]
    by_cases ho : overI a0 a1 a2 a3 l ≥ 0
    · rw [ZQ ho]
      obtain ⟨h1, h2, h3, h4⟩ := findI_some (p := fun i => decide (gI (ofP l) (i : Int) 1 > Yq.v a0 a1 a2 a3 (ofP l) (gI (ofP l) (i : Int) 0))) (n := l.length) ho
      change (overI a0 a1 a2 a3 l).toNat < l.length at h1
      change (((overI a0 a1 a2 a3 l).toNat : Nat) : Int) = overI a0 a1 a2 a3 l at h3
      generalize overI a0 a1 a2 a3 l = v at *
      obtain ⟨i, rfl⟩ : ∃ i : Nat, v = (i : Int) := ⟨v.toNat, by omega⟩
      simp only [Int.toNat_natCast] at h1
      have hp := hlow l[i] (List.getElem_mem h1)
      simp only [cond_true, YaA h1, ZY, Zad, Z6, gI_ofP0 h1, gI_ofP1 h1]
      rw [Zj (by omega) (by omega), l13Put_fv (by omega) hk0]
      rfl
    · rw [ZV ho]
      simp only [cond_false]
      by_cases hs : Yl.v (ofP l) < a1
      · rw [ZQ hs]
        simp only [cond_true]
        refine (iter_find (n := a3.length) (lackP a3 l) (r1 := fun i => some (moveR a0 a1 a2 a3 (Yaz (gI a3 (i : Int) 0) (runN l (gI a3 (i : Int) 0) + 1) (runN l (gI a3 (i : Int) 0) + 1 == 0) l, gI a3 (i : Int) 0, 1))) (r2 := some (moveR a0 a1 a2 a3 (l, 0, 0))) (by unfold Z3 at hk0; omega) (fun L i hi => ?_) (fun L => ?_)).trans ?_
        · have hn := runN_mem (uid := gI a3 (i : Int) 0) fun p hp => ⟨(hlow p hp).1, (hlow p hp).2.1⟩
          simp (disch := omega) only [Y6.l0, atR, rdQ, Q.ask, ZQ (show (i : Int) < a3.length by omega), cond_true, Yl.fv g4 hk0, ZQ hs, Yc.row g3, ZY, Zad, Zaj, Za7, Z6, l11Run_fv (show l.length ≤ 1048576 by omega) hk0, Zj, l13Put_fv (show l.length ≤ 1048576 by omega) hk0]
          rfl
        · simp only [Y6.l0, atR, rdQ, Q.ask, ZV (show ¬ (a3.length : Int) < a3.length by omega), cond_false]
          rfl
        · cases (List.range a3.length).find? (lackP a3 l) <;> rfl
      · rw [ZV hs, iter_step (by unfold Z3 at hk0; omega)]
        simp only [Y6.l0, atR, rdQ, Q.ask, Yl.fv g4 hk0, ZV hs, cond_false]
        cases decide ((0 : Int) < a3.length) <;> rfl
set_option maxRecDepth 100000 in
theorem wants_fv (g0 : a0.size ≤ lim) (g3 : Zi Yc lim a3) (g4 : Zi RII lim (ofP l)) {uid : Int} {k : Nat} (hk : Z3 k) {β : Type} (K : Int → Option β) : Y9.f k a0 a1 a2 a3 (ofP l) uid K = K (Yq.v a0 a1 a2 a3 (ofP l) uid) := Y9.f_of (by
  rw [← Yq.tv (aB := a1) (aH := a2) (a1 := uid) g0 g3 g4 hk]
  unfold Y9.t Yq.t Y9.g Yq.g
  refine congrArg (fun b => Zo b k 0) (funext fun L => funext fun v => ?_)
  simp only [Y9.l0, atR, rdQ, Q.ask, Yq.l0, atR, rdQ, Q.ask]
  refine bif_congr (fun h => ?_) (fun _ => rfl)
  by_cases h0 : 0 ≤ v ∧ v < a3.length
  · obtain ⟨h0, h1⟩ := h0
    simp (disch := omega) only [Yc.row g3, ZY, Zaj, Zad, Za7, Z6]
  · simp only [atRow_none h0]) K
set_option maxRecDepth 100000 in
theorem running_fv (g4 : Zi RII lim (ofP l)) {k : Nat} (hk : Z3 k) {β : Type} (K : Int → Option β) : YG.f k a0 a1 a2 a3 (ofP l) K = K (Yl.v (ofP l)) := YG.f_of (by
  rw [← Yl.tv g4 hk]
  unfold YG.t Yl.t YG.g Yl.g
  refine congrArg (fun b => Zo b k (0, 0)) (funext fun L => funext fun v => ?_)
  simp only [YG.l0, atR, rdQ, Q.ask, Yl.l0, atR, rdQ, Q.ask]) K
theorem modP {l : List (Int × Int)} {i : Nat} {m : Int} (h : i < l.length) : ((upP l).modify i fun c => Zq c 1 [.d (.int .i64 m)]) = upP (l.take i ++ (l[i].1, m) :: l.drop (i + 1)) := by
  have e : upP l = upP (l.take i) ++ [.d (.int .i64 l[i].1), .d (.int .i64 l[i].2)] :: upP (l.drop (i + 1)) := by
    have : upP (l.take i ++ l[i] :: l.drop (i + 1)) = upP l := by rw [List.getElem_cons_drop, List.take_append_drop]
    rw [← this]
    simp only [upP, List.map_append, List.map_cons]
  rw [e, Zaf (by rw [YaB, List.length_take]; omega)]
  simp [upP, Zq]
theorem atNat_upP {l : List (Int × Int)} {i : Nat} (h : i < l.length) {β : Type} (F : List C → Option β) : ZaG (upP l) i F = F [.d (.int .i64 l[i].1), .d (.int .i64 l[i].2)] := by
  simp [ZaG, upP, h]
set_option maxRecDepth 100000 in
theorem delRun_fv {l : List (Int × Int)} (hl : l.length ≤ 1048576) {k : Nat} (hk : Z3 k) {β : Type} (K : List (List C) → Option β) : Ye.f k (upP l) K = K (upP (l.filter fun p => !(p.2 == 0))) := by
  have hb : big = 2 ^ 64 := rfl
  refine Ye.f_of ?_ K
  have hs : ∀ {x y : Int} {β : Type} (K : Bool → Option β), Yaj.f k x y K = K (y == 0) := fun K => Yaj.f_of (by unfold Yaj.t Yaj.g; rfl) K
  have ht : ∀ {x y : Int}, Yaj.t k x y = some (y == 0) := by intro x y; unfold Yaj.t Yaj.g; rfl
  let q : List D → Bool := fun r => match r with | [_, .int _ n] => n == 0 | _ => false
  unfold Ye.t
  rw [← deep_ofP, delK_deep (q := q) (by rw [Yay]; exact hl)]
  · congr 1
    rw [← deep_ofP]
    congr 1
    unfold ofP
    rw [List.filter_map]
    congr 1
  · unfold Yd.t Yd.g
    rw [Yay]
    refine iter_findI (n := l.length) _ some (by unfold Z3 at hk; omega) (fun L i hi => ?_) (fun L => by simp [Yd.l0, atR, rdQ, Q.ask])
    simp (disch := omega) only [Yd.l0, atR, rdQ, Q.ask, ZQ (show (i : Int) < l.length by omega), cond_true, YaA hi, ZY, Zad, Z6, hs, Zj, gR_ofP hi]
    rfl
  · intro r hr
    simp only [ofP, List.mem_map] at hr
    obtain ⟨p, hp, rfl⟩ := hr
    exact ht
theorem insRun_fv {l : List (Int × Int)} {u m : Int} {i : Nat} (hi : i ≤ l.length) (hl : l.length ≤ 1048576) {k : Nat} {β : Type} (K : List (List C) → Option β) : Yv.f k (upP l) (i : Int) ([[.d (.int .i64 u), .d (.int .i64 m)]] : List (List C)) K = K (upP (l.take i ++ (u, m) :: l.drop i)) := Yv.f_of (by
  have hm : ZN = 2 ^ 36 := rfl
  unfold Yv.t
  rw [ZaP ⟨by omega, by rw [YaB]; omega, by rw [YaB, List.length_singleton]; omega⟩, Int.toNat_natCast]
  simp [upP, List.map_take, List.map_drop]) K
set_option maxRecDepth 100000 in
theorem impl_Move_t (g0 : a0.size ≤ lim) (g3 : Zi Yc lim a3) (g4 : Zi RII lim (ofP l)) {k : Nat} (hk : ZF 1 k) : YA.t k a0 a1 a2 a3 (ofP l) = some (moveR a0 a1 a2 a3 (moveV a0 a1 a2 a3 l)) := by
  have hk0 : Z3 k := up0 hk
  have hb : big = 2 ^ 64 := rfl
  have hlim : lim = 1048576 := rfl
  have l4 := g4.1
  have l3 := g3.1
  rw [Yay] at l4
  unfold YA.t YA.g YA.m
  rw [copyIsle_fv g3 g4 hk, IsleOkI g0 g3 g4 hk, ofP_up]
  unfold moveV
  cases hok : YT.v a0 a1 a2 a3 (ofP l) with
  | false => rfl
  | true =>
    obtain ⟨hr, hw, h80⟩ := isle_parts g0 g3 g4 hok
    obtain ⟨hasc, hlow⟩ := runs_pairs hr
    have hwl := works_low g3 hw
    simp only [Bool.not_true, cond_false, cond_true]
    refine (iter_find (n := l.length) (fun i => decide (gI (ofP l) (i : Int) 1 > Yq.v a0 a1 a2 a3 (ofP l) (gI (ofP l) (i : Int) 0))) (r1 := fun i => some (moveR a0 a1 a2 a3 (Yaz (gI (ofP l) (i : Int) 0) (gI (ofP l) (i : Int) 1 - 1) (gI (ofP l) (i : Int) 1 - 1 == 0) l, gI (ofP l) (i : Int) 0, -1)))
      (r2 := bif decide (Yl.v (ofP l) < a1) then (match (List.range a3.length).find? (lackP a3 l) with | some i => some (moveR a0 a1 a2 a3 (Yaz (gI a3 (i : Int) 0) (runN l (gI a3 (i : Int) 0) + 1) (runN l (gI a3 (i : Int) 0) + 1 == 0) l, gI a3 (i : Int) 0, 1)) | none => some (moveR a0 a1 a2 a3 (l, 0, 0))) else some (moveR a0 a1 a2 a3 (l, 0, 0))) (by unfold Z3 at hk0; omega) (fun L i hi => ?_) (fun L => ?_)).trans ?_
    · have hp := hlow l[i] (List.getElem_mem hi)
      simp (disch := omega) only [YA.l0, YA.m0, atR, rdQ, Q.ask, Yay, ZQ (show (i : Int) < l.length by omega), cond_true, YaA hi, ZY, Zad, Z6, wants_fv g0 g3 g4 hk0, gI_ofP0 hi, gI_ofP1 hi]
      refine bif_congr (fun _ => ?_) (fun _ => by rw [Zj (by omega) (by omega)])
      rw [ZaP ⟨by omega, by rw [YaB]; omega⟩, Int.toNat_natCast, atNat_upP hi]
      simp only [List.drop_succ_cons, List.drop_zero, ZY, cD_at, Zad]
      rw [ZaP ⟨by omega, by rw [YaB]; omega⟩, ZaP (by rw [YaB]; omega), Zj (by omega) (by omega), modP hi, delRun_fv (by simp; omega) hk0]
      have hs : l = l.take i ++ (l[i].1, l[i].2) :: l.drop (i + 1) := by
        have : l = l.take i ++ l[i] :: l.drop (i + 1) := by rw [List.getElem_cons_drop, List.take_append_drop]
        exact this
      have hA : ∀ p ∈ l.take i, (!(p.2 == 0)) = true := fun p hp => by have := hlow p (List.mem_of_mem_take hp); simp; omega
      have hB : ∀ p ∈ l.drop (i + 1), (!(p.2 == 0)) = true := fun p hp => by have := hlow p (List.mem_of_mem_drop hp); simp; omega
      have hasc' := hasc
      rw [hs] at hasc'
      rw [List.filter_append, List.filter_cons, List.filter_eq_self.mpr hA, List.filter_eq_self.mpr hB]
      unfold moveR
      congr 6
      by_cases h1 : l[i].2 - 1 = 0
      · rw [show (l[i].2 - 1 == 0) = true by simp [h1]]
        have := putR_drop (n := l[i].2 - 1) hasc'
        rw [← hs, h1] at this
        simp only [h1, this]
        rfl
      · rw [show (l[i].2 - 1 == 0) = false by simpa using h1]
        have := putR_set (n := l[i].2 - 1) hasc'
        rw [← hs] at this
        simp only [this, show (l[i].2 - 1 == 0) = false by simpa using h1]
        rfl
    · simp (disch := omega) only [YA.l0, YA.m0, atR, rdQ, Q.ask, Yay, ZV (show ¬ (l.length : Int) < l.length by omega), cond_false, running_fv g4 hk0]
      by_cases hs : Yl.v (ofP l) < a1
      · rw [ZQ hs, ZV (show ¬ Yl.v (ofP l) ≥ a1 by omega)]
        simp only [cond_true, cond_false]
        refine (iter_find (n := a3.length) (lackP a3 l) (r1 := fun i => some (moveR a0 a1 a2 a3 (Yaz (gI a3 (i : Int) 0) (runN l (gI a3 (i : Int) 0) + 1) (runN l (gI a3 (i : Int) 0) + 1 == 0) l, gI a3 (i : Int) 0, 1))) (r2 := some (moveR a0 a1 a2 a3 (l, 0, 0))) (by unfold Z3 at hk0; omega) (fun L i hi => ?_) (fun L => ?_))
        · have hwi := hwl i hi
          unfold worksP inB at hwi
          simp only [Bool.and_eq_true, decide_eq_true_eq] at hwi
          simp (disch := omega) only [YA.l1, atR, rdQ, Q.ask, ZQ (show (i : Int) < a3.length by omega), cond_true, Yc.row g3, ZY, Zad, Zaj, Za7, Z6, bin_fv (show l.length ≤ 1048576 by omega) hasc hk0]
          unfold lackP
          obtain ⟨uid, hu⟩ : ∃ u, u = gI a3 (i : Int) 0 := ⟨_, rfl⟩
          simp only [← hu]
          cases hh : hitP l uid with
          | false =>
            have hno := hit_false hasc hh
            have hn0 : runN l uid = 0 := by
              unfold runN
              rw [List.find?_eq_none.mpr fun p hp => by simpa using hno p hp]
            obtain ⟨q1, q2⟩ := YaH (t := uid) hasc
            have hnew := putR_new (uid := uid) (n := 1) q1 fun p hp => by
              have := q2 p hp
              have := hno p (List.mem_of_mem_drop hp)
              omega
            rw [List.take_append_drop] at hnew
            simp only [Bool.not_false, cond_true]
            rw [insRun_fv (lbP_le l uid) (by omega), hn0, ZQ (show (0 : Int) < gI a3 (i : Int) 1 by omega)]
            simp only [cond_true]
            rw [show ((0 : Int) + 1 == 0) = false from rfl, Int.zero_add, hnew]
            rfl
          | true =>
            obtain ⟨hlt, he⟩ := hit_true hh
            have hs : l = l.take (lbP l uid) ++ (l[lbP l uid].1, l[lbP l uid].2) :: l.drop (lbP l uid + 1) := by
              have : l = l.take (lbP l uid) ++ l[lbP l uid] :: l.drop (lbP l uid + 1) := by rw [List.getElem_cons_drop, List.take_append_drop]
              exact this
            have hp := hlow l[lbP l uid] (List.getElem_mem hlt)
            have hn : runN l uid = l[lbP l uid].2 := by
              have hf : (l.take (lbP l uid)).find? (fun p => p.1 == uid) = none := by
                rw [List.find?_eq_none]
                intro p hp
                have := (YaH (t := uid) hasc).1 p hp
                simp
                omega
              have : l.find? (fun p => p.1 == uid) = some (l[lbP l uid].1, l[lbP l uid].2) := by
                have e2 : (l.take (lbP l uid) ++ (l[lbP l uid].1, l[lbP l uid].2) :: l.drop (lbP l uid + 1)).find? (fun p => p.1 == uid) = some (l[lbP l uid].1, l[lbP l uid].2) := by
                  rw [List.find?_append, hf, List.find?_cons_of_pos (by simpa using he)]
                  rfl
                rwa [← hs] at e2
              unfold runN
              rw [this]
            have hasc' := hasc
            rw [hs] at hasc'
            have hset := putR_set (n := l[lbP l uid].2 + 1) hasc'
            rw [← hs, he] at hset
            simp only [Bool.not_true, cond_false, YaA hlt, ZY, Zad, Z6, hn]
            refine bif_congr (fun _ => ?_) (fun _ => by rw [Zj (by omega) (by omega)])
            rw [ZaP ⟨by omega, by rw [YaB]; omega⟩, Int.toNat_natCast, atNat_upP hlt]
            simp only [List.drop_succ_cons, List.drop_zero, ZY, cD_at, Zad]
            rw [ZaP ⟨by omega, by rw [YaB]; omega⟩, ZaP (by rw [YaB]; omega), Zj (by omega) (by omega), modP hlt, show (l[lbP l uid].2 + 1 == 0) = false by rw [beq_eq_false_iff_ne]; omega, hset, he]
            rfl
        · simp only [YA.l1, atR, rdQ, Q.ask, ZV (show ¬ (a3.length : Int) < a3.length by omega), cond_false]
          rfl
      · rw [ZV hs, ZQ (show Yl.v (ofP l) ≥ a1 by omega)]
        rfl
    · unfold overI Zbo
      cases hq : (List.range l.length).find? (fun i : Nat => decide (gI (ofP l) (i : Int) 1 > Yq.v a0 a1 a2 a3 (ofP l) (gI (ofP l) (i : Int) 0))) with
      | some i =>
        simp only []
        rw [ZQ (show (i : Int) ≥ 0 by omega)]
        rfl
      | none =>
        simp only []
        rw [ZV (show ¬ (-1 : Int) ≥ 0 by decide)]
        simp only [cond_false]
        cases decide (Yl.v (ofP l) < a1)
        · rfl
        · cases (List.range a3.length).find? (lackP a3 l) <;> rfl
theorem moveV_back (g0 : a0.size ≤ lim) (g3 : Zi Yc lim a3) (g4 : Zi RII lim (ofP l)) : Zi RII 2097152 (ofP (moveV a0 a1 a2 a3 l).1) ∧ (moveV a0 a1 a2 a3 l).1.length ≤ 2097152 := by
  have hlim : lim = 1048576 := rfl
  have l4 := g4.1
  rw [Yay] at l4
  have hw := ofP_wf g4
  have base : Zi RII 2097152 (ofP l) ∧ l.length ≤ 2097152 := ⟨ofP_ok (by omega) hw, by omega⟩
  have put : ∀ {u n : Int} {b : Bool}, (Lit.int .i64 u).wf = true → (Lit.int .i64 n).wf = true → Zi RII 2097152 (ofP (Yaz u n b l)) ∧ (Yaz u n b l).length ≤ 2097152 := fun {u n b} h1 h2 => by
    have := putR_len (uid := u) (n := n) b l
    refine ⟨ofP_ok (by omega) fun p hp => ?_, by omega⟩
    rcases putR_mem hp with rfl | hp
    · exact ⟨h1, h2⟩
    · exact hw p hp
  have wf : ∀ {n : Int}, -1 ≤ n → n ≤ 1000001 → (Lit.int .i64 n).wf = true := fun {n} h1 h2 => by simp [Lit.wf, IntKind.min, IntKind.max, IntKind.signed, IntKind.bits]; omega
  unfold moveV
  cases hok : YT.v a0 a1 a2 a3 (ofP l) with
  | false => exact base
  | true =>
    obtain ⟨hr, hwk, h80⟩ := isle_parts g0 g3 g4 hok
    obtain ⟨hasc, hlow⟩ := runs_pairs hr
    simp only [cond_true]
    by_cases ho : overI a0 a1 a2 a3 l ≥ 0
    · rw [ZQ ho]
      obtain ⟨h1, h2, h3, h4⟩ := findI_some (p := fun i => decide (gI (ofP l) (i : Int) 1 > Yq.v a0 a1 a2 a3 (ofP l) (gI (ofP l) (i : Int) 0))) (n := l.length) ho
      change (overI a0 a1 a2 a3 l).toNat < l.length at h1
      change (((overI a0 a1 a2 a3 l).toNat : Nat) : Int) = overI a0 a1 a2 a3 l at h3
      generalize overI a0 a1 a2 a3 l = v at *
      obtain ⟨i, rfl⟩ : ∃ i : Nat, v = (i : Int) := ⟨v.toNat, by omega⟩
      simp only [Int.toNat_natCast] at h1
      have hp := hlow l[i] (List.getElem_mem h1)
      simp only [cond_true, gI_ofP0 h1, gI_ofP1 h1]
      exact put (wf (by omega) (by omega)) (wf (by omega) (by omega))
    · rw [ZV ho]
      simp only [cond_false]
      cases decide (Yl.v (ofP l) < a1) with
      | false => exact base
      | true =>
        simp only [cond_true]
        split
        · rename_i i hi
          have hlt := List.mem_range.mp (List.mem_of_find?_eq_some hi)
          have hwi := works_low g3 hwk i hlt
          unfold worksP inB at hwi
          simp only [Bool.and_eq_true, decide_eq_true_eq] at hwi
          have hn := runN_mem (uid := gI a3 (i : Int) 0) fun p hp => ⟨(hlow p hp).1, (hlow p hp).2.1⟩
          exact put (wf (by omega) (by omega)) (wf (by omega) (by omega))
        · exact base
end
theorem Y6.T {aA : ByteArray} {aB aH : Int} {aF aD : List (List D)} (g0 : aA.size ≤ lim) (_ : (Lit.int .i64 aB).wf = true) (_ : (Lit.int .i64 aH).wf = true) (g3 : Zi Yc lim aF) (g4 : Zi RII lim aD) (w3 : Zp aF ≤ 67108864) :
    Tm (ZF 1) (fun k => Y6.t k aA aB aH aF aD) (fun z => z.1.size ≤ 2097152 ∧ Zi Yc 2097152 (C.immRows z.2.2.2.1) ∧ Zp (C.immRows z.2.2.2.1) ≤ 1125899906842624 ∧ Zi RII 2097152 (C.immRows z.2.2.2.2.1) ∧ Zp (C.immRows z.2.2.2.2.1) ≤ 1125899906842624 ∧ True) := by
  obtain ⟨l, rfl⟩ := ofP_of g4.2
  have hlim : lim = 1048576 := rfl
  refine Tm.of (fun k hk => spec_Move_t g0 g3 g4 hk) ?_
  obtain ⟨h1, h2⟩ := moveV_back (a1 := aB) (a2 := aH) g0 g3 g4
  unfold moveR
  simp only [ZO, imm_upP]
  exact ⟨by omega, Yc.wide g3, by omega, h1, by rw [RII.wt h1.2, Yay]; omega, trivial⟩
theorem YA.same {aA : ByteArray} {aB aH : Int} {aF aD : List (List D)} (g0 : aA.size ≤ lim) (_ : (Lit.int .i64 aB).wf = true) (_ : (Lit.int .i64 aH).wf = true) (g3 : Zi Yc lim aF) (g4 : Zi RII lim aD) (w3 : Zp aF ≤ 67108864) {k : Nat} (hk : ZF 1 k) {z0 : ByteArray} {z1 z2 : Int} {z3 z4 : List (List C)} {z5 z6 : Int}
    (hz : Y6.t k aA aB aH aF aD = some (z0, z1, z2, z3, z4, z5, z6)) : YA.t k aA aB aH aF aD = some (z0, z1, z2, Zb (C.immRows z3), Zb (C.immRows z4), z5, z6) := by
  obtain ⟨l, rfl⟩ := ofP_of g4.2
  rw [spec_Move_t g0 g3 g4 hk] at hz
  rw [impl_Move_t g0 g3 g4 hk, hz]
  injection hz with hz
  unfold moveR at hz
  simp only [Prod.mk.injEq] at hz
  obtain ⟨rfl, rfl, rfl, rfl, rfl, rfl, rfl⟩ := hz
  simp only [ZO, imm_upP, deep_ofP]
theorem YE.tm {ι α : Type} {ok : ι → Prop} {ψ : α → Prop} {p : ι → Nat} {B : Nat} (hp : ∀ i, ok i → B ≤ p i) {a0 a1 φ} (h : Tm (fun k => B ≤ k) (fun k => YE.t k a0 a1) φ) {G : ι → Bool → Option α} (hG : ∀ z0, φ z0 → Tm ok (fun i => G i z0) ψ) : Tm ok (fun i => YE.f (p i) a0 a1 (G i)) ψ := ZK (t := fun k => YE.t k a0 a1) hp h hG
set_option maxRecDepth 100000 in
theorem YE.T {B : Nat} {a0 : List (List D)} (ga0 : Zi RS B a0) (hB : B ≤ 1099511627776) : Tm Z3 (fun k => YE.t k a0 a0) (fun r => r = true) := by
  unfold YE.t YE.g
  have hm := Zy
  have hlim : lim = 1048576 := rfl
  have hlen := ga0.1
  refine Tm.ite (fun h1 => ?_) (fun h1 => ?_)
  · try simp only [bz0, bz1, bz2, bz3, bz4, bz5, bz6, bz7, bz8, bz9, bza] at h1
    exact Tm.ret (by first | rfl | (exfalso; simp [Zu] at *))
  · try simp only [bz0, bz1, bz2, bz3, bz4, bz5, bz6, bz7, bz8, bz9, bza] at h1
    refine Tm.loop (okk := Z3) (p := fun k => k) (fun i hi => hi) (b := fun k => YE.l0 k a0 a0 (fun z0 => some z0)) (fun i => (((a0.length : Int)) - i).toNat) (fun i => 0 ≤ i ∧ i ≤ (a0.length : Int)) ?_ ?_ ?_
    · rintro i hI
      try simp only [] at hI ⊢
      have : big = 2 ^ 64 := rfl
      have := ga0.1
      omega
    · ((try simp only []); omega)
    · rintro i hI L hL
      try simp only [] at hI
      obtain ⟨i0, i1⟩ := hI
      simp only [YE.l0, atR, rdQ, Q.ask]
      refine Tm.ite (fun h2 => ?_) (fun h2 => ?_)
      · try simp only [bz0, bz1, bz2, bz3, bz4, bz5, bz6, bz7, bz8, bz9, bza] at h2
        refine Tm.atRow (by first | assumption | omega) (by first | assumption | omega) (fun x3 hx4 hm5 => ?_)
        obtain ⟨c6, rfl, g7, _⟩ := (ga0.2 x3 hm5).open
        refine Tm.uncons ?_
        refine Tm.dStr ?_
        refine Tm.atEnd ?_
        refine Tm.atRow (by first | assumption | omega) (by first | assumption | omega) (fun x8 hx9 hm10 => ?_)
        rw [hx4] at hx9
        injection hx9 with hx9
        subst hx9
        refine Tm.uncons ?_
        refine Tm.dStr ?_
        refine Tm.atEnd ?_
        refine Tm.ite (fun h12 => ?_) (fun h12 => ?_)
        · try simp only [bz0, bz1, bz2, bz3, bz4, bz5, bz6, bz7, bz8, bz9, bza] at h12
          exact Tm.ret (by first | rfl | (exfalso; simp [Zu] at *))
        · try simp only [bz0, bz1, bz2, bz3, bz4, bz5, bz6, bz7, bz8, bz9, bza] at h12
          try rw [Zj (x := i + 1) (by omega) (by omega)]
          exact hL _ (by (try simp only []); omega) (by (try simp only []); omega)
      · try simp only [bz0, bz1, bz2, bz3, bz4, bz5, bz6, bz7, bz8, bz9, bza] at h2
        exact Tm.ret (by first | rfl | (exfalso; simp [Zu] at *))
theorem Ys.tm {ι α : Type} {ok : ι → Prop} {ψ : α → Prop} {p : ι → Nat} {B : Nat} (hp : ∀ i, ok i → B ≤ p i) {a0 a1 φ} (h : Tm (fun k => B ≤ k) (fun k => Ys.t k a0 a1) φ) {G : ι → Bool → Option α} (hG : ∀ z0, φ z0 → Tm ok (fun i => G i z0) ψ) : Tm ok (fun i => Ys.f (p i) a0 a1 (G i)) ψ := ZK (t := fun k => Ys.t k a0 a1) hp h hG
theorem YO.tm {ι α : Type} {ok : ι → Prop} {ψ : α → Prop} {p : ι → Nat} {B : Nat} (hp : ∀ i, ok i → B ≤ p i) {aA aB aH aF aD aV aW bA bB bC φ} (h : Tm (fun k => B ≤ k) (fun k => YO.t k aA aB aH aF aD aV aW bA bB bC) φ) {G : ι → Bool → Option α} (hG : ∀ z0, φ z0 → Tm ok (fun i => G i z0) ψ) : Tm ok (fun i => YO.f (p i) aA aB aH aF aD aV aW bA bB bC (G i)) ψ := ZK (t := fun k => YO.t k aA aB aH aF aD aV aW bA bB bC) hp h hG
set_option maxRecDepth 100000 in
theorem eqVal {B : Nat} (hB : B ≤ 1099511627776) (n : Nat) : (∀ (a : List (List D)), a.length ≤ B → (∀ x ∈ a, Y2 B n x) → Tm (fun k => big + 2 * n + 1 ≤ k) (fun k => Ys.t k a a) (fun r => r = true)) ∧
    (∀ (c0 : Int) (c1 : ByteArray) (c2 : Int) (c3 c4 : List (List D)), c1.size ≤ B → Zi RS B c3 → c4.length ≤ B → (∀ x ∈ c4, Y2 B n x) → Tm (fun k => big + 2 * n + 2 ≤ k) (fun k => YO.t k c0 c1 c2 c3 c4 c0 c1 c2 c3 c4) (fun r => r = true)) := by
  have hb : big = 2 ^ 64 := rfl
  induction n using Nat.strongRecOn with
  | ind n ih =>
  have S : ∀ (a : List (List D)), a.length ≤ B → (∀ x ∈ a, Y2 B n x) → Tm (fun k => big + 2 * n + 1 ≤ k) (fun k => Ys.t k a a) (fun r => r = true) := by
    intro a hlen g
    refine Tm.succ (g := fun k => Ys.g k a a (fun z0 => some z0)) (fun k => Ys.t_succ k a a) ?_
    unfold Ys.g Ys.body
    refine Tm.ite (fun h3 => by simp at h3) (fun h3 => ?_)
    refine Tm.loop (okk := fun k => big + 2 * n ≤ k) (p := fun k => k) (fun i hi => by omega) (b := fun k => Ys.l0 k (Ys.f k) (YO.f k) a a (fun z0 => some z0)) (fun i => (((a.length : Int)) - i).toNat) (fun i => 0 ≤ i ∧ i ≤ (a.length : Int)) ?_ ?_ ?_
    · rintro i hI
      omega
    · omega
    · rintro i hI L hL
      obtain ⟨i0, i1⟩ := hI
      simp only [Ys.l0, atR, rdQ, Q.ask]
      refine Tm.ite (fun h4 => ?_) (fun h4 => ?_)
      · simp only [decide_eq_true_eq] at h4
        refine Tm.atRow (by omega) (by omega) (fun x5 hx6 hm7 => ?_)
        obtain ⟨n', hn', c0, c1, c2, c3, c4, rfl, w0, g1, w2, g3, l4, g4⟩ : ∃ n', n = n' + 1 ∧ ∃ c0 c1 c2 c3 c4, x5 = [.int .i64 c0, .str c1, .int .i64 c2, .sl c3, .sl c4] ∧ (Lit.int .i64 c0).wf = true ∧ c1.size ≤ B ∧ (Lit.int .i64 c2).wf = true ∧ Zi RS B c3 ∧ c4.length ≤ B ∧ ∀ x ∈ c4, Y2 B n' x := by
          have := g x5 hm7
          cases this with
          | mk c0 c1 c2 c3 c4 w0 g1 w2 g3 l4 g4 => exact ⟨_, rfl, _, _, _, _, _, rfl, w0, g1, w2, g3, l4, g4⟩
        refine Tm.uncons (Tm.dInt (Tm.uncons (Tm.dStr (Tm.uncons (Tm.dInt (Tm.uncons (Tm.dSl (Tm.uncons (Tm.dSl (Tm.atEnd ?_))))))))))
        refine Tm.atRow (by omega) (by omega) (fun x8 hx8 _ => ?_)
        rw [hx6] at hx8
        injection hx8 with hx8
        subst hx8
        refine Tm.uncons (Tm.dInt (Tm.uncons (Tm.dStr (Tm.uncons (Tm.dInt (Tm.uncons (Tm.dSl (Tm.uncons (Tm.dSl (Tm.atEnd ?_))))))))))
        refine YO.tm (B := big + 2 * n' + 2) (fun i hi => by have := hi.1; omega) ((ih n' (by omega)).2 c0 c1 c2 c3 c4 g1 g3 l4 g4) (fun y hy => ?_)
        subst hy
        refine Tm.ite (fun h => by simp at h) (fun _ => ?_)
        rw [Zj (x := i + 1) (by omega) (by omega)]
        exact hL (i + 1) ⟨by omega, by omega⟩ (by omega)
      · exact Tm.ret rfl
  refine ⟨S, ?_⟩
  intro c0 c1 c2 c3 c4 g1 g3 l4 g4
  refine Tm.succ (g := fun k => YO.g k c0 c1 c2 c3 c4 c0 c1 c2 c3 c4 (fun z0 => some z0)) (fun k => YO.t_succ k c0 c1 c2 c3 c4 c0 c1 c2 c3 c4) ?_
  unfold YO.g YO.body
  refine Tm.ite (fun h => by simp at h) (fun _ => ?_)
  refine Tm.ite (fun h => by simp [Zu] at h) (fun _ => ?_)
  refine Tm.ite (fun h => by simp at h) (fun _ => ?_)
  refine YE.tm (B := big) (fun i hi => by omega) (YE.T g3 hB) (fun y hy => ?_)
  subst hy
  refine Tm.ite (fun h => by simp at h) (fun _ => ?_)
  refine Ys.tm (B := big + 2 * n + 1) (fun i hi => hi) (S c4 l4 g4) (fun y' hy' => ?_)
  subst hy'
  exact Tm.ite (fun h => by simp at h) (fun _ => Tm.ret rfl)
theorem big_lv1e {n : Nat} (h : n ≤ 4398046511104) : big + n ≤ lv 1 := by
  have hb : big = 2 ^ 64 := rfl
  have : lv 1 = 2 ^ 65 := rfl
  omega
theorem YO.T {B : Nat} {aA : Int} {aB : ByteArray} {aH : Int} {aF aD : List (List D)} (g1 : aB.size ≤ B) (g3 : Zi RS B aF) (g4 : Zi YP B aD) (hB : B ≤ 1099511627776) : Tm (ZF 1) (fun k => YO.t k aA aB aH aF aD aA aB aH aF aD) (fun r => r = true) := by
  have g' : ∀ x ∈ aD, Y2 B 1099511627776 x := fun x hx => by
    obtain ⟨h, hh, hx⟩ := g4.2 x hx
    exact hx.mono (hh hB)
  exact ((eqVal hB 1099511627776).2 aA aB aH aF aD g1 g3 g4.1 g').up (big_lv1e (n := 2 * 1099511627776 + 2) (by omega))
theorem Yat.tm {ι α : Type} {ok : ι → Prop} {ψ : α → Prop} {p : ι → Nat} {B : Nat} (hp : ∀ i, ok i → B ≤ p i) {aA aB aH aF aD aX aY aV aW bA bB bC a1_5 a1_6 φ} (h : Tm (fun k => B ≤ k) (fun k => Yat.t k aA aB aH aF aD aX aY aV aW bA bB bC a1_5 a1_6) φ) {G : ι → Bool → Option α} (hG : ∀ z0, φ z0 → Tm ok (fun i => G i z0) ψ) : Tm ok (fun i => Yat.f (p i) aA aB aH aF aD aX aY aV aW bA bB bC a1_5 a1_6 (G i)) ψ := ZK (t := fun k => Yat.t k aA aB aH aF aD aX aY aV aW bA bB bC a1_5 a1_6) hp h hG
theorem Yat.T {B : Nat} {aA aB aH : Int} {aF : ByteArray} {aD : Int} {aX aY : List (List D)} (ga0_3 : aF.size ≤ B) (ga0_5 : Zi RS B aX) (ga0_6 : Zi YP B aY) (hB : B ≤ 1099511627776) : Tm (ZF 1) (fun k => Yat.t k aA aB aH aF aD aX aY aA aB aH aF aD aX aY) (fun r => r = true) := by
  unfold Yat.t Yat.g
  have hm := Zy
  have hlim : lim = 1048576 := rfl
  refine Tm.ite (fun h1 => ?_) (fun h1 => ?_)
  · try simp only [bz0, bz1, bz2, bz3, bz4, bz5, bz6, bz7, bz8, bz9, bza] at h1
    exact Tm.ret (by first | rfl | (exfalso; simp [Zu] at *))
  · try simp only [bz0, bz1, bz2, bz3, bz4, bz5, bz6, bz7, bz8, bz9, bza] at h1
    refine Tm.ite (fun h2 => ?_) (fun h2 => ?_)
    · try simp only [bz0, bz1, bz2, bz3, bz4, bz5, bz6, bz7, bz8, bz9, bza] at h2
      exact Tm.ret (by first | rfl | (exfalso; simp [Zu] at *))
    · try simp only [bz0, bz1, bz2, bz3, bz4, bz5, bz6, bz7, bz8, bz9, bza] at h2
      refine YO.tm (fun i hi => hi) (YO.T (by first | assumption | omega) (by first | assumption | omega) (by first | assumption | omega) (by first | assumption | omega)) (fun y4 hy3 => ?_)
      subst hy3
      refine Tm.ite (fun h5 => ?_) (fun h5 => ?_)
      · try simp only [bz0, bz1, bz2, bz3, bz4, bz5, bz6, bz7, bz8, bz9, bza] at h5
        exact Tm.ret (by first | rfl | (exfalso; simp [Zu] at *))
      · try simp only [bz0, bz1, bz2, bz3, bz4, bz5, bz6, bz7, bz8, bz9, bza] at h5
        exact Tm.ret (by first | rfl | (exfalso; simp [Zu] at *))
theorem YR.tm {ι α : Type} {ok : ι → Prop} {ψ : α → Prop} {p : ι → Nat} {B : Nat} (hp : ∀ i, ok i → B ≤ p i) {a0 a1 φ} (h : Tm (fun k => B ≤ k) (fun k => YR.t k a0 a1) φ) {G : ι → Bool → Option α} (hG : ∀ z0, φ z0 → Tm ok (fun i => G i z0) ψ) : Tm ok (fun i => YR.f (p i) a0 a1 (G i)) ψ := ZK (t := fun k => YR.t k a0 a1) hp h hG
set_option maxRecDepth 100000 in
theorem YR.T {B : Nat} {a0 : List (List D)} (ga0 : Zi Yc B a0) (hB : B ≤ 1099511627776) : Tm (ZF 1) (fun k => YR.t k a0 a0) (fun r => r = true) := by
  unfold YR.t YR.g
  have hm := Zy
  have hlim : lim = 1048576 := rfl
  have hlen := ga0.1
  refine Tm.ite (fun h1 => ?_) (fun h1 => ?_)
  · try simp only [bz0, bz1, bz2, bz3, bz4, bz5, bz6, bz7, bz8, bz9, bza] at h1
    exact Tm.ret (by first | rfl | (exfalso; simp [Zu] at *))
  · try simp only [bz0, bz1, bz2, bz3, bz4, bz5, bz6, bz7, bz8, bz9, bza] at h1
    refine Tm.loop (okk := (ZF 1)) (p := fun k => k) (fun i hi => up0 hi) (b := fun k => YR.l0 k a0 a0 (fun z0 => some z0)) (fun i => (((a0.length : Int)) - i).toNat) (fun i => 0 ≤ i ∧ i ≤ (a0.length : Int)) ?_ ?_ ?_
    · rintro i hI
      try simp only [] at hI ⊢
      have : big = 2 ^ 64 := rfl
      have := ga0.1
      omega
    · ((try simp only []); omega)
    · rintro i hI L hL
      try simp only [] at hI
      obtain ⟨i0, i1⟩ := hI
      simp only [YR.l0, atR, rdQ, Q.ask]
      refine Tm.ite (fun h2 => ?_) (fun h2 => ?_)
      · try simp only [bz0, bz1, bz2, bz3, bz4, bz5, bz6, bz7, bz8, bz9, bza] at h2
        refine Tm.atRow (by first | assumption | omega) (by first | assumption | omega) (fun x3 hx4 hm5 => ?_)
        obtain ⟨c6, c7, c8, c9, c10, c11, c12, rfl, g13, g14, g15, g16, g17, g18, g19, _⟩ := (ga0.2 x3 hm5).open
        refine Tm.uncons ?_
        refine Tm.dInt ?_
        refine Tm.uncons ?_
        refine Tm.dInt ?_
        refine Tm.uncons ?_
        refine Tm.dInt ?_
        refine Tm.uncons ?_
        refine Tm.dStr ?_
        refine Tm.uncons ?_
        refine Tm.dInt ?_
        refine Tm.uncons ?_
        refine Tm.dSl ?_
        refine Tm.uncons ?_
        refine Tm.dSl ?_
        refine Tm.atEnd ?_
        refine Tm.atRow (by first | assumption | omega) (by first | assumption | omega) (fun x20 hx21 hm22 => ?_)
        rw [hx4] at hx21
        injection hx21 with hx21
        subst hx21
        refine Tm.uncons ?_
        refine Tm.dInt ?_
        refine Tm.uncons ?_
        refine Tm.dInt ?_
        refine Tm.uncons ?_
        refine Tm.dInt ?_
        refine Tm.uncons ?_
        refine Tm.dStr ?_
        refine Tm.uncons ?_
        refine Tm.dInt ?_
        refine Tm.uncons ?_
        refine Tm.dSl ?_
        refine Tm.uncons ?_
        refine Tm.dSl ?_
        refine Tm.atEnd ?_
        refine Yat.tm (fun i hi => hi.1) (Yat.T (by first | assumption | omega) (by first | assumption | omega) (by first | assumption | omega) (by first | assumption | omega)) (fun y31 hy30 => ?_)
        subst hy30
        refine Tm.ite (fun h32 => ?_) (fun h32 => ?_)
        · try simp only [bz0, bz1, bz2, bz3, bz4, bz5, bz6, bz7, bz8, bz9, bza] at h32
          exact Tm.ret (by first | rfl | (exfalso; simp [Zu] at *))
        · try simp only [bz0, bz1, bz2, bz3, bz4, bz5, bz6, bz7, bz8, bz9, bza] at h32
          try rw [Zj (x := i + 1) (by omega) (by omega)]
          exact hL _ (by (try simp only []); omega) (by (try simp only []); omega)
      · try simp only [bz0, bz1, bz2, bz3, bz4, bz5, bz6, bz7, bz8, bz9, bza] at h2
        exact Tm.ret (by first | rfl | (exfalso; simp [Zu] at *))
theorem Yaw.tm {ι α : Type} {ok : ι → Prop} {ψ : α → Prop} {p : ι → Nat} {B : Nat} (hp : ∀ i, ok i → B ≤ p i) {aA aB aV aW φ} (h : Tm (fun k => B ≤ k) (fun k => Yaw.t k aA aB aV aW) φ) {G : ι → Bool → Option α} (hG : ∀ z0, φ z0 → Tm ok (fun i => G i z0) ψ) : Tm ok (fun i => Yaw.f (p i) aA aB aV aW (G i)) ψ := ZK (t := fun k => Yaw.t k aA aB aV aW) hp h hG
theorem Yaw.T {B : Nat} {aA aB : Int} (hB : B ≤ 1099511627776) : Tm Z3 (fun k => Yaw.t k aA aB aA aB) (fun r => r = true) := by
  unfold Yaw.t Yaw.g
  have hm := Zy
  have hlim : lim = 1048576 := rfl
  refine Tm.ite (fun h1 => ?_) (fun h1 => ?_)
  · try simp only [bz0, bz1, bz2, bz3, bz4, bz5, bz6, bz7, bz8, bz9, bza] at h1
    exact Tm.ret (by first | rfl | (exfalso; simp [Zu] at *))
  · try simp only [bz0, bz1, bz2, bz3, bz4, bz5, bz6, bz7, bz8, bz9, bza] at h1
    refine Tm.ite (fun h2 => ?_) (fun h2 => ?_)
    · try simp only [bz0, bz1, bz2, bz3, bz4, bz5, bz6, bz7, bz8, bz9, bza] at h2
      exact Tm.ret (by first | rfl | (exfalso; simp [Zu] at *))
    · try simp only [bz0, bz1, bz2, bz3, bz4, bz5, bz6, bz7, bz8, bz9, bza] at h2
      exact Tm.ret (by first | rfl | (exfalso; simp [Zu] at *))
theorem YY.tm {ι α : Type} {ok : ι → Prop} {ψ : α → Prop} {p : ι → Nat} {B : Nat} (hp : ∀ i, ok i → B ≤ p i) {a0 a1 φ} (h : Tm (fun k => B ≤ k) (fun k => YY.t k a0 a1) φ) {G : ι → Bool → Option α} (hG : ∀ z0, φ z0 → Tm ok (fun i => G i z0) ψ) : Tm ok (fun i => YY.f (p i) a0 a1 (G i)) ψ := ZK (t := fun k => YY.t k a0 a1) hp h hG
set_option maxRecDepth 100000 in
theorem YY.T {B : Nat} {a0 : List (List D)} (ga0 : Zi RII B a0) (hB : B ≤ 1099511627776) : Tm Z3 (fun k => YY.t k a0 a0) (fun r => r = true) := by
  unfold YY.t YY.g
  have hm := Zy
  have hlim : lim = 1048576 := rfl
  have hlen := ga0.1
  refine Tm.ite (fun h1 => ?_) (fun h1 => ?_)
  · try simp only [bz0, bz1, bz2, bz3, bz4, bz5, bz6, bz7, bz8, bz9, bza] at h1
    exact Tm.ret (by first | rfl | (exfalso; simp [Zu] at *))
  · try simp only [bz0, bz1, bz2, bz3, bz4, bz5, bz6, bz7, bz8, bz9, bza] at h1
    refine Tm.loop (okk := Z3) (p := fun k => k) (fun i hi => hi) (b := fun k => YY.l0 k a0 a0 (fun z0 => some z0)) (fun i => (((a0.length : Int)) - i).toNat) (fun i => 0 ≤ i ∧ i ≤ (a0.length : Int)) ?_ ?_ ?_
    · rintro i hI
      try simp only [] at hI ⊢
      have : big = 2 ^ 64 := rfl
      have := ga0.1
      omega
    · ((try simp only []); omega)
    · rintro i hI L hL
      try simp only [] at hI
      obtain ⟨i0, i1⟩ := hI
      simp only [YY.l0, atR, rdQ, Q.ask]
      refine Tm.ite (fun h2 => ?_) (fun h2 => ?_)
      · try simp only [bz0, bz1, bz2, bz3, bz4, bz5, bz6, bz7, bz8, bz9, bza] at h2
        refine Tm.atRow (by first | assumption | omega) (by first | assumption | omega) (fun x3 hx4 hm5 => ?_)
        obtain ⟨c6, c7, rfl, g8, g9, _⟩ := (ga0.2 x3 hm5).open
        refine Tm.uncons ?_
        refine Tm.dInt ?_
        refine Tm.uncons ?_
        refine Tm.dInt ?_
        refine Tm.atEnd ?_
        refine Tm.atRow (by first | assumption | omega) (by first | assumption | omega) (fun x10 hx11 hm12 => ?_)
        rw [hx4] at hx11
        injection hx11 with hx11
        subst hx11
        refine Tm.uncons ?_
        refine Tm.dInt ?_
        refine Tm.uncons ?_
        refine Tm.dInt ?_
        refine Tm.atEnd ?_
        refine Yaw.tm (fun i hi => hi.1) (Yaw.T (by first | assumption | omega)) (fun y16 hy15 => ?_)
        subst hy15
        refine Tm.ite (fun h17 => ?_) (fun h17 => ?_)
        · try simp only [bz0, bz1, bz2, bz3, bz4, bz5, bz6, bz7, bz8, bz9, bza] at h17
          exact Tm.ret (by first | rfl | (exfalso; simp [Zu] at *))
        · try simp only [bz0, bz1, bz2, bz3, bz4, bz5, bz6, bz7, bz8, bz9, bza] at h17
          try rw [Zj (x := i + 1) (by omega) (by omega)]
          exact hL _ (by (try simp only []); omega) (by (try simp only []); omega)
      · try simp only [bz0, bz1, bz2, bz3, bz4, bz5, bz6, bz7, bz8, bz9, bza] at h2
        exact Tm.ret (by first | rfl | (exfalso; simp [Zu] at *))
theorem Yad.tm {ι α : Type} {ok : ι → Prop} {ψ : α → Prop} {p : ι → Nat} {B : Nat} (hp : ∀ i, ok i → B ≤ p i) {aA aB aH aF aD aV aW bA bB bC φ} (h : Tm (fun k => B ≤ k) (fun k => Yad.t k aA aB aH aF aD aV aW bA bB bC) φ) {G : ι → Bool → Option α} (hG : ∀ z0, φ z0 → Tm ok (fun i => G i z0) ψ) : Tm ok (fun i => Yad.f (p i) aA aB aH aF aD aV aW bA bB bC (G i)) ψ := ZK (t := fun k => Yad.t k aA aB aH aF aD aV aW bA bB bC) hp h hG
theorem Yad.T {B : Nat} {aA : ByteArray} {aB aH : Int} {aF aD : List (List D)} (ga0_0 : aA.size ≤ B) (ga0_3 : Zi Yc B aF) (ga0_4 : Zi RII B aD) (hB : B ≤ 1099511627776) : Tm (ZF 1) (fun k => Yad.t k aA aB aH aF aD aA aB aH aF aD) (fun r => r = true) := by
  unfold Yad.t Yad.g
  have hm := Zy
  have hlim : lim = 1048576 := rfl
  refine Tm.ite (fun h1 => ?_) (fun h1 => ?_)
  · try simp only [bz0, bz1, bz2, bz3, bz4, bz5, bz6, bz7, bz8, bz9, bza] at h1
    exact Tm.ret (by first | rfl | (exfalso; simp [Zu] at *))
  · try simp only [bz0, bz1, bz2, bz3, bz4, bz5, bz6, bz7, bz8, bz9, bza] at h1
    refine Tm.ite (fun h2 => ?_) (fun h2 => ?_)
    · try simp only [bz0, bz1, bz2, bz3, bz4, bz5, bz6, bz7, bz8, bz9, bza] at h2
      exact Tm.ret (by first | rfl | (exfalso; simp [Zu] at *))
    · try simp only [bz0, bz1, bz2, bz3, bz4, bz5, bz6, bz7, bz8, bz9, bza] at h2
      refine Tm.ite (fun h3 => ?_) (fun h3 => ?_)
      · try simp only [bz0, bz1, bz2, bz3, bz4, bz5, bz6, bz7, bz8, bz9, bza] at h3
        exact Tm.ret (by first | rfl | (exfalso; simp [Zu] at *))
      · try simp only [bz0, bz1, bz2, bz3, bz4, bz5, bz6, bz7, bz8, bz9, bza] at h3
        refine YR.tm (fun i hi => hi) (YR.T (by first | assumption | omega) (by first | assumption | omega)) (fun y5 hy4 => ?_)
        subst hy4
        refine Tm.ite (fun h6 => ?_) (fun h6 => ?_)
        · try simp only [bz0, bz1, bz2, bz3, bz4, bz5, bz6, bz7, bz8, bz9, bza] at h6
          exact Tm.ret (by first | rfl | (exfalso; simp [Zu] at *))
        · try simp only [bz0, bz1, bz2, bz3, bz4, bz5, bz6, bz7, bz8, bz9, bza] at h6
          refine YY.tm (fun i hi => up0 hi) (YY.T (by first | assumption | omega) (by first | assumption | omega)) (fun y8 hy7 => ?_)
          subst hy7
          refine Tm.ite (fun h9 => ?_) (fun h9 => ?_)
          · try simp only [bz0, bz1, bz2, bz3, bz4, bz5, bz6, bz7, bz8, bz9, bza] at h9
            exact Tm.ret (by first | rfl | (exfalso; simp [Zu] at *))
          · try simp only [bz0, bz1, bz2, bz3, bz4, bz5, bz6, bz7, bz8, bz9, bza] at h9
            exact Tm.ret (by first | rfl | (exfalso; simp [Zu] at *))
theorem Yg.f_of {β : Type} {k a0 z0} (h : Yg.t k a0 = some z0) (K : ByteArray → Option β) : Yg.f k a0 K = K z0 := by unfold Yg.f; rw [h]; rfl
theorem Yg.tm {ι α : Type} {ok : ι → Prop} {ψ : α → Prop} {p : ι → Nat} {B : Nat} (hp : ∀ i, ok i → B ≤ p i) {a0 φ} (h : Tm (fun k => B ≤ k) (fun k => Yg.t k a0) φ) {G : ι → ByteArray → Option α} (hG : ∀ z0, φ z0 → Tm ok (fun i => G i z0) ψ) : Tm ok (fun i => Yg.f (p i) a0 (G i)) ψ := ZK (t := fun k => Yg.t k a0) hp h hG
theorem Yg.T {a0 : Int} (h1 : a0 ≤ 4611686018427387904) : Tm Z3 (fun k => Yg.t k a0) (fun _ => True) := by
  unfold Yg.t Yg.g
  have hb : big = 2 ^ 64 := rfl
  refine Tm.ite (fun _ => Tm.ret trivial) (fun h => ?_)
  simp only [decide_eq_false_iff_not, Int.not_le] at h
  refine Tm.loop (okk := Z3) (p := fun k => k) (fun i hi => hi) (b := fun k => Yg.l0 k (fun z0 => some z0)) (fun v => match v with | (u, s) => u.toNat) (fun v => match v with | (u, s) => 0 ≤ u ∧ u + s.size ≤ a0) ?_ ?_ ?_
  · rintro ⟨u, s⟩ hI
    simp only [] at hI ⊢
    omega
  · simp only []
    have : (⟨#[]⟩ : ByteArray).size = 0 := rfl
    omega
  · rintro ⟨u, s⟩ hI L hL
    simp only [] at hI
    obtain ⟨u0, u1⟩ := hI
    simp only [Yg.l0]
    refine Tm.ite (fun h4 => ?_) (fun h4 => ?_)
    · simp only [decide_eq_true_eq] at h4
      have e1 : ∀ x : UInt8, (⟨#[x]⟩ : ByteArray).size = 1 := fun _ => rfl
      have ed : Int.tdiv u 10 = u / 10 := Int.tdiv_eq_ediv_of_nonneg (by omega)
      refine Tm.guard (by decide) (Tm.guard (by rw [e1]; omega) (Tm.guard (by decide) ?_))
      rw [ed, Zj (x := u / 10) (by omega) (by omega)]
      refine hL (_, _) ⟨by omega, ?_⟩ (by simp only []; omega)
      rw [ByteArray.size_append, e1]
      omega
    · have e1 : (⟨#[109]⟩ : ByteArray).size = 1 := rfl
      exact Tm.guard (by rw [e1]; omega) (Tm.ret trivial)
noncomputable def Yg.v (a0 : Int) : ByteArray := (Yg.t big a0).getD default
theorem Yg.tv {a0 : Int} (h1 : a0 ≤ 4611686018427387904) {k : Nat} (hk : Z3 k) : Yg.t k a0 = some (Yg.v a0) := (Yg.T h1).val hk
theorem Yg.fv {a0 : Int} (h1 : a0 ≤ 4611686018427387904) {k : Nat} (hk : Z3 k) {β : Type} (K : ByteArray → Option β) : Yg.f k a0 K = K (Yg.v a0) := Yg.f_of (Yg.tv h1 hk) K
theorem Yt.tm {ι α : Type} {ok : ι → Prop} {ψ : α → Prop} {p : ι → Nat} {B : Nat} (hp : ∀ i, ok i → B ≤ p i) {a0 a1 φ} (h : Tm (fun k => B ≤ k) (fun k => Yt.t k a0 a1) φ) {G : ι → Int → (List (List C)) → Option α} (hG : ∀ z0 z1, φ (z0, z1) → Tm ok (fun i => G i z0 z1) ψ) : Tm ok (fun i => Yt.f (p i) a0 a1 (G i)) ψ := bd2_tm (t := fun k => Yt.t k a0 a1) hp h hG
theorem Yh.tm {ι α : Type} {ok : ι → Prop} {ψ : α → Prop} {p : ι → Nat} {B : Nat} (hp : ∀ i, ok i → B ≤ p i) {a0 a1 φ} (h : Tm (fun k => B ≤ k) (fun k => Yh.t k a0 a1) φ) {G : ι → Int → (List (List C)) → Option α} (hG : ∀ z0 z1, φ (z0, z1) → Tm ok (fun i => G i z0 z1) ψ) : Tm ok (fun i => Yh.f (p i) a0 a1 (G i)) ψ := bd2_tm (t := fun k => Yh.t k a0 a1) hp h hG
theorem Yz.tm {ι α : Type} {ok : ι → Prop} {ψ : α → Prop} {p : ι → Nat} {B : Nat} (hp : ∀ i, ok i → B ≤ p i) {a0 a1 φ} (h : Tm (fun k => B ≤ k) (fun k => Yz.t k a0 a1) φ) {G : ι → Int → (List (List C)) → Option α} (hG : ∀ z0 z1, φ (z0, z1) → Tm ok (fun i => G i z0 z1) ψ) : Tm ok (fun i => Yz.f (p i) a0 a1 (G i)) ψ := bd2_tm (t := fun k => Yz.t k a0 a1) hp h hG
theorem YH.tm {ι α : Type} {ok : ι → Prop} {ψ : α → Prop} {p : ι → Nat} {B : Nat} (hp : ∀ i, ok i → B ≤ p i) {a0 a1 φ} (h : Tm (fun k => B ≤ k) (fun k => YH.t k a0 a1) φ) {G : ι → Int → (List (List C)) → Option α} (hG : ∀ z0 z1, φ (z0, z1) → Tm ok (fun i => G i z0 z1) ψ) : Tm ok (fun i => YH.f (p i) a0 a1 (G i)) ψ := bd2_tm (t := fun k => YH.t k a0 a1) hp h hG
theorem Yac.tm {ι α : Type} {ok : ι → Prop} {ψ : α → Prop} {p : ι → Nat} {B : Nat} (hp : ∀ i, ok i → B ≤ p i) {aA aB aH aF aD a1 φ} (h : Tm (fun k => B ≤ k) (fun k => Yac.t k aA aB aH aF aD a1) φ) {G : ι → Int → (List (List C)) → (List (List C)) → Option α} (hG : ∀ z0 z1 z2, φ (z0, z1, z2) → Tm ok (fun i => G i z0 z1 z2) ψ) : Tm ok (fun i => Yac.f (p i) aA aB aH aF aD a1 (G i)) ψ := bd3_tm (t := fun k => Yac.t k aA aB aH aF aD a1) hp h hG
theorem Ym.f_of {β : Type} {k a0 a1 z0} (h : Ym.t k a0 a1 = some z0) (K : Int → Option β) : Ym.f k a0 a1 K = K z0 := by unfold Ym.f; rw [h]; rfl
set_option maxRecDepth 100000 in
set_option maxHeartbeats 8000000 in
theorem Ym.step {u : Int}  (h0 : 0 ≤ u)  (h1 : u + 1 ≤ 4611686018427387904) {k : Nat} (hk : Z3 k) : HStep (fun xs L v => Ym.l0 k xs (fun z0 => some z0) L v) u [.str (Yg.v (u))] (u + 1) := by
  have hk0 : Z3 k := hk
  intro xs i i0 i1 hl hr L
  simp (maxSteps := 4000000) (disch := first | assumption | omega) only [Ym.l0, atR, rdQ, Q.ask, ZQ i1, cond_true, cond_false, Zbp i0 i1, hr, ZY, Zad, Zaj, ZaQ, Za7, Z6, Zj, Yg.fv, Zu, bne_self_eq_false, beq_self_eq_true, Bool.not_true]
set_option maxRecDepth 100000 in
set_option maxHeartbeats 8000000 in
theorem Yt.T {B : Nat} (hB : B ≤ 1099511627776) {xs : List (List D)} {n : Int} (g : Zi RS B xs) (h0 : 0 ≤ n) (h1 : n + Zp xs ≤ 4611686018427387904) : Tm Z3 (fun k => Yt.t k (Zb xs) n) (fun z => ∃ ys, z.2 = Zb ys ∧ ys.length = xs.length ∧ z.1 = n + Zp xs ∧ ∀ k, Z3 k → Ym.t k ys n = some z.1) := by
  have hb : big = 2 ^ 64 := rfl
  have hl := g.1
  have key : Tm Z3 (fun k => Yt.t k (Zb xs) n) (fun z => ∃ ys, z.2 = Zb ys ∧ ys.length = xs.length ∧ z.1 = n + Zp xs ∧ ZbX (fun u r u' => ∀ k, Z3 k → HStep (fun xs L v => Ym.l0 k xs (fun z0 => some z0) L v) u r u') n ys z.1) := by
    unfold Yt.t Yt.g
    refine Tm.loop (okk := Z3) (p := fun k => k) (fun i hi => hi) (b := fun k => Yt.l0 k (fun z0 z1 => some (z0, z1))) (fun v => match v with | (u, i, tab) => ((xs.length : Int) - i).toNat) (fun v => match v with | (u, i, tab) => 0 ≤ i ∧ i ≤ xs.length ∧ ∃ done : List (List D), done.length = i.toNat ∧ tab = Zb done ++ Zb (xs.drop i.toNat) ∧ u = n + Zp (xs.take i.toNat) ∧ ZbX (fun u r u' => ∀ k, Z3 k → HStep (fun xs L v => Ym.l0 k xs (fun z0 => some z0) L v) u r u') n done u) ?_ ?_ ?_
    · rintro ⟨u, i, tab⟩ hI
      simp only [] at hI ⊢
      omega
    · exact ⟨by omega, by omega, [], rfl, by simp [Zb], by simp [Zp], .nil⟩
    · rintro ⟨u, i, tab⟩ hI L hL
      simp only [] at hI
      obtain ⟨i0, i1, done, hd, rfl, hu, hH⟩ := hI
      have hA : (Zb done).length = i.toNat := by rw [Zw, hd]
      have hT : (Zb done ++ Zb (xs.drop i.toNat)).length = xs.length := by rw [List.length_append, hA, Zw, List.length_drop]; omega
      simp only [Yt.l0]
      refine Tm.ite (fun h4 => ?_) (fun h4 => ?_)
      · simp only [decide_eq_true_eq, hT] at h4
        have hx := gR_at i0 h4
        obtain ⟨c0, e, k0, _⟩ := (g.2 _ (gR_mem i0 h4)).open
        rw [e] at hx
        have hdr := drop_at i0 hx
        have hw := wt_take i0 hx
        simp only [ZbG, wtD] at hw
        have hs := wt_split xs (i + 1).toNat
        rw [hdr] at hT ⊢
        simp only [Zb, ZZ, ZbW] at hT ⊢
        have hT2 := hT
        simp only [List.length_append, List.length_cons] at hT2
        try simp (disch := omega) only [Zj]
        refine Yg.tm (fun i hi => hi.1) (Tm.at (ok := Z3) (v := Yg.v _) (fun k hk => Yg.tv (by omega) hk)) (fun y hy => ?_)
        subst hy
        refine Tm.guard (by first | decide | (simp only [List.length_modify, List.length_append, List.length_cons]; omega)) ?_
        refine Tm.guard (by first | decide | (simp only [List.length_modify, List.length_append, List.length_cons]; omega)) ?_
        try simp (disch := omega) only [Zj]
        try simp only [Zaf hA, Zq, List.take_zero, List.take_succ_cons, List.drop_succ_cons, List.drop_zero, List.nil_append, List.cons_append, List.length_cons, List.length_nil, Nat.zero_add, Nat.reduceAdd, List.set_cons_succ, List.set_cons_zero]
        refine hL (_, _, _) ⟨by omega, by omega, done ++ [[.str (Yg.v (u))]], by simp only [List.length_append, List.length_cons, List.length_nil]; omega, ?_, by omega, ZbX.snoc hH (fun k hk => Ym.step (by omega) (by omega) hk)⟩ (by simp only []; omega)
        rw [Zai]
        simp only [Zb, ZZ, ZbW, List.append_assoc, List.cons_append, List.nil_append]
      · simp only [decide_eq_false_iff_not, hT] at h4
        refine Tm.ret ⟨done, ?_, by omega, ?_, hH⟩
        · rw [List.drop_eq_nil_of_le (by omega)]
          simp only [Zb, List.append_nil]
        · rw [List.take_of_length_le (by omega)] at hu
          exact hu
  obtain ⟨v, ⟨ys, e1, e2, e3, hH⟩, h2⟩ := key
  exact ⟨v, ⟨ys, e1, e2, e3, fun k hk => by
    have hk0 : Z3 k := hk
    unfold Ym.t Ym.g
    exact held_run (b := fun xs L v => Ym.l0 k xs (fun z0 => some z0) L v) (by omega) (hH.mono fun _ _ _ h => h k hk) (by omega) (fun L => by simp [Ym.l0, atR, rdQ, Q.ask])⟩, h2⟩
theorem Yf.f_of {β : Type} {k a0 a1 z0} (h : Yf.t k a0 a1 = some z0) (K : Int → Option β) : Yf.f k a0 a1 K = K z0 := by unfold Yf.f Yf.w; rw [h]; rfl
set_option maxRecDepth 100000 in
theorem Yf.step {N : Nat} {u : Int} {ys3 : List (List D)} {n3 : Int} {ys4 : List (List D)} {n4 : Int} (h0 : 0 ≤ u) (hn3 : u + 1 + 1 + 1 ≤ n3) (hh3 : ∀ k, Z3 k → Ym.t k ys3 (u + 1 + 1 + 1) = some n3) (hn4 : n3 ≤ n4) (hh4 : ∀ k, N ≤ k → Yf.t k ys4 (n3) = some n4) (h1 : n4 ≤ 4611686018427387904) {k : Nat} (hk : N ≤ k) (hk0 : Z3 k) : HStep (fun xs L v => Yf.l0 k (Yf.f k) xs (fun z0 => some z0) L v) u [.int .i64 (u), .str (Yg.v (u + 1)), .int .i64 (u + 1 + 1), .sl ys3, .sl ys4] (n4) := by
  intro xs i i0 i1 hl hr L
  simp (disch := first | assumption | omega) only [Yf.l0, atR, rdQ, Q.ask, ZQ i1, cond_true, cond_false, Zbp i0 i1, hr, ZY, Zad, Zaj, ZaQ, Za7, Z6, Zj, Yg.fv, Zu, bne_self_eq_false, beq_self_eq_true, Bool.not_true, Ym.f_of (hh3 k hk0), ZV (show ¬ n3 < 0 by omega), Yf.f_of (hh4 k hk), ZV (show ¬ n4 < 0 by omega)]
set_option maxRecDepth 100000 in
theorem markVal {B : Nat} (hB : B ≤ 1099511627776) (h : Nat) : ∀ {xs : List (List D)} {n : Int}, xs.length ≤ B → (∀ r ∈ xs, Y2 B h r) → 0 ≤ n → n + Zp xs ≤ 4611686018427387904 → Tm (fun k => big + h + 1 ≤ k) (fun k => Yh.t k (Zb xs) n) (fun z => ∃ ys, z.2 = Zb ys ∧ ys.length = xs.length ∧ z.1 = n + Zp xs ∧ ∀ k, big + h + 1 ≤ k → Yf.t k ys n = some z.1) := by
  have hb : big = 2 ^ 64 := rfl
  induction h using Nat.strongRecOn with
  | ind h ih =>
  intro xs n hl g h0 h1
  have key : Tm (fun k => big + h ≤ k) (fun k => Yh.g k (Zb xs) n (fun z0 z1 => some (z0, z1))) (fun z => ∃ ys, z.2 = Zb ys ∧ ys.length = xs.length ∧ z.1 = n + Zp xs ∧ ZbX (fun u r u' => ∀ k, big + h ≤ k → HStep (fun xs L v => Yf.l0 k (Yf.f k) xs (fun z0 => some z0) L v) u r u') n ys z.1) := by
    unfold Yh.g Yh.body
    refine Tm.loop (okk := fun k => big + h ≤ k) (p := fun k => k) (fun i hi => by omega) (b := fun k => Yh.l0 k (Yh.f k) (fun z0 z1 => some (z0, z1))) (fun v => match v with | (u, i, tab) => ((xs.length : Int) - i).toNat) (fun v => match v with | (u, i, tab) => 0 ≤ i ∧ i ≤ xs.length ∧ ∃ done : List (List D), done.length = i.toNat ∧ tab = Zb done ++ Zb (xs.drop i.toNat) ∧ u = n + Zp (xs.take i.toNat) ∧ ZbX (fun u r u' => ∀ k, big + h ≤ k → HStep (fun xs L v => Yf.l0 k (Yf.f k) xs (fun z0 => some z0) L v) u r u') n done u) ?_ ?_ ?_
    · rintro ⟨u, i, tab⟩ hI
      simp only [] at hI ⊢
      omega
    · exact ⟨by omega, by omega, [], rfl, by simp [Zb], by simp [Zp], .nil⟩
    · rintro ⟨u, i, tab⟩ hI L hL
      simp only [] at hI
      obtain ⟨i0, i1, done, hd, rfl, hu, hH⟩ := hI
      have hA : (Zb done).length = i.toNat := by rw [Zw, hd]
      have hT : (Zb done ++ Zb (xs.drop i.toNat)).length = xs.length := by rw [List.length_append, hA, Zw, List.length_drop]; omega
      simp only [Yh.l0]
      refine Tm.ite (fun h4 => ?_) (fun h4 => ?_)
      · simp only [decide_eq_true_eq, hT] at h4
        have hx := gR_at i0 h4
        obtain ⟨h', hh', c0, c1, c2, c3, c4, e, k3, l4, k4⟩ : ∃ h', h = h' + 1 ∧ ∃ c0 c1 c2 c3 c4, gR xs i = [.int .i64 c0, .str c1, .int .i64 c2, .sl c3, .sl c4] ∧ Zi RS B c3 ∧ c4.length ≤ B ∧ ∀ r ∈ c4, Y2 B h' r := by
          have := g _ (gR_mem i0 h4)
          generalize gR xs i = r at this
          cases this with
          | mk c0 c1 c2 c3 c4 w0 g1 w2 g3 l4 g4 => exact ⟨_, rfl, _, _, _, _, _, rfl, g3, l4, g4⟩
        rw [e] at hx
        have hdr := drop_at i0 hx
        have hw := wt_take i0 hx
        simp only [ZbG, wtD] at hw
        have hs := wt_split xs (i + 1).toNat
        rw [hdr] at hT ⊢
        simp only [Zb, ZZ, ZbW] at hT ⊢
        have hT2 := hT
        simp only [List.length_append, List.length_cons] at hT2
        refine Tm.guard (by first | decide | (simp only [List.length_modify, List.length_append, List.length_cons]; omega)) ?_
        refine Tm.guard (by first | decide | (simp only [List.length_modify, List.length_append, List.length_cons]; omega)) ?_
        try simp (disch := omega) only [Zj]
        refine Yg.tm (B := big) (fun i hi => by have := hi.1; omega) (Tm.at (ok := Z3) (v := Yg.v _) (fun k hk => Yg.tv (by omega) hk)) (fun y hy => ?_)
        subst hy
        refine Tm.guard (by first | decide | (simp only [List.length_modify, List.length_append, List.length_cons]; omega)) ?_
        refine Tm.guard (by first | decide | (simp only [List.length_modify, List.length_append, List.length_cons]; omega)) ?_
        refine Tm.guard (by first | decide | (simp only [List.length_modify, List.length_append, List.length_cons]; omega)) ?_
        refine Tm.guard (by first | decide | (simp only [List.length_modify, List.length_append, List.length_cons]; omega)) ?_
        refine Tm.guard (by first | decide | (simp only [List.length_modify, List.length_append, List.length_cons]; omega)) ?_
        try simp only [Zaf hA, ZaV hA, Zq, List.take_zero, List.take_succ_cons, List.drop_succ_cons, List.drop_zero, List.nil_append, List.cons_append, List.length_cons, List.length_nil, Nat.zero_add, Nat.reduceAdd, List.set_cons_succ, List.set_cons_zero]
        refine Tm.uncons ?_
        refine Tm.cOwn ?_
        try simp (disch := omega) only [Zj]
        refine Yt.tm (B := big) (fun i hi => by have := hi.1; omega) (Yt.T hB k3 (by omega) (by omega)) (fun y3 t3 hy => ?_)
        obtain ⟨ys3, et3, el3, en3, hh3⟩ := hy
        simp only [] at et3 en3 hh3
        subst et3 en3
        refine Tm.guard (by first | decide | (simp only [List.length_modify, List.length_append, List.length_cons]; omega)) ?_
        try simp only [Zaf hA, ZaV hA, Zq, List.take_zero, List.take_succ_cons, List.drop_succ_cons, List.drop_zero, List.nil_append, List.cons_append, List.length_cons, List.length_nil, Nat.zero_add, Nat.reduceAdd, List.set_cons_succ, List.set_cons_zero]
        refine Tm.uncons ?_
        refine Tm.cOwn ?_
        try simp (disch := omega) only [Zj]
        refine Yh.tm (B := big + h' + 1) (fun i hi => by have := hi.1; omega) (ih h' (by omega) l4 k4 (by omega) (by omega)) (fun y4 t4 hy => ?_)
        obtain ⟨ys4, et4, el4, en4, hh4⟩ := hy
        simp only [] at et4 en4 hh4
        subst et4 en4
        try simp (disch := omega) only [Zj]
        try simp only [Zaf hA, Zq, List.take_zero, List.take_succ_cons, List.drop_succ_cons, List.drop_zero, List.nil_append, List.cons_append, List.length_cons, List.length_nil, Nat.zero_add, Nat.reduceAdd, List.set_cons_succ, List.set_cons_zero]
        refine hL (_, _, _) ⟨by omega, by omega, done ++ [[.int .i64 (u), .str (Yg.v (u + 1)), .int .i64 (u + 1 + 1), .sl ys3, .sl ys4]], by simp only [List.length_append, List.length_cons, List.length_nil]; omega, ?_, by omega, ZbX.snoc hH (fun k hk => Yf.step (by omega) (by omega) hh3 (by omega) hh4 (by omega) (by omega) (by unfold Z3; omega))⟩ (by simp only []; omega)
        rw [Zai]
        simp only [Zb, ZZ, ZbW, List.append_assoc, List.cons_append, List.nil_append]
      · simp only [decide_eq_false_iff_not, hT] at h4
        refine Tm.ret ⟨done, ?_, by omega, ?_, hH⟩
        · rw [List.drop_eq_nil_of_le (by omega)]
          simp only [Zb, List.append_nil]
        · rw [List.take_of_length_le (by omega)] at hu
          exact hu
  refine Tm.succ (g := fun k => Yh.g k (Zb xs) n (fun z0 z1 => some (z0, z1))) (fun k => Yh.t_succ k (Zb xs) n) ?_
  refine key.mono fun z hz => ?_
  obtain ⟨ys, e1, e2, e3, hH⟩ := hz
  refine ⟨ys, e1, e2, e3, fun k hk => ?_⟩
  cases k with
  | zero => omega
  | succ k =>
    rw [Yf.t_succ]
    unfold Yf.g Yf.body
    exact held_run (b := fun xs L v => Yf.l0 k (Yf.f k) xs (fun z0 => some z0) L v) (by omega) (hH.mono fun _ _ _ h => h k (by omega)) (by omega) (fun L => by simp [Yf.l0, atR, rdQ, Q.ask])
theorem Yh.T {B : Nat} (hB : B ≤ 1099511627776) {xs : List (List D)} {n : Int} (g : Zi YP B xs) (h0 : 0 ≤ n) (h1 : n + Zp xs ≤ 4611686018427387904) : Tm (ZF 1) (fun k => Yh.t k (Zb xs) n) (fun z => ∃ ys, z.2 = Zb ys ∧ ys.length = xs.length ∧ z.1 = n + Zp xs ∧ ∀ k, (ZF 1) k → Yf.t k ys n = some z.1) := by
  have hb : big = 2 ^ 64 := rfl
  have h2 : lv 1 = 2 ^ 65 := rfl
  obtain ⟨H, hH⟩ : ∃ H : Nat, H = 1099511627776 := ⟨_, rfl⟩
  have g' : ∀ x ∈ xs, Y2 B H x := fun x hx => by
    obtain ⟨h, hh, hx⟩ := g.2 x hx
    exact hx.mono (by have := hh hB; omega)
  have hN : big + H + 1 ≤ lv 1 := by omega
  refine ((markVal hB H g.1 g' h0 h1).up hN).mono fun z hz => ?_
  obtain ⟨ys, e1, e2, e3, hh⟩ := hz
  exact ⟨ys, e1, e2, e3, fun k hk => hh k (Nat.le_trans hN hk)⟩
theorem Yx.f_of {β : Type} {k a0 a1 z0} (h : Yx.t k a0 a1 = some z0) (K : Int → Option β) : Yx.f k a0 a1 K = K z0 := by unfold Yx.f; rw [h]; rfl
set_option maxRecDepth 100000 in
set_option maxHeartbeats 8000000 in
theorem Yx.step {u : Int} {ys5 : List (List D)} {n5 : Int} {ys6 : List (List D)} {n6 : Int} (h0 : 0 ≤ u) (hn5 : u + 1 + 1 + 1 + 1 + 1 ≤ n5) (hh5 : ∀ k, Z3 k → Ym.t k ys5 (u + 1 + 1 + 1 + 1 + 1) = some n5) (hn6 : n5 ≤ n6) (hh6 : ∀ k, (ZF 1) k → Yf.t k ys6 (n5) = some n6) (h1 : n6 ≤ 4611686018427387904) {k : Nat} (hk : (ZF 1) k) : HStep (fun xs L v => Yx.l0 k xs (fun z0 => some z0) L v) u [.int .i64 (u), .int .i64 (u + 1), .int .i64 (u + 1 + 1), .str (Yg.v (u + 1 + 1 + 1)), .int .i64 (u + 1 + 1 + 1 + 1), .sl ys5, .sl ys6] (n6) := by
  have hk0 : Z3 k := up0 hk
  intro xs i i0 i1 hl hr L
  simp (maxSteps := 4000000) (disch := first | assumption | omega) only [Yx.l0, atR, rdQ, Q.ask, ZQ i1, cond_true, cond_false, Zbp i0 i1, hr, ZY, Zad, Zaj, ZaQ, Za7, Z6, Zj, Yg.fv, Zu, bne_self_eq_false, beq_self_eq_true, Bool.not_true, Ym.f_of (hh5 k (up0 hk)), ZV (show ¬ n5 < 0 by omega), Yf.f_of (hh6 k hk), ZV (show ¬ n6 < 0 by omega)]
end Go.Proofs.Ytppfencdbabmeaa
