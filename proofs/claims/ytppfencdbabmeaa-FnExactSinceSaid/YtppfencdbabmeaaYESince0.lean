/- Printed, and by hand: the functions that FnExactSince reaches come to their end; the program's answer as the reference's. -/
import Derived.Test.YtppfencdbabmeaaXESince1
import Derived.KernelRfl
set_option linter.unusedVariables false
set_option linter.unusedSimpArgs false
namespace Go.Proofs.Ytppfencdbabmeaa
open Go Go.T Go.Proofs
theorem ZaA (n : Int) : n = 1 ∨ n = 2 ∨ n = 3 ∨ n = 4 ∨ n = 5 ∨ ((n == 1) = false ∧ (n == 2) = false ∧ (n == 3) = false ∧ (n == 4) = false ∧ (n == 5) = false) := by
  simp only [beq_eq_false_iff_ne]
  omega
theorem delR_deep {pr : List D → Option Bool} {q : List D → Bool} : ∀ {e : List (List D)}, (∀ r ∈ e, pr r = some (q r)) → delR pr (Zb e) = some (Zb (e.filter fun r => !q r))
  | [], _ => rfl
  | r :: e, h => by
    simp only [Zb, delR, ZcQ, h r (by simp), delR_deep (e := e) fun x hx => h x (by simp [hx])]
    rw [List.filter_cons]
    cases q r <;> rfl
theorem delK_deep {ix : List (List D) → Option Int} {pr : List D → Option Bool} {q : List D → Bool} {d : List (List D)} (hl : d.length ≤ 1048576) (hix : ix d = some (Zbo (fun i => q (gR d (i : Int))) d.length)) (h : ∀ r ∈ d, pr r = some (q r)) : delK ix pr (Zb d) = some (Zb (d.filter fun r => !q r)) := by
  unfold delK
  rw [ZO, hix]
  have hg : ∀ i (hi : i < d.length), gR d (i : Int) = d[i] := fun i hi => by
    have := gR_at (xs := d) (v := (i : Int)) (by omega) (by omega)
    rw [Int.toNat_natCast, List.getElem?_eq_getElem hi] at this
    injection this with this
    exact this.symm
  by_cases hz : Zbo (fun i => q (gR d (i : Int))) d.length < 0
  · obtain ⟨h1, h2⟩ := findI_none hz
    simp only [h1, if_true]
    congr 2
    symm
    rw [List.filter_eq_self]
    intro x hx
    obtain ⟨i, hi, rfl⟩ := List.mem_iff_getElem.mp hx
    have := h2 i hi
    rw [hg i hi] at this
    rw [this]; rfl
  · obtain ⟨h1, h2, h3, h4⟩ := findI_some (p := fun i => q (gR d (i : Int))) (n := d.length) (by omega)
    generalize Zbo (fun i => q (gR d (i : Int))) d.length = z at *
    simp only [show ¬ z = -1 by omega, if_false]
    rw [ZaP ⟨by omega, by rw [Zw]; omega, by rw [Zw]; omega⟩]
    have ht : ∀ m, m ≤ d.length → (Zb d).take m = Zb (d.take m) ∧ (Zb d).drop m = Zb (d.drop m) := fun m hm => by
      have e : Zb d = Zb (d.take m) ++ Zb (d.drop m) := by rw [← Zai, List.take_append_drop]
      have l : (Zb (d.take m)).length = m := by rw [Zw, List.length_take]; omega
      rw [e]
      exact ⟨List.take_left' l, List.drop_left' l⟩
    rw [(ht z.toNat (by omega)).1, (ht (z.toNat + 1) (by omega)).2, delR_deep fun r hr => h r (List.mem_of_mem_drop hr)]
    simp only []
    rw [← Zai]
    congr 2
    have h5 : d = d.take z.toNat ++ (d[z.toNat] :: d.drop (z.toNat + 1)) := by rw [List.getElem_cons_drop, List.take_append_drop]
    conv => rhs; rw [h5]
    rw [List.filter_append, List.filter_cons]
    have h7 : q d[z.toNat] = true := by have := h2; rwa [hg _ h1] at this
    rw [h7]
    simp only [Bool.not_true, Bool.false_eq_true, if_false]
    congr 1
    symm
    rw [List.filter_eq_self]
    intro x hx
    obtain ⟨i, hi, rfl⟩ := List.mem_iff_getElem.mp hx
    rw [List.length_take] at hi
    have := h4 i (by omega)
    rw [hg i (by omega)] at this
    rw [List.getElem_take, this]; rfl
theorem YB.tm {ι α : Type} {ok : ι → Prop} {ψ : α → Prop} {p : ι → Nat} {B : Nat} (hp : ∀ i, ok i → B ≤ p i) {a0 a1 φ} (h : Tm (fun k => B ≤ k) (fun k => YB.t k a0 a1) φ) {G : ι → Int → Option α} (hG : ∀ z0, φ z0 → Tm ok (fun i => G i z0) ψ) : Tm ok (fun i => YB.f (p i) a0 a1 (G i)) ψ := ZK (t := fun k => YB.t k a0 a1) hp h hG
def RS (B : Nat) (r : List D) : Prop := ∃ (c0 : ByteArray), r = [.str c0] ∧ c0.size ≤ B ∧ True
theorem RS.open {B : Nat} {r : List D} (h : RS B r) : ∃ (c0 : ByteArray), r = [.str c0] ∧ c0.size ≤ B ∧ True := h
theorem RS.mono {B B' : Nat} (hb : B ≤ B') {r : List D} (h : RS B r) : RS B' r := by
  obtain ⟨c0, rfl, k0, _⟩ := h
  exact ⟨_, rfl, (Nat.le_trans k0 hb), trivial⟩
theorem RS.wide {xs : List (List D)} (h : Zi RS lim xs) : Zi RS 2097152 xs := ⟨Nat.le_trans h.1 (by decide), fun r hr => (h.2 r hr).mono (by decide)⟩
theorem RS.len {B : Nat} {r : List D} (h : RS B r) : r.length = 1 := by
  obtain ⟨c0, rfl, _⟩ := h.open
  rfl
theorem RS.flat {B : Nat} {xs : List (List D)} (h : ∀ r ∈ xs, RS B r) : ZaZ 1 xs := fun r hr => by
  obtain ⟨c0, rfl, _⟩ := (h r hr).open
  exact ⟨rfl, by simp [Zau]⟩
theorem RS.wt {B : Nat} {xs : List (List D)} (h : ∀ r ∈ xs, RS B r) : Zp xs = 1 * xs.length := wt_flat (R := RS B) (fun r h => by obtain ⟨c0, rfl, _⟩ := h; rfl) xs h
theorem RS.deep {B : Nat} {xs : List (List D)} (h : ∀ r ∈ xs, RS B r) : Zb xs = xs.map (·.map C.d) := deep_flat (R := RS B) (fun r h => by obtain ⟨c0, rfl, _⟩ := h; rfl) xs h
theorem RS.gets {B : Nat} {xs : List (List D)} (h : ∀ r ∈ xs, RS B r) {v : Int} (h0 : 0 ≤ v) (h1 : v < xs.length) : gR xs v = [.str (gS xs v 0)] ∧ (gS xs v 0).size ≤ B ∧ True := by
  obtain ⟨c0, e, k0, _⟩ := (h (gR xs v) (gR_mem h0 h1)).open
  unfold gS
  rw [e]
  exact ⟨rfl, k0, trivial⟩
theorem RS.rows {B : Nat} {xs : List (List D)} (h : ∀ r ∈ xs, RS B r) {v : Int} (h0 : 0 ≤ v) (h1 : v < xs.length) {β : Type} (F : List D → Option β) : Zbw xs v F = F [.str (gS xs v 0)] := by
  rw [← (RS.gets h h0 h1).1]
  exact Zbp h0 h1 F
theorem RS.get {B : Nat} {xs : List (List D)} (h : Zi RS B xs) {v : Int} (h0 : 0 ≤ v) (h1 : v < xs.length) : gR xs v = [.str (gS xs v 0)] ∧ (gS xs v 0).size ≤ B ∧ True := RS.gets h.2 h0 h1
theorem RS.row {B : Nat} {xs : List (List D)} (h : Zi RS B xs) {v : Int} (h0 : 0 ≤ v) (h1 : v < xs.length) {β : Type} (F : List D → Option β) : Zbw xs v F = F [.str (gS xs v 0)] := RS.rows h.2 h0 h1 F
set_option maxRecDepth 100000 in
theorem YB.T {a0 : List (List D)} {a1 : Int} (h0 : 0 ≤ a1) (h1 : a1 ≤ 1048576) (ga0 : Zi RS maxLen a0) : Tm Z3 (fun k => YB.t k a0 a1) (fun r => r < 0 ∨ 0 ≤ r ∧ r ≤ a1 ∧ Zi RS lim a0 ∧ ((Zp a0 : Nat) : Int) ≤ 64 * (a1 - r) ∧ True) := by
  unfold YB.t YB.g
  have hm := Zy
  have hlim : lim = 1048576 := rfl
  have hlen := ga0.1
  try rw [Zj (x := a1 - (a0.length : Int)) (by omega) (by omega)]
  refine Tm.ite (fun h1 => ?_) (fun h1 => ?_)
  · try simp only [bz0, bz1, bz2, bz3, bz4, bz5, bz6, bz7, bz8, bz9, bza] at h1
    exact Tm.ret (by first | (left; omega) | (right; refine ⟨?_, ?_, ?_, ?_, trivial⟩ <;> first | assumption | omega))
  · try simp only [bz0, bz1, bz2, bz3, bz4, bz5, bz6, bz7, bz8, bz9, bza] at h1
    refine Tm.loop (okk := Z3) (p := fun k => k) (fun i hi => hi) (b := fun k => YB.l0 k a0 (fun z0 => some z0)) (fun v => match v with | (u0, i) => (((a0.length : Int)) - i).toNat) (fun v => match v with | (u0, i) => 0 ≤ u0 ∧ u0 ≤ a1 ∧ 0 ≤ i ∧ i ≤ (a0.length : Int) ∧ (∀ r ∈ a0.take i.toNat, RS lim r) ∧ ((Zp (a0.take i.toNat) : Nat) : Int) ≤ 64 * (a1 - a0.length - u0 + i)) ?_ ?_ ?_
    · rintro ⟨u0, i⟩ hI
      try simp only [] at hI ⊢
      have : big = 2 ^ 64 := rfl
      have := ga0.1
      omega
    · exact ⟨by omega, by omega, by omega, by simp, by simp, by simp [Zp]⟩
    · rintro ⟨u0, i⟩ hI L hL
      try simp only [] at hI
      obtain ⟨u0a, u0b, i0, i1, hr, hwt⟩ := hI
      simp only [YB.l0, atR, rdQ, Q.ask]
      refine Tm.ite (fun h2 => ?_) (fun h2 => ?_)
      · try simp only [bz0, bz1, bz2, bz3, bz4, bz5, bz6, bz7, bz8, bz9, bza] at h2
        refine Tm.atRow (by first | assumption | omega) (by first | assumption | omega) (fun x3 hx4 hm5 => ?_)
        obtain ⟨c6, rfl, g7, _⟩ := (ga0.2 x3 hm5).open
        refine Tm.uncons ?_
        refine Tm.dStr ?_
        refine Tm.atEnd ?_
        try rw [Zj (x := u0 - (c6.size : Int)) (by omega) (by omega)]
        refine Tm.ite (fun h8 => ?_) (fun h8 => ?_)
        · try simp only [bz0, bz1, bz2, bz3, bz4, bz5, bz6, bz7, bz8, bz9, bza] at h8
          exact Tm.ret (by first | (left; omega) | (rw [List.take_of_length_le (by omega)] at hwt; exact .inr ⟨by omega, by omega, ⟨by simp only [lim]; omega, ZcD (by omega) hr⟩, by omega, trivial⟩))
        · try simp only [bz0, bz1, bz2, bz3, bz4, bz5, bz6, bz7, bz8, bz9, bza] at h8
          try rw [Zj (x := i + 1) (by omega) (by omega)]
          have hwx := wt_take i0 hx4
          simp only [ZbG, wtD] at hwx
          refine hL ((u0 - (c6.size : Int)), (i + 1)) ⟨by omega, by omega, by omega, by omega, take_rows i0 hx4 hr ⟨_, rfl, by first | assumption | omega, trivial⟩, by omega⟩ (by (try simp only []); omega)
      · try simp only [bz0, bz1, bz2, bz3, bz4, bz5, bz6, bz7, bz8, bz9, bza] at h2
        exact Tm.ret (by first | (left; omega) | (rw [List.take_of_length_le (by omega)] at hwt; exact .inr ⟨by omega, by omega, ⟨by simp only [lim]; omega, ZcD (by omega) hr⟩, by omega, trivial⟩))
theorem Yr.tm {ι α : Type} {ok : ι → Prop} {ψ : α → Prop} {p : ι → Nat} {B : Nat} (hp : ∀ i, ok i → B ≤ p i) {a0 a1 φ} (h : Tm (fun k => B ≤ k) (fun k => Yr.t k a0 a1) φ) {G : ι → Int → Option α} (hG : ∀ z0, φ z0 → Tm ok (fun i => G i z0) ψ) : Tm ok (fun i => Yr.f (p i) a0 a1 (G i)) ψ := ZK (t := fun k => Yr.t k a0 a1) hp h hG
inductive YW (B : Nat) : Nat → List D → Prop
  | mk {h : Nat} (c0 : Int) (c1 : ByteArray) (c2 : Int) (c3 : List (List D)) (c4 : List (List D)) (k0 : (Lit.int .i64 c0).wf = true) (k1 : c1.size ≤ B) (k2 : (Lit.int .i64 c2).wf = true) (k3 : Zi RS B c3) (k4 : c4.length ≤ B) (m4 : ∀ r ∈ c4, YW B h r) : YW B (h + 1) [.int .i64 c0, .str c1, .int .i64 c2, .sl c3, .sl c4]
def Yp (B : Nat) (r : List D) : Prop := ∃ h, (B ≤ 1099511627776 → h ≤ 1099511627776) ∧ YW B h r
theorem Yp.open {B : Nat} {r : List D} (h : Yp B r) : ∃ (c0 : Int) (c1 : ByteArray) (c2 : Int) (c3 : List (List D)) (c4 : List (List D)), r = [.int .i64 c0, .str c1, .int .i64 c2, .sl c3, .sl c4] ∧ (Lit.int .i64 c0).wf = true ∧ c1.size ≤ B ∧ (Lit.int .i64 c2).wf = true ∧ Zi RS B c3 ∧ Zi Yp B c4 ∧ True := by
  obtain ⟨h, hh, h1⟩ := h
  cases h1 with
  | mk c0 c1 c2 c3 c4 k0 k1 k2 k3 k4 m4 => exact ⟨c0, c1, c2, c3, c4, rfl, k0, k1, k2, k3, ⟨k4, fun r hr => ⟨_, fun hb => by have := hh hb; omega, m4 r hr⟩⟩, trivial⟩
theorem YW.up {B B' : Nat} (hb : B ≤ B') : ∀ {h : Nat} {r : List D}, YW B h r → YW B' h r
  | _ + 1, _, .mk c0 c1 c2 c3 c4 k0 k1 k2 k3 k4 m4 => .mk c0 c1 c2 c3 c4 k0 (Nat.le_trans k1 hb) k2 ⟨Nat.le_trans k3.1 hb, fun r hr => (k3.2 r hr).mono hb⟩ (Nat.le_trans k4 hb) (fun r hr => YW.up hb (m4 r hr))
theorem Yp.mono {B B' : Nat} (hb : B ≤ B') {r : List D} (h : Yp B r) : Yp B' r := by
  obtain ⟨h, hh, h1⟩ := h
  exact ⟨h, fun h2 => hh (Nat.le_trans hb h2), h1.up hb⟩
theorem YW.mono {B : Nat} : ∀ {h h' : Nat} {r : List D}, h ≤ h' → YW B h r → YW B h' r
  | _, 0, _, hl, .mk .. => by omega
  | _ + 1, _ + 1, _, hl, .mk c0 c1 c2 c3 c4 k0 k1 k2 k3 k4 m4 => .mk c0 c1 c2 c3 c4 k0 k1 k2 k3 k4 (fun r hr => YW.mono (by omega) (m4 r hr))
theorem Yp.wide {xs : List (List D)} (h : Zi Yp lim xs) : Zi Yp 2097152 xs := ⟨Nat.le_trans h.1 (by decide), fun r hr => (h.2 r hr).mono (by decide)⟩
theorem Yp.len {B : Nat} {r : List D} (h : Yp B r) : r.length = 5 := by
  obtain ⟨c0, c1, c2, c3, c4, rfl, _⟩ := h.open
  rfl
theorem Yp.gets {B : Nat} {xs : List (List D)} (h : ∀ r ∈ xs, Yp B r) {v : Int} (h0 : 0 ≤ v) (h1 : v < xs.length) : gR xs v = [.int .i64 (gI xs v 0), .str (gS xs v 1), .int .i64 (gI xs v 2), .sl (gL xs v 3), .sl (gL xs v 4)] ∧ (Lit.int .i64 (gI xs v 0)).wf = true ∧ (gS xs v 1).size ≤ B ∧ (Lit.int .i64 (gI xs v 2)).wf = true ∧ Zi RS B (gL xs v 3) ∧ Zi Yp B (gL xs v 4) ∧ True := by
  obtain ⟨c0, c1, c2, c3, c4, e, k0, k1, k2, k3, k4, _⟩ := (h (gR xs v) (gR_mem h0 h1)).open
  unfold gI gL gS
  rw [e]
  exact ⟨rfl, k0, k1, k2, k3, k4, trivial⟩
theorem Yp.rows {B : Nat} {xs : List (List D)} (h : ∀ r ∈ xs, Yp B r) {v : Int} (h0 : 0 ≤ v) (h1 : v < xs.length) {β : Type} (F : List D → Option β) : Zbw xs v F = F [.int .i64 (gI xs v 0), .str (gS xs v 1), .int .i64 (gI xs v 2), .sl (gL xs v 3), .sl (gL xs v 4)] := by
  rw [← (Yp.gets h h0 h1).1]
  exact Zbp h0 h1 F
theorem Yp.get {B : Nat} {xs : List (List D)} (h : Zi Yp B xs) {v : Int} (h0 : 0 ≤ v) (h1 : v < xs.length) : gR xs v = [.int .i64 (gI xs v 0), .str (gS xs v 1), .int .i64 (gI xs v 2), .sl (gL xs v 3), .sl (gL xs v 4)] ∧ (Lit.int .i64 (gI xs v 0)).wf = true ∧ (gS xs v 1).size ≤ B ∧ (Lit.int .i64 (gI xs v 2)).wf = true ∧ Zi RS B (gL xs v 3) ∧ Zi Yp B (gL xs v 4) ∧ True := Yp.gets h.2 h0 h1
theorem Yp.row {B : Nat} {xs : List (List D)} (h : Zi Yp B xs) {v : Int} (h0 : 0 ≤ v) (h1 : v < xs.length) {β : Type} (F : List D → Option β) : Zbw xs v F = F [.int .i64 (gI xs v 0), .str (gS xs v 1), .int .i64 (gI xs v 2), .sl (gL xs v 3), .sl (gL xs v 4)] := Yp.rows h.2 h0 h1 F
theorem YK.tm {ι α : Type} {ok : ι → Prop} {ψ : α → Prop} {p : ι → Nat} {B : Nat} (hp : ∀ i, ok i → B ≤ p i) {aC aB aD aA aI a1 φ} (h : Tm (fun k => B ≤ k) (fun k => YK.t k aC aB aD aA aI a1) φ) {G : ι → Int → Option α} (hG : ∀ z0, φ z0 → Tm ok (fun i => G i z0) ψ) : Tm ok (fun i => YK.f (p i) aC aB aD aA aI a1 (G i)) ψ := ZK (t := fun k => YK.t k aC aB aD aA aI a1) hp h hG
set_option maxRecDepth 100000 in
theorem szVal (n : Nat) : (∀ (left : Int) (a : List (List D)), 0 ≤ left → left ≤ n → left ≤ 1048576 → Zi Yp maxLen a → Tm (fun k => big + 2 * n + 1 ≤ k) (fun k => Yr.t k a left) (fun r => r < 0 ∨ 0 ≤ r ∧ r ≤ left ∧ a.length ≤ lim ∧ (∀ x ∈ a, YW lim (left - r).toNat x) ∧ ((Zp a : Nat) : Int) ≤ 64 * (left - r))) ∧
    (∀ (left c0 : Int) (c1 : ByteArray) (c2 : Int) (c3 c4 : List (List D)), 0 ≤ left → left ≤ n → left ≤ 1048576 → c1.size ≤ maxLen → Zi RS maxLen c3 → Zi Yp maxLen c4 → Tm (fun k => big + 2 * n + 2 ≤ k) (fun k => YK.t k c0 c1 c2 c3 c4 left) (fun r => r < 0 ∨ 0 ≤ r ∧ r ≤ left ∧ c1.size ≤ lim ∧ Zi RS lim c3 ∧ c4.length ≤ lim ∧ (∀ x ∈ c4, YW lim (left - r).toNat x) ∧ ((Zp c3 + Zp c4 : Nat) : Int) ≤ 64 * (left - r))) := by
  have hm := Zy
  have hlim : lim = 1048576 := rfl
  have hb : big = 2 ^ 64 := rfl
  induction n using Nat.strongRecOn with
  | ind n ih =>
  have S : ∀ (left : Int) (a : List (List D)), 0 ≤ left → left ≤ n → left ≤ 1048576 → Zi Yp maxLen a → Tm (fun k => big + 2 * n + 1 ≤ k) (fun k => Yr.t k a left) (fun r => r < 0 ∨ 0 ≤ r ∧ r ≤ left ∧ a.length ≤ lim ∧ (∀ x ∈ a, YW lim (left - r).toNat x) ∧ ((Zp a : Nat) : Int) ≤ 64 * (left - r)) := by
    intro left a h0 h1 h2 g
    have hlen := g.1
    refine Tm.succ (g := fun k => Yr.g k a left (fun z0 => some z0)) (fun k => Yr.t_succ k a left) ?_
    unfold Yr.g Yr.body
    rw [Zj (x := left - a.length) (by omega) (by omega)]
    refine Tm.ite (fun h3 => Tm.ret (.inl (by omega))) (fun h3 => ?_)
    simp only [decide_eq_false_iff_not, Int.not_lt] at h3
    refine Tm.loop (okk := fun k => big + 2 * n ≤ k) (p := fun k => k) (fun i hi => by omega) (b := fun k => Yr.l0 k (Yr.f k) (YK.f k) a (fun z0 => some z0)) (fun v => match v with | (u0, i) => (((a.length : Int)) - i).toNat) (fun v => match v with | (u0, i) => 0 ≤ u0 ∧ u0 ≤ left - a.length ∧ 0 ≤ i ∧ i ≤ (a.length : Int) ∧ (∀ r ∈ a.take i.toNat, YW lim (left - u0).toNat r) ∧ ((Zp (a.take i.toNat) : Nat) : Int) ≤ 64 * (left - a.length - u0 + i)) ?_ ?_ ?_
    · rintro ⟨u0, i⟩ hI
      simp only [] at hI ⊢
      omega
    · exact ⟨by omega, by omega, by omega, by omega, by simp, by simp [Zp]⟩
    · rintro ⟨u0, i⟩ hI L hL
      simp only [] at hI
      obtain ⟨u0a, u0b, i0, i1, hr, hwt⟩ := hI
      simp only [Yr.l0, atR, rdQ, Q.ask]
      refine Tm.ite (fun h4 => ?_) (fun h4 => ?_)
      · simp only [decide_eq_true_eq] at h4
        refine Tm.atRow (by omega) (by omega) (fun x5 hx6 hm7 => ?_)
        obtain ⟨c0, c1, c2, c3, c4, rfl, w0, g1, w2, g3, g4, _⟩ := (g.2 x5 hm7).open
        refine Tm.uncons (Tm.dInt (Tm.uncons (Tm.dStr (Tm.uncons (Tm.dInt (Tm.uncons (Tm.dSl (Tm.uncons (Tm.dSl (Tm.atEnd ?_))))))))))
        refine YK.tm (B := big + 2 * (n - 1) + 2) (fun i hi => by have := hi.1; omega) ((ih (n - 1) (by omega)).2 u0 c0 c1 c2 c3 c4 u0a (by omega) (by omega) g1 g3 g4) (fun y hy => ?_)
        rcases hy with hy | ⟨y0, y1, q1, q3, q4, q5, qw⟩
        · exact Tm.ite (fun _ => Tm.ret (.inl (by omega))) (fun h => by simp at h; omega)
        refine Tm.ite (fun h8 => by simp at h8; omega) (fun h8 => ?_)
        rw [Zj (x := i + 1) (by omega) (by omega)]
        have hwx := wt_take i0 hx6
        simp only [ZbG, wtD] at hwx
        refine hL (y, i + 1) ⟨by omega, by omega, by omega, by omega, take_rows i0 hx6 (fun r hr' => (hr r hr').mono (by omega)) ?_, by omega⟩ (by simp only []; omega)
        exact YW.mono (h := (u0 - y).toNat + 1) (by omega) (.mk _ _ _ _ _ w0 q1 w2 q3 q4 q5)
      · simp only [decide_eq_false_iff_not, Int.not_lt] at h4
        rw [List.take_of_length_le (by omega)] at hwt
        exact Tm.ret (.inr ⟨by omega, by omega, by omega, fun x hx => (ZcD (by omega) hr x hx).mono (by omega), by omega⟩)
  refine ⟨S, ?_⟩
  intro left c0 c1 c2 c3 c4 h0 h1 h2 g1 g3 g4
  refine Tm.succ (g := fun k => YK.g k c0 c1 c2 c3 c4 left (fun z0 => some z0)) (fun k => YK.t_succ k c0 c1 c2 c3 c4 left) ?_
  unfold YK.g YK.body
  rw [Zj (x := left - c1.size) (by omega) (by omega)]
  refine Tm.ite (fun h3 => Tm.ret (.inl (by omega))) (fun h3 => ?_)
  simp only [decide_eq_false_iff_not, Int.not_lt] at h3
  refine YB.tm (B := big) (fun i hi => by omega) (YB.T (by omega) (by omega) g3) (fun y hy => ?_)
  rcases hy with hy | ⟨y0, y1, q3, qw, _⟩
  · exact Tm.ite (fun _ => Tm.ret (.inl (by omega))) (fun h => by simp at h; omega)
  refine Tm.ite (fun h8 => by simp at h8; omega) (fun h8 => ?_)
  refine Yr.tm (B := big + 2 * n + 1) (fun i hi => hi) (S y c4 y0 (by omega) (by omega) g4) (fun y' hy' => ?_)
  rcases hy' with hy' | ⟨y0', y1', q4, q5, qw'⟩
  · exact Tm.ite (fun _ => Tm.ret (.inl (by omega))) (fun h => by simp at h; omega)
  refine Tm.ite (fun h8 => by simp at h8; omega) (fun h8 => ?_)
  exact Tm.ret (.inr ⟨by omega, by omega, by omega, q3, q4, fun x hx => (q5 x hx).mono (by omega), by omega⟩)
theorem big_lv1 {n : Nat} (h : n ≤ 4398046511104) : big + n ≤ lv 1 := by
  have hb : big = 2 ^ 64 := rfl
  have : lv 1 = 2 ^ 65 := rfl
  omega
theorem YK.T {aC : Int} {aB : ByteArray} {aD : Int} {aA aI : List (List D)} {a1 : Int} (h0 : 0 ≤ a1) (h1 : a1 ≤ 1048576) (g1 : aB.size ≤ maxLen) (g3 : Zi RS maxLen aA) (g4 : Zi Yp maxLen aI) : Tm (ZF 1) (fun k => YK.t k aC aB aD aA aI a1) (fun r => r < 0 ∨ 0 ≤ r ∧ r ≤ a1 ∧ aB.size ≤ lim ∧ Zi RS lim aA ∧ Zi Yp lim aI ∧ ((Zp aA + Zp aI : Nat) : Int) ≤ 64 * (a1 - r) ∧ True) :=
  (((szVal a1.toNat).2 a1 aC aB aD aA aI h0 (by omega) h1 g1 g3 g4).up (big_lv1 (n := 2 * a1.toNat + 2) (by omega))).mono fun r hr => by
    rcases hr with hr | ⟨r0, r1, r2, r3, r4, r5, r6⟩
    · exact .inl hr
    · exact .inr ⟨r0, r1, r2, r3, ⟨r4, fun x hx => ⟨_, fun _ => by omega, r5 x hx⟩⟩, r6, trivial⟩
theorem Yag.tm {ι α : Type} {ok : ι → Prop} {ψ : α → Prop} {p : ι → Nat} {B : Nat} (hp : ∀ i, ok i → B ≤ p i) {aC aB aD aA aI aX aP aU aL aV aM aQ aT aN aW aO aR a1 φ} (h : Tm (fun k => B ≤ k) (fun k => Yag.t k aC aB aD aA aI aX aP aU aL aV aM aQ aT aN aW aO aR a1) φ) {G : ι → Int → Option α} (hG : ∀ z0, φ z0 → Tm ok (fun i => G i z0) ψ) : Tm ok (fun i => Yag.f (p i) aC aB aD aA aI aX aP aU aL aV aM aQ aT aN aW aO aR a1 (G i)) ψ := ZK (t := fun k => Yag.t k aC aB aD aA aI aX aP aU aL aV aM aQ aT aN aW aO aR a1) hp h hG
theorem Yag.T {aC : Int} {aB : ByteArray} {aD aA aI : Int} {aX : Bool} {aP : List (List D)} {aU : Int} {aL : ByteArray} {aV : Int} {aM aQ : List (List D)} {aT : Int} {aN : ByteArray} {aW : Int} {aO aR : List (List D)} {a1 : Int} (h0 : 0 ≤ a1) (h1 : a1 ≤ 1048576) (ga0_1 : aB.size ≤ maxLen) (ga0_6 : Zi RS maxLen aP) (ga0_8 : aL.size ≤ maxLen) (ga0_10 : Zi RS maxLen aM) (ga0_11 : Zi Yp maxLen aQ) (ga0_13 : aN.size ≤ maxLen) (ga0_15 : Zi RS maxLen aO) (ga0_16 : Zi Yp maxLen aR) : Tm (ZF 1) (fun k => Yag.t k aC aB aD aA aI aX aP aU aL aV aM aQ aT aN aW aO aR a1) (fun r => r < 0 ∨ 0 ≤ r ∧ r ≤ a1 ∧ aB.size ≤ lim ∧ Zi RS lim aP ∧ aL.size ≤ lim ∧ Zi RS lim aM ∧ Zi Yp lim aQ ∧ aN.size ≤ lim ∧ Zi RS lim aO ∧ Zi Yp lim aR ∧ ((Zp aP + Zp aM + Zp aQ + Zp aO + Zp aR : Nat) : Int) ≤ 64 * (a1 - r) ∧ True) := by
  unfold Yag.t Yag.g
  have hm := Zy
  have hlim : lim = 1048576 := rfl
  try rw [Zj (x := a1 - (aB.size : Int)) (by omega) (by omega)]
  refine Tm.ite (fun h1 => ?_) (fun h1 => ?_)
  · try simp only [bz0, bz1, bz2, bz3, bz4, bz5, bz6, bz7, bz8, bz9, bza] at h1
    exact Tm.ret (by first | (left; omega) | (right; refine ⟨?_, ?_, ?_, ?_, ?_, ?_, ?_, ?_, ?_, ?_, ?_, trivial⟩ <;> first | assumption | omega))
  · try simp only [bz0, bz1, bz2, bz3, bz4, bz5, bz6, bz7, bz8, bz9, bza] at h1
    refine YB.tm (fun i hi => up0 hi) (YB.T (by first | assumption | omega) (by first | assumption | omega) (by first | assumption | omega)) (fun y3 hy2 => ?_)
    rcases hy2 with hy2 | ⟨p6, p7, q4, q5, _⟩
    · exact Tm.ite (fun _ => Tm.ret (by left; omega)) (fun h => by simp at h; omega)
    refine Tm.ite (fun h8 => ?_) (fun h8 => ?_)
    · try simp only [bz0, bz1, bz2, bz3, bz4, bz5, bz6, bz7, bz8, bz9, bza] at h8
      exact Tm.ret (by first | (left; omega) | (right; refine ⟨?_, ?_, ?_, ?_, ?_, ?_, ?_, ?_, ?_, ?_, ?_, trivial⟩ <;> first | assumption | omega))
    · try simp only [bz0, bz1, bz2, bz3, bz4, bz5, bz6, bz7, bz8, bz9, bza] at h8
      refine YK.tm (fun i hi => hi) (YK.T (by first | assumption | omega) (by first | assumption | omega) (by first | assumption | omega) (by first | assumption | omega) (by first | assumption | omega)) (fun y10 hy9 => ?_)
      rcases hy9 with hy9 | ⟨p15, p16, q11, q12, q13, q14, _⟩
      · exact Tm.ite (fun _ => Tm.ret (by left; omega)) (fun h => by simp at h; omega)
      refine Tm.ite (fun h17 => ?_) (fun h17 => ?_)
      · try simp only [bz0, bz1, bz2, bz3, bz4, bz5, bz6, bz7, bz8, bz9, bza] at h17
        exact Tm.ret (by first | (left; omega) | (right; refine ⟨?_, ?_, ?_, ?_, ?_, ?_, ?_, ?_, ?_, ?_, ?_, trivial⟩ <;> first | assumption | omega))
      · try simp only [bz0, bz1, bz2, bz3, bz4, bz5, bz6, bz7, bz8, bz9, bza] at h17
        refine YK.tm (fun i hi => hi) (YK.T (by first | assumption | omega) (by first | assumption | omega) (by first | assumption | omega) (by first | assumption | omega) (by first | assumption | omega)) (fun y19 hy18 => ?_)
        rcases hy18 with hy18 | ⟨p24, p25, q20, q21, q22, q23, _⟩
        · exact Tm.ite (fun _ => Tm.ret (by left; omega)) (fun h => by simp at h; omega)
        refine Tm.ite (fun h26 => ?_) (fun h26 => ?_)
        · try simp only [bz0, bz1, bz2, bz3, bz4, bz5, bz6, bz7, bz8, bz9, bza] at h26
          exact Tm.ret (by first | (left; omega) | (right; refine ⟨?_, ?_, ?_, ?_, ?_, ?_, ?_, ?_, ?_, ?_, ?_, trivial⟩ <;> first | assumption | omega))
        · try simp only [bz0, bz1, bz2, bz3, bz4, bz5, bz6, bz7, bz8, bz9, bza] at h26
          exact Tm.ret (by first | (left; omega) | (right; refine ⟨?_, ?_, ?_, ?_, ?_, ?_, ?_, ?_, ?_, ?_, ?_, trivial⟩ <;> first | assumption | omega))
theorem YS.tm {ι α : Type} {ok : ι → Prop} {ψ : α → Prop} {p : ι → Nat} {B : Nat} (hp : ∀ i, ok i → B ≤ p i) {a0 a1 φ} (h : Tm (fun k => B ≤ k) (fun k => YS.t k a0 a1) φ) {G : ι → Int → Option α} (hG : ∀ z0, φ z0 → Tm ok (fun i => G i z0) ψ) : Tm ok (fun i => YS.f (p i) a0 a1 (G i)) ψ := ZK (t := fun k => YS.t k a0 a1) hp h hG
def Yb (B : Nat) (r : List D) : Prop := ∃ (c0 : Int) (c1 : ByteArray) (c2 : Int) (c3 : Int) (c4 : Int) (c5 : Bool) (c6 : List (List D)) (c7 : Int) (c8 : ByteArray) (c9 : Int) (c10 : List (List D)) (c11 : List (List D)) (c12 : Int) (c13 : ByteArray) (c14 : Int) (c15 : List (List D)) (c16 : List (List D)), r = [.int .i64 c0, .str c1, .int .i64 c2, .int .i64 c3, .int .i64 c4, .bool c5, .sl c6, .int .i64 c7, .str c8, .int .i64 c9, .sl c10, .sl c11, .int .i64 c12, .str c13, .int .i64 c14, .sl c15, .sl c16] ∧ (Lit.int .i64 c0).wf = true ∧ c1.size ≤ B ∧ (Lit.int .i64 c2).wf = true ∧ (Lit.int .i64 c3).wf = true ∧ (Lit.int .i64 c4).wf = true ∧ Zi RS B c6 ∧ (Lit.int .i64 c7).wf = true ∧ c8.size ≤ B ∧ (Lit.int .i64 c9).wf = true ∧ Zi RS B c10 ∧ Zi Yp B c11 ∧ (Lit.int .i64 c12).wf = true ∧ c13.size ≤ B ∧ (Lit.int .i64 c14).wf = true ∧ Zi RS B c15 ∧ Zi Yp B c16 ∧ True
theorem Yb.open {B : Nat} {r : List D} (h : Yb B r) : ∃ (c0 : Int) (c1 : ByteArray) (c2 : Int) (c3 : Int) (c4 : Int) (c5 : Bool) (c6 : List (List D)) (c7 : Int) (c8 : ByteArray) (c9 : Int) (c10 : List (List D)) (c11 : List (List D)) (c12 : Int) (c13 : ByteArray) (c14 : Int) (c15 : List (List D)) (c16 : List (List D)), r = [.int .i64 c0, .str c1, .int .i64 c2, .int .i64 c3, .int .i64 c4, .bool c5, .sl c6, .int .i64 c7, .str c8, .int .i64 c9, .sl c10, .sl c11, .int .i64 c12, .str c13, .int .i64 c14, .sl c15, .sl c16] ∧ (Lit.int .i64 c0).wf = true ∧ c1.size ≤ B ∧ (Lit.int .i64 c2).wf = true ∧ (Lit.int .i64 c3).wf = true ∧ (Lit.int .i64 c4).wf = true ∧ Zi RS B c6 ∧ (Lit.int .i64 c7).wf = true ∧ c8.size ≤ B ∧ (Lit.int .i64 c9).wf = true ∧ Zi RS B c10 ∧ Zi Yp B c11 ∧ (Lit.int .i64 c12).wf = true ∧ c13.size ≤ B ∧ (Lit.int .i64 c14).wf = true ∧ Zi RS B c15 ∧ Zi Yp B c16 ∧ True := h
theorem Yb.mono {B B' : Nat} (hb : B ≤ B') {r : List D} (h : Yb B r) : Yb B' r := by
  obtain ⟨c0, c1, c2, c3, c4, c5, c6, c7, c8, c9, c10, c11, c12, c13, c14, c15, c16, rfl, k0, k1, k2, k3, k4, k6, k7, k8, k9, k10, k11, k12, k13, k14, k15, k16, _⟩ := h
  exact ⟨_, _, _, _, _, _, _, _, _, _, _, _, _, _, _, _, _, rfl, k0, (Nat.le_trans k1 hb), k2, k3, k4, ⟨Nat.le_trans k6.1 hb, fun r hr => (k6.2 r hr).mono hb⟩, k7, (Nat.le_trans k8 hb), k9, ⟨Nat.le_trans k10.1 hb, fun r hr => (k10.2 r hr).mono hb⟩, ⟨Nat.le_trans k11.1 hb, fun r hr => (k11.2 r hr).mono hb⟩, k12, (Nat.le_trans k13 hb), k14, ⟨Nat.le_trans k15.1 hb, fun r hr => (k15.2 r hr).mono hb⟩, ⟨Nat.le_trans k16.1 hb, fun r hr => (k16.2 r hr).mono hb⟩, trivial⟩
theorem Yb.wide {xs : List (List D)} (h : Zi Yb lim xs) : Zi Yb 2097152 xs := ⟨Nat.le_trans h.1 (by decide), fun r hr => (h.2 r hr).mono (by decide)⟩
theorem Yb.len {B : Nat} {r : List D} (h : Yb B r) : r.length = 17 := by
  obtain ⟨c0, c1, c2, c3, c4, c5, c6, c7, c8, c9, c10, c11, c12, c13, c14, c15, c16, rfl, _⟩ := h.open
  rfl
theorem Yb.gets {B : Nat} {xs : List (List D)} (h : ∀ r ∈ xs, Yb B r) {v : Int} (h0 : 0 ≤ v) (h1 : v < xs.length) : gR xs v = [.int .i64 (gI xs v 0), .str (gS xs v 1), .int .i64 (gI xs v 2), .int .i64 (gI xs v 3), .int .i64 (gI xs v 4), .bool (gB xs v 5), .sl (gL xs v 6), .int .i64 (gI xs v 7), .str (gS xs v 8), .int .i64 (gI xs v 9), .sl (gL xs v 10), .sl (gL xs v 11), .int .i64 (gI xs v 12), .str (gS xs v 13), .int .i64 (gI xs v 14), .sl (gL xs v 15), .sl (gL xs v 16)] ∧ (Lit.int .i64 (gI xs v 0)).wf = true ∧ (gS xs v 1).size ≤ B ∧ (Lit.int .i64 (gI xs v 2)).wf = true ∧ (Lit.int .i64 (gI xs v 3)).wf = true ∧ (Lit.int .i64 (gI xs v 4)).wf = true ∧ Zi RS B (gL xs v 6) ∧ (Lit.int .i64 (gI xs v 7)).wf = true ∧ (gS xs v 8).size ≤ B ∧ (Lit.int .i64 (gI xs v 9)).wf = true ∧ Zi RS B (gL xs v 10) ∧ Zi Yp B (gL xs v 11) ∧ (Lit.int .i64 (gI xs v 12)).wf = true ∧ (gS xs v 13).size ≤ B ∧ (Lit.int .i64 (gI xs v 14)).wf = true ∧ Zi RS B (gL xs v 15) ∧ Zi Yp B (gL xs v 16) ∧ True := by
  obtain ⟨c0, c1, c2, c3, c4, c5, c6, c7, c8, c9, c10, c11, c12, c13, c14, c15, c16, e, k0, k1, k2, k3, k4, k6, k7, k8, k9, k10, k11, k12, k13, k14, k15, k16, _⟩ := (h (gR xs v) (gR_mem h0 h1)).open
  unfold gB gI gL gS
  rw [e]
  exact ⟨rfl, k0, k1, k2, k3, k4, k6, k7, k8, k9, k10, k11, k12, k13, k14, k15, k16, trivial⟩
theorem Yb.rows {B : Nat} {xs : List (List D)} (h : ∀ r ∈ xs, Yb B r) {v : Int} (h0 : 0 ≤ v) (h1 : v < xs.length) {β : Type} (F : List D → Option β) : Zbw xs v F = F [.int .i64 (gI xs v 0), .str (gS xs v 1), .int .i64 (gI xs v 2), .int .i64 (gI xs v 3), .int .i64 (gI xs v 4), .bool (gB xs v 5), .sl (gL xs v 6), .int .i64 (gI xs v 7), .str (gS xs v 8), .int .i64 (gI xs v 9), .sl (gL xs v 10), .sl (gL xs v 11), .int .i64 (gI xs v 12), .str (gS xs v 13), .int .i64 (gI xs v 14), .sl (gL xs v 15), .sl (gL xs v 16)] := by
  rw [← (Yb.gets h h0 h1).1]
  exact Zbp h0 h1 F
theorem Yb.get {B : Nat} {xs : List (List D)} (h : Zi Yb B xs) {v : Int} (h0 : 0 ≤ v) (h1 : v < xs.length) : gR xs v = [.int .i64 (gI xs v 0), .str (gS xs v 1), .int .i64 (gI xs v 2), .int .i64 (gI xs v 3), .int .i64 (gI xs v 4), .bool (gB xs v 5), .sl (gL xs v 6), .int .i64 (gI xs v 7), .str (gS xs v 8), .int .i64 (gI xs v 9), .sl (gL xs v 10), .sl (gL xs v 11), .int .i64 (gI xs v 12), .str (gS xs v 13), .int .i64 (gI xs v 14), .sl (gL xs v 15), .sl (gL xs v 16)] ∧ (Lit.int .i64 (gI xs v 0)).wf = true ∧ (gS xs v 1).size ≤ B ∧ (Lit.int .i64 (gI xs v 2)).wf = true ∧ (Lit.int .i64 (gI xs v 3)).wf = true ∧ (Lit.int .i64 (gI xs v 4)).wf = true ∧ Zi RS B (gL xs v 6) ∧ (Lit.int .i64 (gI xs v 7)).wf = true ∧ (gS xs v 8).size ≤ B ∧ (Lit.int .i64 (gI xs v 9)).wf = true ∧ Zi RS B (gL xs v 10) ∧ Zi Yp B (gL xs v 11) ∧ (Lit.int .i64 (gI xs v 12)).wf = true ∧ (gS xs v 13).size ≤ B ∧ (Lit.int .i64 (gI xs v 14)).wf = true ∧ Zi RS B (gL xs v 15) ∧ Zi Yp B (gL xs v 16) ∧ True := Yb.gets h.2 h0 h1
theorem Yb.row {B : Nat} {xs : List (List D)} (h : Zi Yb B xs) {v : Int} (h0 : 0 ≤ v) (h1 : v < xs.length) {β : Type} (F : List D → Option β) : Zbw xs v F = F [.int .i64 (gI xs v 0), .str (gS xs v 1), .int .i64 (gI xs v 2), .int .i64 (gI xs v 3), .int .i64 (gI xs v 4), .bool (gB xs v 5), .sl (gL xs v 6), .int .i64 (gI xs v 7), .str (gS xs v 8), .int .i64 (gI xs v 9), .sl (gL xs v 10), .sl (gL xs v 11), .int .i64 (gI xs v 12), .str (gS xs v 13), .int .i64 (gI xs v 14), .sl (gL xs v 15), .sl (gL xs v 16)] := Yb.rows h.2 h0 h1 F
set_option maxRecDepth 100000 in
theorem YS.T {a0 : List (List D)} {a1 : Int} (h0 : 0 ≤ a1) (h1 : a1 ≤ 1048576) (ga0 : Zi Yb maxLen a0) : Tm (ZF 1) (fun k => YS.t k a0 a1) (fun r => r < 0 ∨ 0 ≤ r ∧ r ≤ a1 ∧ Zi Yb lim a0 ∧ ((Zp a0 : Nat) : Int) ≤ 64 * (a1 - r) ∧ True) := by
  unfold YS.t YS.g
  have hm := Zy
  have hlim : lim = 1048576 := rfl
  have hlen := ga0.1
  try rw [Zj (x := a1 - (a0.length : Int)) (by omega) (by omega)]
  refine Tm.ite (fun h1 => ?_) (fun h1 => ?_)
  · try simp only [bz0, bz1, bz2, bz3, bz4, bz5, bz6, bz7, bz8, bz9, bza] at h1
    exact Tm.ret (by first | (left; omega) | (right; refine ⟨?_, ?_, ?_, ?_, trivial⟩ <;> first | assumption | omega))
  · try simp only [bz0, bz1, bz2, bz3, bz4, bz5, bz6, bz7, bz8, bz9, bza] at h1
    refine Tm.loop (okk := (ZF 1)) (p := fun k => k) (fun i hi => up0 hi) (b := fun k => YS.l0 k a0 (fun z0 => some z0)) (fun v => match v with | (u0, i) => (((a0.length : Int)) - i).toNat) (fun v => match v with | (u0, i) => 0 ≤ u0 ∧ u0 ≤ a1 ∧ 0 ≤ i ∧ i ≤ (a0.length : Int) ∧ (∀ r ∈ a0.take i.toNat, Yb lim r) ∧ ((Zp (a0.take i.toNat) : Nat) : Int) ≤ 64 * (a1 - a0.length - u0 + i)) ?_ ?_ ?_
    · rintro ⟨u0, i⟩ hI
      try simp only [] at hI ⊢
      have : big = 2 ^ 64 := rfl
      have := ga0.1
      omega
    · exact ⟨by omega, by omega, by omega, by simp, by simp, by simp [Zp]⟩
    · rintro ⟨u0, i⟩ hI L hL
      try simp only [] at hI
      obtain ⟨u0a, u0b, i0, i1, hr, hwt⟩ := hI
      simp only [YS.l0, atR, rdQ, Q.ask]
      refine Tm.ite (fun h2 => ?_) (fun h2 => ?_)
      · try simp only [bz0, bz1, bz2, bz3, bz4, bz5, bz6, bz7, bz8, bz9, bza] at h2
        refine Tm.atRow (by first | assumption | omega) (by first | assumption | omega) (fun x3 hx4 hm5 => ?_)
        obtain ⟨c6, c7, c8, c9, c10, c11, c12, c13, c14, c15, c16, c17, c18, c19, c20, c21, c22, rfl, g23, g24, g25, g26, g27, g28, g29, g30, g31, g32, g33, g34, g35, g36, g37, g38, _⟩ := (ga0.2 x3 hm5).open
        refine Tm.uncons ?_
        refine Tm.dInt ?_
        refine Tm.uncons ?_
        refine Tm.dStr ?_
        refine Tm.uncons ?_
        refine Tm.dInt ?_
        refine Tm.uncons ?_
        refine Tm.dInt ?_
        refine Tm.uncons ?_
        refine Tm.dInt ?_
        refine Tm.uncons ?_
        refine Tm.dBool ?_
        refine Tm.uncons ?_
        refine Tm.dSl ?_
        refine Tm.uncons ?_
        refine Tm.dInt ?_
        refine Tm.uncons ?_
        refine Tm.dStr ?_
        refine Tm.uncons ?_
        refine Tm.dInt ?_
        refine Tm.uncons ?_
        refine Tm.dSl ?_
        refine Tm.uncons ?_
        refine Tm.dSl ?_
        refine Tm.uncons ?_
        refine Tm.dInt ?_
        refine Tm.uncons ?_
        refine Tm.dStr ?_
        refine Tm.uncons ?_
        refine Tm.dInt ?_
        refine Tm.uncons ?_
        refine Tm.dSl ?_
        refine Tm.uncons ?_
        refine Tm.dSl ?_
        refine Tm.atEnd ?_
        refine Yag.tm (fun i hi => hi.1) (Yag.T (by first | assumption | omega) (by first | assumption | omega) (by first | assumption | omega) (by first | assumption | omega) (by first | assumption | omega) (by first | assumption | omega) (by first | assumption | omega) (by first | assumption | omega) (by first | assumption | omega) (by first | assumption | omega)) (fun y40 hy39 => ?_)
        rcases hy39 with hy39 | ⟨p50, p51, q41, q42, q43, q44, q45, q46, q47, q48, q49, _⟩
        · exact Tm.ite (fun _ => Tm.ret (by left; omega)) (fun h => by simp at h; omega)
        refine Tm.ite (fun h52 => ?_) (fun h52 => ?_)
        · try simp only [bz0, bz1, bz2, bz3, bz4, bz5, bz6, bz7, bz8, bz9, bza] at h52
          exact Tm.ret (by first | (left; omega) | (rw [List.take_of_length_le (by omega)] at hwt; exact .inr ⟨by omega, by omega, ⟨by simp only [lim]; omega, ZcD (by omega) hr⟩, by omega, trivial⟩))
        · try simp only [bz0, bz1, bz2, bz3, bz4, bz5, bz6, bz7, bz8, bz9, bza] at h52
          try rw [Zj (x := i + 1) (by omega) (by omega)]
          have hwx := wt_take i0 hx4
          simp only [ZbG, wtD] at hwx
          refine hL (y40, (i + 1)) ⟨by omega, by omega, by omega, by omega, take_rows i0 hx4 hr ⟨_, _, _, _, _, _, _, _, _, _, _, _, _, _, _, _, _, rfl, by first | assumption | omega, by first | assumption | omega, by first | assumption | omega, by first | assumption | omega, by first | assumption | omega, by first | assumption | omega, by first | assumption | omega, by first | assumption | omega, by first | assumption | omega, by first | assumption | omega, by first | assumption | omega, by first | assumption | omega, by first | assumption | omega, by first | assumption | omega, by first | assumption | omega, by first | assumption | omega, trivial⟩, by omega⟩ (by (try simp only []); omega)
      · try simp only [bz0, bz1, bz2, bz3, bz4, bz5, bz6, bz7, bz8, bz9, bza] at h2
        exact Tm.ret (by first | (left; omega) | (rw [List.take_of_length_le (by omega)] at hwt; exact .inr ⟨by omega, by omega, ⟨by simp only [lim]; omega, ZcD (by omega) hr⟩, by omega, trivial⟩))
theorem Y9.tm {ι α : Type} {ok : ι → Prop} {ψ : α → Prop} {p : ι → Nat} {B : Nat} (hp : ∀ i, ok i → B ≤ p i) {aC aB aD aA aI aX aP aU aL aV aM aQ aT aN aW aO aR bH bI a1 φ} (h : Tm (fun k => B ≤ k) (fun k => Y9.t k aC aB aD aA aI aX aP aU aL aV aM aQ aT aN aW aO aR bH bI a1) φ) {G : ι → Int → Option α} (hG : ∀ z0, φ z0 → Tm ok (fun i => G i z0) ψ) : Tm ok (fun i => Y9.f (p i) aC aB aD aA aI aX aP aU aL aV aM aQ aT aN aW aO aR bH bI a1 (G i)) ψ := ZK (t := fun k => Y9.t k aC aB aD aA aI aX aP aU aL aV aM aQ aT aN aW aO aR bH bI a1) hp h hG
theorem Y9.T {aC : Int} {aB : Bool} {aD : Int} {aA : ByteArray} {aI aX aP : Int} {aU : Bool} {aL : List (List D)} {aV : Int} {aM : ByteArray} {aQ : Int} {aT aN : List (List D)} {aW : Int} {aO : ByteArray} {aR : Int} {bH bI : List (List D)} {a1 : Int} (h0 : 0 ≤ a1) (h1 : a1 ≤ 1048576) (ga0_3 : aA.size ≤ maxLen) (ga0_8 : Zi RS maxLen aL) (ga0_10 : aM.size ≤ maxLen) (ga0_12 : Zi RS maxLen aT) (ga0_13 : Zi Yp maxLen aN) (ga0_15 : aO.size ≤ maxLen) (ga0_17 : Zi RS maxLen bH) (ga0_18 : Zi Yp maxLen bI) : Tm (ZF 1) (fun k => Y9.t k aC aB aD aA aI aX aP aU aL aV aM aQ aT aN aW aO aR bH bI a1) (fun r => r < 0 ∨ 0 ≤ r ∧ r ≤ a1 ∧ aA.size ≤ lim ∧ Zi RS lim aL ∧ aM.size ≤ lim ∧ Zi RS lim aT ∧ Zi Yp lim aN ∧ aO.size ≤ lim ∧ Zi RS lim bH ∧ Zi Yp lim bI ∧ ((Zp aL + Zp aT + Zp aN + Zp bH + Zp bI : Nat) : Int) ≤ 64 * (a1 - r) ∧ True) := by
  unfold Y9.t Y9.g
  have hm := Zy
  have hlim : lim = 1048576 := rfl
  refine Yag.tm (fun i hi => hi) (Yag.T (by first | assumption | omega) (by first | assumption | omega) (by first | assumption | omega) (by first | assumption | omega) (by first | assumption | omega) (by first | assumption | omega) (by first | assumption | omega) (by first | assumption | omega) (by first | assumption | omega) (by first | assumption | omega)) (fun y2 hy1 => ?_)
  rcases hy1 with hy1 | ⟨p12, p13, q3, q4, q5, q6, q7, q8, q9, q10, q11, _⟩
  · exact Tm.ite (fun _ => Tm.ret (by left; omega)) (fun h => by simp at h; omega)
  refine Tm.ite (fun h14 => ?_) (fun h14 => ?_)
  · try simp only [bz0, bz1, bz2, bz3, bz4, bz5, bz6, bz7, bz8, bz9, bza] at h14
    exact Tm.ret (by first | (left; omega) | (right; refine ⟨?_, ?_, ?_, ?_, ?_, ?_, ?_, ?_, ?_, ?_, ?_, trivial⟩ <;> first | assumption | omega))
  · try simp only [bz0, bz1, bz2, bz3, bz4, bz5, bz6, bz7, bz8, bz9, bza] at h14
    exact Tm.ret (by first | (left; omega) | (right; refine ⟨?_, ?_, ?_, ?_, ?_, ?_, ?_, ?_, ?_, ?_, ?_, trivial⟩ <;> first | assumption | omega))
theorem YF.tm {ι α : Type} {ok : ι → Prop} {ψ : α → Prop} {p : ι → Nat} {B : Nat} (hp : ∀ i, ok i → B ≤ p i) {a0 a1 φ} (h : Tm (fun k => B ≤ k) (fun k => YF.t k a0 a1) φ) {G : ι → Int → Option α} (hG : ∀ z0, φ z0 → Tm ok (fun i => G i z0) ψ) : Tm ok (fun i => YF.f (p i) a0 a1 (G i)) ψ := ZK (t := fun k => YF.t k a0 a1) hp h hG
def Ya (B : Nat) (r : List D) : Prop := ∃ (c0 : Int) (c1 : Bool) (c2 : Int) (c3 : ByteArray) (c4 : Int) (c5 : Int) (c6 : Int) (c7 : Bool) (c8 : List (List D)) (c9 : Int) (c10 : ByteArray) (c11 : Int) (c12 : List (List D)) (c13 : List (List D)) (c14 : Int) (c15 : ByteArray) (c16 : Int) (c17 : List (List D)) (c18 : List (List D)), r = [.int .i64 c0, .bool c1, .int .i64 c2, .str c3, .int .i64 c4, .int .i64 c5, .int .i64 c6, .bool c7, .sl c8, .int .i64 c9, .str c10, .int .i64 c11, .sl c12, .sl c13, .int .i64 c14, .str c15, .int .i64 c16, .sl c17, .sl c18] ∧ (Lit.int .i64 c0).wf = true ∧ (Lit.int .i64 c2).wf = true ∧ c3.size ≤ B ∧ (Lit.int .i64 c4).wf = true ∧ (Lit.int .i64 c5).wf = true ∧ (Lit.int .i64 c6).wf = true ∧ Zi RS B c8 ∧ (Lit.int .i64 c9).wf = true ∧ c10.size ≤ B ∧ (Lit.int .i64 c11).wf = true ∧ Zi RS B c12 ∧ Zi Yp B c13 ∧ (Lit.int .i64 c14).wf = true ∧ c15.size ≤ B ∧ (Lit.int .i64 c16).wf = true ∧ Zi RS B c17 ∧ Zi Yp B c18 ∧ True
theorem Ya.open {B : Nat} {r : List D} (h : Ya B r) : ∃ (c0 : Int) (c1 : Bool) (c2 : Int) (c3 : ByteArray) (c4 : Int) (c5 : Int) (c6 : Int) (c7 : Bool) (c8 : List (List D)) (c9 : Int) (c10 : ByteArray) (c11 : Int) (c12 : List (List D)) (c13 : List (List D)) (c14 : Int) (c15 : ByteArray) (c16 : Int) (c17 : List (List D)) (c18 : List (List D)), r = [.int .i64 c0, .bool c1, .int .i64 c2, .str c3, .int .i64 c4, .int .i64 c5, .int .i64 c6, .bool c7, .sl c8, .int .i64 c9, .str c10, .int .i64 c11, .sl c12, .sl c13, .int .i64 c14, .str c15, .int .i64 c16, .sl c17, .sl c18] ∧ (Lit.int .i64 c0).wf = true ∧ (Lit.int .i64 c2).wf = true ∧ c3.size ≤ B ∧ (Lit.int .i64 c4).wf = true ∧ (Lit.int .i64 c5).wf = true ∧ (Lit.int .i64 c6).wf = true ∧ Zi RS B c8 ∧ (Lit.int .i64 c9).wf = true ∧ c10.size ≤ B ∧ (Lit.int .i64 c11).wf = true ∧ Zi RS B c12 ∧ Zi Yp B c13 ∧ (Lit.int .i64 c14).wf = true ∧ c15.size ≤ B ∧ (Lit.int .i64 c16).wf = true ∧ Zi RS B c17 ∧ Zi Yp B c18 ∧ True := h
theorem Ya.mono {B B' : Nat} (hb : B ≤ B') {r : List D} (h : Ya B r) : Ya B' r := by
  obtain ⟨c0, c1, c2, c3, c4, c5, c6, c7, c8, c9, c10, c11, c12, c13, c14, c15, c16, c17, c18, rfl, k0, k2, k3, k4, k5, k6, k8, k9, k10, k11, k12, k13, k14, k15, k16, k17, k18, _⟩ := h
  exact ⟨_, _, _, _, _, _, _, _, _, _, _, _, _, _, _, _, _, _, _, rfl, k0, k2, (Nat.le_trans k3 hb), k4, k5, k6, ⟨Nat.le_trans k8.1 hb, fun r hr => (k8.2 r hr).mono hb⟩, k9, (Nat.le_trans k10 hb), k11, ⟨Nat.le_trans k12.1 hb, fun r hr => (k12.2 r hr).mono hb⟩, ⟨Nat.le_trans k13.1 hb, fun r hr => (k13.2 r hr).mono hb⟩, k14, (Nat.le_trans k15 hb), k16, ⟨Nat.le_trans k17.1 hb, fun r hr => (k17.2 r hr).mono hb⟩, ⟨Nat.le_trans k18.1 hb, fun r hr => (k18.2 r hr).mono hb⟩, trivial⟩
theorem Ya.wide {xs : List (List D)} (h : Zi Ya lim xs) : Zi Ya 2097152 xs := ⟨Nat.le_trans h.1 (by decide), fun r hr => (h.2 r hr).mono (by decide)⟩
theorem Ya.len {B : Nat} {r : List D} (h : Ya B r) : r.length = 19 := by
  obtain ⟨c0, c1, c2, c3, c4, c5, c6, c7, c8, c9, c10, c11, c12, c13, c14, c15, c16, c17, c18, rfl, _⟩ := h.open
  rfl
theorem Ya.gets {B : Nat} {xs : List (List D)} (h : ∀ r ∈ xs, Ya B r) {v : Int} (h0 : 0 ≤ v) (h1 : v < xs.length) : gR xs v = [.int .i64 (gI xs v 0), .bool (gB xs v 1), .int .i64 (gI xs v 2), .str (gS xs v 3), .int .i64 (gI xs v 4), .int .i64 (gI xs v 5), .int .i64 (gI xs v 6), .bool (gB xs v 7), .sl (gL xs v 8), .int .i64 (gI xs v 9), .str (gS xs v 10), .int .i64 (gI xs v 11), .sl (gL xs v 12), .sl (gL xs v 13), .int .i64 (gI xs v 14), .str (gS xs v 15), .int .i64 (gI xs v 16), .sl (gL xs v 17), .sl (gL xs v 18)] ∧ (Lit.int .i64 (gI xs v 0)).wf = true ∧ (Lit.int .i64 (gI xs v 2)).wf = true ∧ (gS xs v 3).size ≤ B ∧ (Lit.int .i64 (gI xs v 4)).wf = true ∧ (Lit.int .i64 (gI xs v 5)).wf = true ∧ (Lit.int .i64 (gI xs v 6)).wf = true ∧ Zi RS B (gL xs v 8) ∧ (Lit.int .i64 (gI xs v 9)).wf = true ∧ (gS xs v 10).size ≤ B ∧ (Lit.int .i64 (gI xs v 11)).wf = true ∧ Zi RS B (gL xs v 12) ∧ Zi Yp B (gL xs v 13) ∧ (Lit.int .i64 (gI xs v 14)).wf = true ∧ (gS xs v 15).size ≤ B ∧ (Lit.int .i64 (gI xs v 16)).wf = true ∧ Zi RS B (gL xs v 17) ∧ Zi Yp B (gL xs v 18) ∧ True := by
  obtain ⟨c0, c1, c2, c3, c4, c5, c6, c7, c8, c9, c10, c11, c12, c13, c14, c15, c16, c17, c18, e, k0, k2, k3, k4, k5, k6, k8, k9, k10, k11, k12, k13, k14, k15, k16, k17, k18, _⟩ := (h (gR xs v) (gR_mem h0 h1)).open
  unfold gB gI gL gS
  rw [e]
  exact ⟨rfl, k0, k2, k3, k4, k5, k6, k8, k9, k10, k11, k12, k13, k14, k15, k16, k17, k18, trivial⟩
theorem Ya.rows {B : Nat} {xs : List (List D)} (h : ∀ r ∈ xs, Ya B r) {v : Int} (h0 : 0 ≤ v) (h1 : v < xs.length) {β : Type} (F : List D → Option β) : Zbw xs v F = F [.int .i64 (gI xs v 0), .bool (gB xs v 1), .int .i64 (gI xs v 2), .str (gS xs v 3), .int .i64 (gI xs v 4), .int .i64 (gI xs v 5), .int .i64 (gI xs v 6), .bool (gB xs v 7), .sl (gL xs v 8), .int .i64 (gI xs v 9), .str (gS xs v 10), .int .i64 (gI xs v 11), .sl (gL xs v 12), .sl (gL xs v 13), .int .i64 (gI xs v 14), .str (gS xs v 15), .int .i64 (gI xs v 16), .sl (gL xs v 17), .sl (gL xs v 18)] := by
  rw [← (Ya.gets h h0 h1).1]
  exact Zbp h0 h1 F
theorem Ya.get {B : Nat} {xs : List (List D)} (h : Zi Ya B xs) {v : Int} (h0 : 0 ≤ v) (h1 : v < xs.length) : gR xs v = [.int .i64 (gI xs v 0), .bool (gB xs v 1), .int .i64 (gI xs v 2), .str (gS xs v 3), .int .i64 (gI xs v 4), .int .i64 (gI xs v 5), .int .i64 (gI xs v 6), .bool (gB xs v 7), .sl (gL xs v 8), .int .i64 (gI xs v 9), .str (gS xs v 10), .int .i64 (gI xs v 11), .sl (gL xs v 12), .sl (gL xs v 13), .int .i64 (gI xs v 14), .str (gS xs v 15), .int .i64 (gI xs v 16), .sl (gL xs v 17), .sl (gL xs v 18)] ∧ (Lit.int .i64 (gI xs v 0)).wf = true ∧ (Lit.int .i64 (gI xs v 2)).wf = true ∧ (gS xs v 3).size ≤ B ∧ (Lit.int .i64 (gI xs v 4)).wf = true ∧ (Lit.int .i64 (gI xs v 5)).wf = true ∧ (Lit.int .i64 (gI xs v 6)).wf = true ∧ Zi RS B (gL xs v 8) ∧ (Lit.int .i64 (gI xs v 9)).wf = true ∧ (gS xs v 10).size ≤ B ∧ (Lit.int .i64 (gI xs v 11)).wf = true ∧ Zi RS B (gL xs v 12) ∧ Zi Yp B (gL xs v 13) ∧ (Lit.int .i64 (gI xs v 14)).wf = true ∧ (gS xs v 15).size ≤ B ∧ (Lit.int .i64 (gI xs v 16)).wf = true ∧ Zi RS B (gL xs v 17) ∧ Zi Yp B (gL xs v 18) ∧ True := Ya.gets h.2 h0 h1
theorem Ya.row {B : Nat} {xs : List (List D)} (h : Zi Ya B xs) {v : Int} (h0 : 0 ≤ v) (h1 : v < xs.length) {β : Type} (F : List D → Option β) : Zbw xs v F = F [.int .i64 (gI xs v 0), .bool (gB xs v 1), .int .i64 (gI xs v 2), .str (gS xs v 3), .int .i64 (gI xs v 4), .int .i64 (gI xs v 5), .int .i64 (gI xs v 6), .bool (gB xs v 7), .sl (gL xs v 8), .int .i64 (gI xs v 9), .str (gS xs v 10), .int .i64 (gI xs v 11), .sl (gL xs v 12), .sl (gL xs v 13), .int .i64 (gI xs v 14), .str (gS xs v 15), .int .i64 (gI xs v 16), .sl (gL xs v 17), .sl (gL xs v 18)] := Ya.rows h.2 h0 h1 F
set_option maxRecDepth 100000 in
theorem YF.T {a0 : List (List D)} {a1 : Int} (h0 : 0 ≤ a1) (h1 : a1 ≤ 1048576) (ga0 : Zi Ya maxLen a0) : Tm (ZF 1) (fun k => YF.t k a0 a1) (fun r => r < 0 ∨ 0 ≤ r ∧ r ≤ a1 ∧ Zi Ya lim a0 ∧ ((Zp a0 : Nat) : Int) ≤ 64 * (a1 - r) ∧ True) := by
  unfold YF.t YF.g
  have hm := Zy
  have hlim : lim = 1048576 := rfl
  have hlen := ga0.1
  try rw [Zj (x := a1 - (a0.length : Int)) (by omega) (by omega)]
  refine Tm.ite (fun h1 => ?_) (fun h1 => ?_)
  · try simp only [bz0, bz1, bz2, bz3, bz4, bz5, bz6, bz7, bz8, bz9, bza] at h1
    exact Tm.ret (by first | (left; omega) | (right; refine ⟨?_, ?_, ?_, ?_, trivial⟩ <;> first | assumption | omega))
  · try simp only [bz0, bz1, bz2, bz3, bz4, bz5, bz6, bz7, bz8, bz9, bza] at h1
    refine Tm.loop (okk := (ZF 1)) (p := fun k => k) (fun i hi => up0 hi) (b := fun k => YF.l0 k a0 (fun z0 => some z0)) (fun v => match v with | (u0, i) => (((a0.length : Int)) - i).toNat) (fun v => match v with | (u0, i) => 0 ≤ u0 ∧ u0 ≤ a1 ∧ 0 ≤ i ∧ i ≤ (a0.length : Int) ∧ (∀ r ∈ a0.take i.toNat, Ya lim r) ∧ ((Zp (a0.take i.toNat) : Nat) : Int) ≤ 64 * (a1 - a0.length - u0 + i)) ?_ ?_ ?_
    · rintro ⟨u0, i⟩ hI
      try simp only [] at hI ⊢
      have : big = 2 ^ 64 := rfl
      have := ga0.1
      omega
    · exact ⟨by omega, by omega, by omega, by simp, by simp, by simp [Zp]⟩
    · rintro ⟨u0, i⟩ hI L hL
      try simp only [] at hI
      obtain ⟨u0a, u0b, i0, i1, hr, hwt⟩ := hI
      simp only [YF.l0, atR, rdQ, Q.ask]
      refine Tm.ite (fun h2 => ?_) (fun h2 => ?_)
      · try simp only [bz0, bz1, bz2, bz3, bz4, bz5, bz6, bz7, bz8, bz9, bza] at h2
        refine Tm.atRow (by first | assumption | omega) (by first | assumption | omega) (fun x3 hx4 hm5 => ?_)
        obtain ⟨c6, c7, c8, c9, c10, c11, c12, c13, c14, c15, c16, c17, c18, c19, c20, c21, c22, c23, c24, rfl, g25, g26, g27, g28, g29, g30, g31, g32, g33, g34, g35, g36, g37, g38, g39, g40, g41, _⟩ := (ga0.2 x3 hm5).open
        refine Tm.uncons ?_
        refine Tm.dInt ?_
        refine Tm.uncons ?_
        refine Tm.dBool ?_
        refine Tm.uncons ?_
        refine Tm.dInt ?_
        refine Tm.uncons ?_
        refine Tm.dStr ?_
        refine Tm.uncons ?_
        refine Tm.dInt ?_
        refine Tm.uncons ?_
        refine Tm.dInt ?_
        refine Tm.uncons ?_
        refine Tm.dInt ?_
        refine Tm.uncons ?_
        refine Tm.dBool ?_
        refine Tm.uncons ?_
        refine Tm.dSl ?_
        refine Tm.uncons ?_
        refine Tm.dInt ?_
        refine Tm.uncons ?_
        refine Tm.dStr ?_
        refine Tm.uncons ?_
        refine Tm.dInt ?_
        refine Tm.uncons ?_
        refine Tm.dSl ?_
        refine Tm.uncons ?_
        refine Tm.dSl ?_
        refine Tm.uncons ?_
        refine Tm.dInt ?_
        refine Tm.uncons ?_
        refine Tm.dStr ?_
        refine Tm.uncons ?_
        refine Tm.dInt ?_
        refine Tm.uncons ?_
        refine Tm.dSl ?_
        refine Tm.uncons ?_
        refine Tm.dSl ?_
        refine Tm.atEnd ?_
        refine Y9.tm (fun i hi => hi.1) (Y9.T (by first | assumption | omega) (by first | assumption | omega) (by first | assumption | omega) (by first | assumption | omega) (by first | assumption | omega) (by first | assumption | omega) (by first | assumption | omega) (by first | assumption | omega) (by first | assumption | omega) (by first | assumption | omega)) (fun y43 hy42 => ?_)
        rcases hy42 with hy42 | ⟨p53, p54, q44, q45, q46, q47, q48, q49, q50, q51, q52, _⟩
        · exact Tm.ite (fun _ => Tm.ret (by left; omega)) (fun h => by simp at h; omega)
        refine Tm.ite (fun h55 => ?_) (fun h55 => ?_)
        · try simp only [bz0, bz1, bz2, bz3, bz4, bz5, bz6, bz7, bz8, bz9, bza] at h55
          exact Tm.ret (by first | (left; omega) | (rw [List.take_of_length_le (by omega)] at hwt; exact .inr ⟨by omega, by omega, ⟨by simp only [lim]; omega, ZcD (by omega) hr⟩, by omega, trivial⟩))
        · try simp only [bz0, bz1, bz2, bz3, bz4, bz5, bz6, bz7, bz8, bz9, bza] at h55
          try rw [Zj (x := i + 1) (by omega) (by omega)]
          have hwx := wt_take i0 hx4
          simp only [ZbG, wtD] at hwx
          refine hL (y43, (i + 1)) ⟨by omega, by omega, by omega, by omega, take_rows i0 hx4 hr ⟨_, _, _, _, _, _, _, _, _, _, _, _, _, _, _, _, _, _, _, rfl, by first | assumption | omega, by first | assumption | omega, by first | assumption | omega, by first | assumption | omega, by first | assumption | omega, by first | assumption | omega, by first | assumption | omega, by first | assumption | omega, by first | assumption | omega, by first | assumption | omega, by first | assumption | omega, by first | assumption | omega, by first | assumption | omega, by first | assumption | omega, by first | assumption | omega, by first | assumption | omega, by first | assumption | omega, trivial⟩, by omega⟩ (by (try simp only []); omega)
      · try simp only [bz0, bz1, bz2, bz3, bz4, bz5, bz6, bz7, bz8, bz9, bza] at h2
        exact Tm.ret (by first | (left; omega) | (rw [List.take_of_length_le (by omega)] at hwt; exact .inr ⟨by omega, by omega, ⟨by simp only [lim]; omega, ZcD (by omega) hr⟩, by omega, trivial⟩))
theorem Yal.tm {ι α : Type} {ok : ι → Prop} {ψ : α → Prop} {p : ι → Nat} {B : Nat} (hp : ∀ i, ok i → B ≤ p i) {aC aB aD aA a1 φ} (h : Tm (fun k => B ≤ k) (fun k => Yal.t k aC aB aD aA a1) φ) {G : ι → Int → Option α} (hG : ∀ z0, φ z0 → Tm ok (fun i => G i z0) ψ) : Tm ok (fun i => Yal.f (p i) aC aB aD aA a1 (G i)) ψ := ZK (t := fun k => Yal.t k aC aB aD aA a1) hp h hG
theorem Yal.T {aC : List (List D)} {aB aD : Int} {aA : List (List D)} {a1 : Int} (h0 : 0 ≤ a1) (h1 : a1 ≤ 1048576) (ga0_0 : Zi Yb maxLen aC) (ga0_3 : Zi Ya maxLen aA) : Tm (ZF 1) (fun k => Yal.t k aC aB aD aA a1) (fun r => r < 0 ∨ 0 ≤ r ∧ r ≤ a1 ∧ Zi Yb lim aC ∧ Zi Ya lim aA ∧ ((Zp aC + Zp aA : Nat) : Int) ≤ 64 * (a1 - r) ∧ True) := by
  unfold Yal.t Yal.g
  have hm := Zy
  have hlim : lim = 1048576 := rfl
  refine YS.tm (fun i hi => hi) (YS.T (by first | assumption | omega) (by first | assumption | omega) (by first | assumption | omega)) (fun y2 hy1 => ?_)
  rcases hy1 with hy1 | ⟨p5, p6, q3, q4, _⟩
  · exact Tm.ite (fun _ => Tm.ret (by left; omega)) (fun h => by simp at h; omega)
  refine Tm.ite (fun h7 => ?_) (fun h7 => ?_)
  · try simp only [bz0, bz1, bz2, bz3, bz4, bz5, bz6, bz7, bz8, bz9, bza] at h7
    exact Tm.ret (by first | (left; omega) | (right; refine ⟨?_, ?_, ?_, ?_, ?_, trivial⟩ <;> first | assumption | omega))
  · try simp only [bz0, bz1, bz2, bz3, bz4, bz5, bz6, bz7, bz8, bz9, bza] at h7
    refine YF.tm (fun i hi => hi) (YF.T (by first | assumption | omega) (by first | assumption | omega) (by first | assumption | omega)) (fun y9 hy8 => ?_)
    rcases hy8 with hy8 | ⟨p12, p13, q10, q11, _⟩
    · exact Tm.ite (fun _ => Tm.ret (by left; omega)) (fun h => by simp at h; omega)
    refine Tm.ite (fun h14 => ?_) (fun h14 => ?_)
    · try simp only [bz0, bz1, bz2, bz3, bz4, bz5, bz6, bz7, bz8, bz9, bza] at h14
      exact Tm.ret (by first | (left; omega) | (right; refine ⟨?_, ?_, ?_, ?_, ?_, trivial⟩ <;> first | assumption | omega))
    · try simp only [bz0, bz1, bz2, bz3, bz4, bz5, bz6, bz7, bz8, bz9, bza] at h14
      exact Tm.ret (by first | (left; omega) | (right; refine ⟨?_, ?_, ?_, ?_, ?_, trivial⟩ <;> first | assumption | omega))
theorem YA.tm {ι α : Type} {ok : ι → Prop} {ψ : α → Prop} {p : ι → Nat} {B : Nat} (hp : ∀ i, ok i → B ≤ p i) {a0 φ} (h : Tm (fun k => B ≤ k) (fun k => YA.t k a0) φ) {G : ι → (List (List C)) → Option α} (hG : ∀ z0, φ z0 → Tm ok (fun i => G i z0) ψ) : Tm ok (fun i => YA.f (p i) a0 (G i)) ψ := ZK (t := fun k => YA.t k a0) hp h hG
set_option maxRecDepth 100000 in
theorem YA.T {a0 : List (List D)} (ga0 : Zi RS lim a0) : Tm Z3 (fun k => YA.t k a0) (fun z => z = Zb a0 ∧ True) := by
  unfold YA.t YA.g
  have hm := Zy
  have hlim : lim = 1048576 := rfl
  have hlen := ga0.1
  refine Tm.guard (by first | omega | (simp only [lim, Zy, ZN] at *; omega) | (simp only [lim, ZN] at *; refine ⟨?_, ?_, ?_, ?_⟩ <;> omega)) ?_
  refine Tm.loop (okk := Z3) (p := fun k => k) (fun i hi => hi) (b := fun k => YA.l0 k a0 (fun z0 => some z0)) (fun v => match v with | (i, u1) => (((a0.length : Int)) - i).toNat) (fun v => match v with | (i, u1) => 0 ≤ i ∧ i ≤ (a0.length : Int) ∧ Zbq a0 ([.d (.str (⟨#[]⟩ : ByteArray))] : List C) i u1) ?_ ?_ ?_
  · rintro ⟨i, u1⟩ hI
    try simp only [] at hI ⊢
    have : big = 2 ^ 64 := rfl
    have := ga0.1
    simp only [lim] at this
    omega
  · exact ⟨by omega, by simp, Zbq.start _ _⟩
  · rintro ⟨i, u1⟩ hI L hL
    try simp only [] at hI
    obtain ⟨i0, i1, hF⟩ := hI
    have hFl := hF.len i1
    simp only [YA.l0, atR, rdQ, Q.ask]
    refine Tm.ite (fun h1 => ?_) (fun h1 => ?_)
    · try simp only [bz0, bz1, bz2, bz3, bz4, bz5, bz6, bz7, bz8, bz9, bza] at h1
      refine Tm.atRow (by first | assumption | omega) (by first | assumption | omega) (fun x2 hx3 hm4 => ?_)
      obtain ⟨c5, rfl, g6, _⟩ := (ga0.2 x2 hm4).open
      refine Tm.uncons ?_
      refine Tm.dStr ?_
      refine Tm.atEnd ?_
      refine Tm.guard (by first | omega | (simp only [lim, Zy, ZN] at *; omega) | (simp only [lim, ZN] at *; refine ⟨?_, ?_, ?_, ?_⟩ <;> omega)) ?_
      refine Tm.guard (by first | omega | (simp only [lim, Zy, ZN] at *; omega) | (simp only [lim, ZN] at *; refine ⟨?_, ?_, ?_, ?_⟩ <;> omega)) ?_
      try rw [Zj (x := i + 1) (by omega) (by omega)]
      refine hL (_, _) ⟨by omega, by omega, hF.next i0 hx3 rfl (by simp [ZZ, ZbW])⟩ (by (try simp only []); omega)
    · try simp only [bz0, bz1, bz2, bz3, bz4, bz5, bz6, bz7, bz8, bz9, bza] at h1
      exact Tm.ret (by exact ⟨hF.all (by omega), trivial⟩)
theorem Yq.tm {ι α : Type} {ok : ι → Prop} {ψ : α → Prop} {p : ι → Nat} {B : Nat} (hp : ∀ i, ok i → B ≤ p i) {a0 φ} (h : Tm (fun k => B ≤ k) (fun k => Yq.t k a0) φ) {G : ι → (List (List C)) → Option α} (hG : ∀ z0, φ z0 → Tm ok (fun i => G i z0) ψ) : Tm ok (fun i => Yq.f (p i) a0 (G i)) ψ := ZK (t := fun k => Yq.t k a0) hp h hG
theorem YJ.tm {ι α : Type} {ok : ι → Prop} {ψ : α → Prop} {p : ι → Nat} {B : Nat} (hp : ∀ i, ok i → B ≤ p i) {aC aB aD aA aI φ} (h : Tm (fun k => B ≤ k) (fun k => YJ.t k aC aB aD aA aI) φ) {G : ι → Int → ByteArray → Int → (List (List C)) → (List (List C)) → Option α} (hG : ∀ z0 z1 z2 z3 z4, φ (z0, z1, z2, z3, z4) → Tm ok (fun i => G i z0 z1 z2 z3 z4) ψ) : Tm ok (fun i => YJ.f (p i) aC aB aD aA aI (G i)) ψ := bd5_tm (t := fun k => YJ.t k aC aB aD aA aI) hp h hG
set_option maxRecDepth 100000 in
theorem toVal (n : Nat) : (∀ (a : List (List D)), a.length ≤ lim → (∀ x ∈ a, YW lim n x) → Tm (fun k => big + 2 * n + 1 ≤ k) (fun k => Yq.t k a) (fun z => z = Zb a)) ∧
    (∀ (c0 : Int) (c1 : ByteArray) (c2 : Int) (c3 c4 : List (List D)), c1.size ≤ lim → Zi RS lim c3 → c4.length ≤ lim → (∀ x ∈ c4, YW lim n x) → Tm (fun k => big + 2 * n + 2 ≤ k) (fun k => YJ.t k c0 c1 c2 c3 c4) (fun z => z.1 = c0 ∧ z.2.1 = c1 ∧ z.2.2.1 = c2 ∧ z.2.2.2.1 = Zb c3 ∧ z.2.2.2.2 = Zb c4)) := by
  have hm : ZN = 2 ^ 36 := rfl
  have hlim : lim = 1048576 := rfl
  have hb : big = 2 ^ 64 := rfl
  induction n using Nat.strongRecOn with
  | ind n ih =>
  have S : ∀ (a : List (List D)), a.length ≤ lim → (∀ x ∈ a, YW lim n x) → Tm (fun k => big + 2 * n + 1 ≤ k) (fun k => Yq.t k a) (fun z => z = Zb a) := by
    intro a hlen g
    refine Tm.succ (g := fun k => Yq.g k a (fun z0 => some z0)) (fun k => Yq.t_succ k a) ?_
    unfold Yq.g Yq.body Yq.m
    refine Tm.guard ⟨by omega, by omega, by omega, by omega⟩ ?_
    refine Tm.loop (okk := fun k => big + 2 * n ≤ k) (p := fun k => k) (fun i hi => by omega) (b := fun k => Yq.l0 k (Yq.f k) (YJ.f k) a (fun z0 => some z0)) (fun v => match v with | (i, u1) => (((a.length : Int)) - i).toNat) (fun v => match v with | (i, u1) => 0 ≤ i ∧ i ≤ (a.length : Int) ∧ Zbq a ([.d (.int .i64 0), .d (.str (⟨#[]⟩ : ByteArray)), .d (.int .i64 0), .own ([] : List (List C)), .own ([] : List (List C))] : List C) i u1) ?_ ?_ ?_
    · rintro ⟨i, u1⟩ hI
      simp only [] at hI ⊢
      omega
    · exact ⟨by omega, by simp, Zbq.start _ _⟩
    · rintro ⟨i, u1⟩ hI L hL
      simp only [] at hI
      obtain ⟨i0, i1, hF⟩ := hI
      have hFl := hF.len i1
      simp only [Yq.l0, atR, rdQ, Q.ask]
      refine Tm.ite (fun h4 => ?_) (fun h4 => ?_)
      · simp only [decide_eq_true_eq] at h4
        refine Tm.atRow (by omega) (by omega) (fun x5 hx6 hm7 => ?_)
        obtain ⟨n', hn', c0, c1, c2, c3, c4, rfl, w0, g1, w2, g3, l4, g4⟩ : ∃ n', n = n' + 1 ∧ ∃ c0 c1 c2 c3 c4, x5 = [.int .i64 c0, .str c1, .int .i64 c2, .sl c3, .sl c4] ∧ (Lit.int .i64 c0).wf = true ∧ c1.size ≤ lim ∧ (Lit.int .i64 c2).wf = true ∧ Zi RS lim c3 ∧ c4.length ≤ lim ∧ ∀ x ∈ c4, YW lim n' x := by
          have := g x5 hm7
          cases this with
          | mk c0 c1 c2 c3 c4 w0 g1 w2 g3 l4 g4 => exact ⟨_, rfl, _, _, _, _, _, rfl, w0, g1, w2, g3, l4, g4⟩
        refine Tm.uncons (Tm.dInt (Tm.uncons (Tm.dStr (Tm.uncons (Tm.dInt (Tm.uncons (Tm.dSl (Tm.uncons (Tm.dSl (Tm.atEnd ?_))))))))))
        refine YJ.tm (B := big + 2 * n' + 2) (fun i hi => by have := hi.1; omega) ((ih n' (by omega)).2 c0 c1 c2 c3 c4 g1 g3 l4 g4) (fun y0 y1 y2 y3 y4 hy => ?_)
        simp only [] at hy
        obtain ⟨rfl, rfl, rfl, e3, e4⟩ := hy
        refine Tm.guard (by omega) (Tm.guard (by omega) ?_)
        rw [Zj (x := i + 1) (by omega) (by omega)]
        exact hL (_, _) ⟨by omega, by omega, hF.next i0 hx6 rfl (by simp [ZZ, ZbW, e3, e4])⟩ (by simp only []; omega)
      · simp only [decide_eq_false_iff_not, Int.not_lt] at h4
        exact Tm.ret (hF.all (by omega))
  refine ⟨S, ?_⟩
  intro c0 c1 c2 c3 c4 g1 g3 l4 g4
  refine Tm.succ (g := fun k => YJ.g k c0 c1 c2 c3 c4 (fun z0 z1 z2 z3 z4 => some (z0, z1, z2, z3, z4))) (fun k => YJ.t_succ k c0 c1 c2 c3 c4) ?_
  unfold YJ.g YJ.body
  refine YA.tm (B := big) (fun i hi => by omega) (YA.T g3) (fun y hy => ?_)
  refine Yq.tm (B := big + 2 * n + 1) (fun i hi => hi) (S c4 l4 g4) (fun y' hy' => ?_)
  exact Tm.ret ⟨rfl, rfl, rfl, hy.1, hy'⟩
theorem YJ.T {aC : Int} {aB : ByteArray} {aD : Int} {aA aI : List (List D)} (g1 : aB.size ≤ lim) (g3 : Zi RS lim aA) (g4 : Zi Yp lim aI) : Tm (ZF 1) (fun k => YJ.t k aC aB aD aA aI) (fun z => z.1 = aC ∧ z.2.1 = aB ∧ z.2.2.1 = aD ∧ z.2.2.2.1 = Zb aA ∧ z.2.2.2.2 = Zb aI ∧ True) := by
  have hlim : lim = 1048576 := rfl
  have g' : ∀ x ∈ aI, YW lim 1099511627776 x := fun x hx => by
    obtain ⟨h, hh, hx⟩ := g4.2 x hx
    exact hx.mono (hh (by decide))
  exact (((toVal 1099511627776).2 aC aB aD aA aI g1 g3 g4.1 g').up (big_lv1 (n := 2 * 1099511627776 + 2) (by omega))).mono fun r hr => ⟨hr.1, hr.2.1, hr.2.2.1, hr.2.2.2.1, hr.2.2.2.2, trivial⟩
theorem Y8.f_of {β : Type} {k : Nat} {aC : Int} {aB : ByteArray} {aD aA aI : Int} {aX : Bool} {aP : List (List D)} {aU : Int} {aL : ByteArray} {aV : Int} {aM aQ : List (List D)} {aT : Int} {aN : ByteArray} {aW : Int} {aO aR : List (List D)} {z0 : Int} {z1 : ByteArray} {z2 z3 z4 : Int} {z5 : Bool} {z6 : List (List C)} {z7 : Int} {z8 : ByteArray} {z9 : Int} {z10 z11 : List (List C)} {z12 : Int} {z13 : ByteArray} {z14 : Int} {z15 z16 : List (List C)} (h : Y8.t k aC aB aD aA aI aX aP aU aL aV aM aQ aT aN aW aO aR = some (z0, z1, z2, z3, z4, z5, z6, z7, z8, z9, z10, z11, z12, z13, z14, z15, z16)) (K : Int → ByteArray → Int → Int → Int → Bool → (List (List C)) → Int → ByteArray → Int → (List (List C)) → (List (List C)) → Int → ByteArray → Int → (List (List C)) → (List (List C)) → Option β) : Y8.f k aC aB aD aA aI aX aP aU aL aV aM aQ aT aN aW aO aR K = K z0 z1 z2 z3 z4 z5 z6 z7 z8 z9 z10 z11 z12 z13 z14 z15 z16 := by
  unfold Y8.f
  rw [h]
theorem Y8.tm {ι α : Type} {ok : ι → Prop} {ψ : α → Prop} {p : ι → Nat} {B : Nat} (hp : ∀ i, ok i → B ≤ p i) {aC : Int} {aB : ByteArray} {aD aA aI : Int} {aX : Bool} {aP : List (List D)} {aU : Int} {aL : ByteArray} {aV : Int} {aM aQ : List (List D)} {aT : Int} {aN : ByteArray} {aW : Int} {aO aR : List (List D)} {φ : Int × ByteArray × Int × Int × Int × Bool × (List (List C)) × Int × ByteArray × Int × (List (List C)) × (List (List C)) × Int × ByteArray × Int × (List (List C)) × (List (List C)) → Prop} (h : Tm (fun k => B ≤ k) (fun k => Y8.t k aC aB aD aA aI aX aP aU aL aV aM aQ aT aN aW aO aR) φ) {G : ι → Int → ByteArray → Int → Int → Int → Bool → (List (List C)) → Int → ByteArray → Int → (List (List C)) → (List (List C)) → Int → ByteArray → Int → (List (List C)) → (List (List C)) → Option α} (hG : ∀ z0 z1 z2 z3 z4 z5 z6 z7 z8 z9 z10 z11 z12 z13 z14 z15 z16, φ (z0, z1, z2, z3, z4, z5, z6, z7, z8, z9, z10, z11, z12, z13, z14, z15, z16) → Tm ok (fun ι0 => G ι0 z0 z1 z2 z3 z4 z5 z6 z7 z8 z9 z10 z11 z12 z13 z14 z15 z16) ψ) : Tm ok (fun ι0 => Y8.f (p ι0) aC aB aD aA aI aX aP aU aL aV aM aQ aT aN aW aO aR (G ι0)) ψ := by
  obtain ⟨⟨z0, z1, z2, z3, z4, z5, z6, z7, z8, z9, z10, z11, z12, z13, z14, z15, z16⟩, h1, h2⟩ := h
  exact (hG z0 z1 z2 z3 z4 z5 z6 z7 z8 z9 z10 z11 z12 z13 z14 z15 z16 h1).congr fun i0 hi0 => Y8.f_of (h2 (p i0) (hp i0 hi0)) _
theorem Y8.T {aC : Int} {aB : ByteArray} {aD aA aI : Int} {aX : Bool} {aP : List (List D)} {aU : Int} {aL : ByteArray} {aV : Int} {aM aQ : List (List D)} {aT : Int} {aN : ByteArray} {aW : Int} {aO aR : List (List D)} (ga0_1 : aB.size ≤ lim) (ga0_6 : Zi RS lim aP) (ga0_8 : aL.size ≤ lim) (ga0_10 : Zi RS lim aM) (ga0_11 : Zi Yp lim aQ) (ga0_13 : aN.size ≤ lim) (ga0_15 : Zi RS lim aO) (ga0_16 : Zi Yp lim aR) : Tm (ZF 1) (fun k => Y8.t k aC aB aD aA aI aX aP aU aL aV aM aQ aT aN aW aO aR) (fun z => z.1 = aC ∧ z.2.1 = aB ∧ z.2.2.1 = aD ∧ z.2.2.2.1 = aA ∧ z.2.2.2.2.1 = aI ∧ z.2.2.2.2.2.1 = aX ∧ z.2.2.2.2.2.2.1 = Zb aP ∧ z.2.2.2.2.2.2.2.1 = aU ∧ z.2.2.2.2.2.2.2.2.1 = aL ∧ z.2.2.2.2.2.2.2.2.2.1 = aV ∧ z.2.2.2.2.2.2.2.2.2.2.1 = Zb aM ∧ z.2.2.2.2.2.2.2.2.2.2.2.1 = Zb aQ ∧ z.2.2.2.2.2.2.2.2.2.2.2.2.1 = aT ∧ z.2.2.2.2.2.2.2.2.2.2.2.2.2.1 = aN ∧ z.2.2.2.2.2.2.2.2.2.2.2.2.2.2.1 = aW ∧ z.2.2.2.2.2.2.2.2.2.2.2.2.2.2.2.1 = Zb aO ∧ z.2.2.2.2.2.2.2.2.2.2.2.2.2.2.2.2 = Zb aR ∧ True) := by
  unfold Y8.t Y8.g
  have hm := Zy
  have hlim : lim = 1048576 := rfl
  refine YA.tm (fun i hi => up0 hi) (YA.T (by first | assumption | omega)) (fun y2 hy1 => ?_)
  try simp only [] at hy1
  obtain ⟨rfl, _⟩ := hy1
  try simp only [ZO]
  refine YJ.tm (fun i hi => hi) (YJ.T (by first | assumption | omega) (by first | assumption | omega) (by first | assumption | omega)) (fun y4 y5 y6 y7 y8 hy3 => ?_)
  try simp only [] at hy3
  obtain ⟨rfl, rfl, rfl, rfl, rfl, _⟩ := hy3
  try simp only [ZO]
  refine YJ.tm (fun i hi => hi) (YJ.T (by first | assumption | omega) (by first | assumption | omega) (by first | assumption | omega)) (fun y10 y11 y12 y13 y14 hy9 => ?_)
  try simp only [] at hy9
  obtain ⟨rfl, rfl, rfl, rfl, rfl, _⟩ := hy9
  try simp only [ZO]
  exact Tm.ret (by exact ⟨by first | rfl | assumption, by first | rfl | assumption, by first | rfl | assumption, by first | rfl | assumption, by first | rfl | assumption, by first | rfl | assumption, by first | rfl | assumption, by first | rfl | assumption, by first | rfl | assumption, by first | rfl | assumption, by first | rfl | assumption, by first | rfl | assumption, by first | rfl | assumption, by first | rfl | assumption, by first | rfl | assumption, by first | rfl | assumption, by first | rfl | assumption, trivial⟩)
theorem YR.tm {ι α : Type} {ok : ι → Prop} {ψ : α → Prop} {p : ι → Nat} {B : Nat} (hp : ∀ i, ok i → B ≤ p i) {a0 φ} (h : Tm (fun k => B ≤ k) (fun k => YR.t k a0) φ) {G : ι → (List (List C)) → Option α} (hG : ∀ z0, φ z0 → Tm ok (fun i => G i z0) ψ) : Tm ok (fun i => YR.f (p i) a0 (G i)) ψ := ZK (t := fun k => YR.t k a0) hp h hG
set_option maxRecDepth 100000 in
theorem YR.T {a0 : List (List D)} (ga0 : Zi Yb lim a0) : Tm (ZF 1) (fun k => YR.t k a0) (fun z => z = Zb a0 ∧ True) := by
  unfold YR.t YR.g YR.m
  have hm := Zy
  have hlim : lim = 1048576 := rfl
  have hlen := ga0.1
  refine Tm.guard (by first | omega | (simp only [lim, Zy, ZN] at *; omega) | (simp only [lim, ZN] at *; refine ⟨?_, ?_, ?_, ?_⟩ <;> omega)) ?_
  refine Tm.loop (okk := (ZF 1)) (p := fun k => k) (fun i hi => up0 hi) (b := fun k => YR.l0 k a0 (fun z0 => some z0)) (fun v => match v with | (i, u1) => (((a0.length : Int)) - i).toNat) (fun v => match v with | (i, u1) => 0 ≤ i ∧ i ≤ (a0.length : Int) ∧ Zbq a0 ([.d (.int .i64 0), .d (.str (⟨#[]⟩ : ByteArray)), .d (.int .i64 0), .d (.int .i64 0), .d (.int .i64 0), .d (.bool false), .own ([] : List (List C)), .d (.int .i64 0), .d (.str (⟨#[]⟩ : ByteArray)), .d (.int .i64 0), .own ([] : List (List C)), .own ([] : List (List C)), .d (.int .i64 0), .d (.str (⟨#[]⟩ : ByteArray)), .d (.int .i64 0), .own ([] : List (List C)), .own ([] : List (List C))] : List C) i u1) ?_ ?_ ?_
  · rintro ⟨i, u1⟩ hI
    try simp only [] at hI ⊢
    have : big = 2 ^ 64 := rfl
    have := ga0.1
    simp only [lim] at this
    omega
  · exact ⟨by omega, by simp, Zbq.start _ _⟩
  · rintro ⟨i, u1⟩ hI L hL
    try simp only [] at hI
    obtain ⟨i0, i1, hF⟩ := hI
    have hFl := hF.len i1
    simp only [YR.l0, atR, rdQ, Q.ask]
    refine Tm.ite (fun h1 => ?_) (fun h1 => ?_)
    · try simp only [bz0, bz1, bz2, bz3, bz4, bz5, bz6, bz7, bz8, bz9, bza] at h1
      refine Tm.atRow (by first | assumption | omega) (by first | assumption | omega) (fun x2 hx3 hm4 => ?_)
      obtain ⟨c5, c6, c7, c8, c9, c10, c11, c12, c13, c14, c15, c16, c17, c18, c19, c20, c21, rfl, g22, g23, g24, g25, g26, g27, g28, g29, g30, g31, g32, g33, g34, g35, g36, g37, _⟩ := (ga0.2 x2 hm4).open
      refine Tm.uncons ?_
      refine Tm.dInt ?_
      refine Tm.uncons ?_
      refine Tm.dStr ?_
      refine Tm.uncons ?_
      refine Tm.dInt ?_
      refine Tm.uncons ?_
      refine Tm.dInt ?_
      refine Tm.uncons ?_
      refine Tm.dInt ?_
      refine Tm.uncons ?_
      refine Tm.dBool ?_
      refine Tm.uncons ?_
      refine Tm.dSl ?_
      refine Tm.uncons ?_
      refine Tm.dInt ?_
      refine Tm.uncons ?_
      refine Tm.dStr ?_
      refine Tm.uncons ?_
      refine Tm.dInt ?_
      refine Tm.uncons ?_
      refine Tm.dSl ?_
      refine Tm.uncons ?_
      refine Tm.dSl ?_
      refine Tm.uncons ?_
      refine Tm.dInt ?_
      refine Tm.uncons ?_
      refine Tm.dStr ?_
      refine Tm.uncons ?_
      refine Tm.dInt ?_
      refine Tm.uncons ?_
      refine Tm.dSl ?_
      refine Tm.uncons ?_
      refine Tm.dSl ?_
      refine Tm.atEnd ?_
      refine Y8.tm (fun i hi => hi.1) (Y8.T (by first | assumption | omega) (by first | assumption | omega) (by first | assumption | omega) (by first | assumption | omega) (by first | assumption | omega) (by first | assumption | omega) (by first | assumption | omega) (by first | assumption | omega)) (fun y39 y40 y41 y42 y43 y44 y45 y46 y47 y48 y49 y50 y51 y52 y53 y54 y55 hy38 => ?_)
      try simp only [] at hy38
      obtain ⟨rfl, rfl, rfl, rfl, rfl, rfl, rfl, rfl, rfl, rfl, rfl, rfl, rfl, rfl, rfl, rfl, rfl, _⟩ := hy38
      try simp only [ZO]
      refine Tm.guard (by first | omega | (simp only [lim, Zy, ZN] at *; omega) | (simp only [lim, ZN] at *; refine ⟨?_, ?_, ?_, ?_⟩ <;> omega)) ?_
      refine Tm.guard (by first | omega | (simp only [lim, Zy, ZN] at *; omega) | (simp only [lim, ZN] at *; refine ⟨?_, ?_, ?_, ?_⟩ <;> omega)) ?_
      try rw [Zj (x := i + 1) (by omega) (by omega)]
      refine hL (_, _) ⟨by omega, by omega, hF.next i0 hx3 rfl (by simp [ZZ, ZbW])⟩ (by (try simp only []); omega)
    · try simp only [bz0, bz1, bz2, bz3, bz4, bz5, bz6, bz7, bz8, bz9, bza] at h1
      exact Tm.ret (by exact ⟨hF.all (by omega), trivial⟩)
theorem Y1.f_of {β : Type} {k : Nat} {aC : Int} {aB : Bool} {aD : Int} {aA : ByteArray} {aI aX aP : Int} {aU : Bool} {aL : List (List D)} {aV : Int} {aM : ByteArray} {aQ : Int} {aT aN : List (List D)} {aW : Int} {aO : ByteArray} {aR : Int} {bH bI : List (List D)} {z0 : Int} {z1 : Bool} {z2 : Int} {z3 : ByteArray} {z4 z5 z6 : Int} {z7 : Bool} {z8 : List (List C)} {z9 : Int} {z10 : ByteArray} {z11 : Int} {z12 z13 : List (List C)} {z14 : Int} {z15 : ByteArray} {z16 : Int} {z17 z18 : List (List C)} (h : Y1.t k aC aB aD aA aI aX aP aU aL aV aM aQ aT aN aW aO aR bH bI = some (z0, z1, z2, z3, z4, z5, z6, z7, z8, z9, z10, z11, z12, z13, z14, z15, z16, z17, z18)) (K : Int → Bool → Int → ByteArray → Int → Int → Int → Bool → (List (List C)) → Int → ByteArray → Int → (List (List C)) → (List (List C)) → Int → ByteArray → Int → (List (List C)) → (List (List C)) → Option β) : Y1.f k aC aB aD aA aI aX aP aU aL aV aM aQ aT aN aW aO aR bH bI K = K z0 z1 z2 z3 z4 z5 z6 z7 z8 z9 z10 z11 z12 z13 z14 z15 z16 z17 z18 := by
  unfold Y1.f
  rw [h]
theorem Y1.tm {ι α : Type} {ok : ι → Prop} {ψ : α → Prop} {p : ι → Nat} {B : Nat} (hp : ∀ i, ok i → B ≤ p i) {aC : Int} {aB : Bool} {aD : Int} {aA : ByteArray} {aI aX aP : Int} {aU : Bool} {aL : List (List D)} {aV : Int} {aM : ByteArray} {aQ : Int} {aT aN : List (List D)} {aW : Int} {aO : ByteArray} {aR : Int} {bH bI : List (List D)} {φ : Int × Bool × Int × ByteArray × Int × Int × Int × Bool × (List (List C)) × Int × ByteArray × Int × (List (List C)) × (List (List C)) × Int × ByteArray × Int × (List (List C)) × (List (List C)) → Prop} (h : Tm (fun k => B ≤ k) (fun k => Y1.t k aC aB aD aA aI aX aP aU aL aV aM aQ aT aN aW aO aR bH bI) φ) {G : ι → Int → Bool → Int → ByteArray → Int → Int → Int → Bool → (List (List C)) → Int → ByteArray → Int → (List (List C)) → (List (List C)) → Int → ByteArray → Int → (List (List C)) → (List (List C)) → Option α} (hG : ∀ z0 z1 z2 z3 z4 z5 z6 z7 z8 z9 z10 z11 z12 z13 z14 z15 z16 z17 z18, φ (z0, z1, z2, z3, z4, z5, z6, z7, z8, z9, z10, z11, z12, z13, z14, z15, z16, z17, z18) → Tm ok (fun ι0 => G ι0 z0 z1 z2 z3 z4 z5 z6 z7 z8 z9 z10 z11 z12 z13 z14 z15 z16 z17 z18) ψ) : Tm ok (fun ι0 => Y1.f (p ι0) aC aB aD aA aI aX aP aU aL aV aM aQ aT aN aW aO aR bH bI (G ι0)) ψ := by
  obtain ⟨⟨z0, z1, z2, z3, z4, z5, z6, z7, z8, z9, z10, z11, z12, z13, z14, z15, z16, z17, z18⟩, h1, h2⟩ := h
  exact (hG z0 z1 z2 z3 z4 z5 z6 z7 z8 z9 z10 z11 z12 z13 z14 z15 z16 z17 z18 h1).congr fun i0 hi0 => Y1.f_of (h2 (p i0) (hp i0 hi0)) _
theorem Y1.T {aC : Int} {aB : Bool} {aD : Int} {aA : ByteArray} {aI aX aP : Int} {aU : Bool} {aL : List (List D)} {aV : Int} {aM : ByteArray} {aQ : Int} {aT aN : List (List D)} {aW : Int} {aO : ByteArray} {aR : Int} {bH bI : List (List D)} (ga0_3 : aA.size ≤ lim) (ga0_8 : Zi RS lim aL) (ga0_10 : aM.size ≤ lim) (ga0_12 : Zi RS lim aT) (ga0_13 : Zi Yp lim aN) (ga0_15 : aO.size ≤ lim) (ga0_17 : Zi RS lim bH) (ga0_18 : Zi Yp lim bI) : Tm (ZF 1) (fun k => Y1.t k aC aB aD aA aI aX aP aU aL aV aM aQ aT aN aW aO aR bH bI) (fun z => z.1 = aC ∧ z.2.1 = aB ∧ z.2.2.1 = aD ∧ z.2.2.2.1 = aA ∧ z.2.2.2.2.1 = aI ∧ z.2.2.2.2.2.1 = aX ∧ z.2.2.2.2.2.2.1 = aP ∧ z.2.2.2.2.2.2.2.1 = aU ∧ z.2.2.2.2.2.2.2.2.1 = Zb aL ∧ z.2.2.2.2.2.2.2.2.2.1 = aV ∧ z.2.2.2.2.2.2.2.2.2.2.1 = aM ∧ z.2.2.2.2.2.2.2.2.2.2.2.1 = aQ ∧ z.2.2.2.2.2.2.2.2.2.2.2.2.1 = Zb aT ∧ z.2.2.2.2.2.2.2.2.2.2.2.2.2.1 = Zb aN ∧ z.2.2.2.2.2.2.2.2.2.2.2.2.2.2.1 = aW ∧ z.2.2.2.2.2.2.2.2.2.2.2.2.2.2.2.1 = aO ∧ z.2.2.2.2.2.2.2.2.2.2.2.2.2.2.2.2.1 = aR ∧ z.2.2.2.2.2.2.2.2.2.2.2.2.2.2.2.2.2.1 = Zb bH ∧ z.2.2.2.2.2.2.2.2.2.2.2.2.2.2.2.2.2.2 = Zb bI ∧ True) := by
  unfold Y1.t Y1.g
  have hm := Zy
  have hlim : lim = 1048576 := rfl
  refine Y8.tm (fun i hi => hi) (Y8.T (by first | assumption | omega) (by first | assumption | omega) (by first | assumption | omega) (by first | assumption | omega) (by first | assumption | omega) (by first | assumption | omega) (by first | assumption | omega) (by first | assumption | omega)) (fun y2 y3 y4 y5 y6 y7 y8 y9 y10 y11 y12 y13 y14 y15 y16 y17 y18 hy1 => ?_)
  try simp only [] at hy1
  obtain ⟨rfl, rfl, rfl, rfl, rfl, rfl, rfl, rfl, rfl, rfl, rfl, rfl, rfl, rfl, rfl, rfl, rfl, _⟩ := hy1
  try simp only [ZO]
  exact Tm.ret (by exact ⟨by first | rfl | assumption, by first | rfl | assumption, by first | rfl | assumption, by first | rfl | assumption, by first | rfl | assumption, by first | rfl | assumption, by first | rfl | assumption, by first | rfl | assumption, by first | rfl | assumption, by first | rfl | assumption, by first | rfl | assumption, by first | rfl | assumption, by first | rfl | assumption, by first | rfl | assumption, by first | rfl | assumption, by first | rfl | assumption, by first | rfl | assumption, by first | rfl | assumption, by first | rfl | assumption, trivial⟩)
theorem YE.tm {ι α : Type} {ok : ι → Prop} {ψ : α → Prop} {p : ι → Nat} {B : Nat} (hp : ∀ i, ok i → B ≤ p i) {a0 φ} (h : Tm (fun k => B ≤ k) (fun k => YE.t k a0) φ) {G : ι → (List (List C)) → Option α} (hG : ∀ z0, φ z0 → Tm ok (fun i => G i z0) ψ) : Tm ok (fun i => YE.f (p i) a0 (G i)) ψ := ZK (t := fun k => YE.t k a0) hp h hG
set_option maxRecDepth 100000 in
theorem YE.T {a0 : List (List D)} (ga0 : Zi Ya lim a0) : Tm (ZF 1) (fun k => YE.t k a0) (fun z => z = Zb a0 ∧ True) := by
  unfold YE.t YE.g YE.m
  have hm := Zy
  have hlim : lim = 1048576 := rfl
  have hlen := ga0.1
  refine Tm.guard (by first | omega | (simp only [lim, Zy, ZN] at *; omega) | (simp only [lim, ZN] at *; refine ⟨?_, ?_, ?_, ?_⟩ <;> omega)) ?_
  refine Tm.loop (okk := (ZF 1)) (p := fun k => k) (fun i hi => up0 hi) (b := fun k => YE.l0 k a0 (fun z0 => some z0)) (fun v => match v with | (i, u1) => (((a0.length : Int)) - i).toNat) (fun v => match v with | (i, u1) => 0 ≤ i ∧ i ≤ (a0.length : Int) ∧ Zbq a0 ([.d (.int .i64 0), .d (.bool false), .d (.int .i64 0), .d (.str (⟨#[]⟩ : ByteArray)), .d (.int .i64 0), .d (.int .i64 0), .d (.int .i64 0), .d (.bool false), .own ([] : List (List C)), .d (.int .i64 0), .d (.str (⟨#[]⟩ : ByteArray)), .d (.int .i64 0), .own ([] : List (List C)), .own ([] : List (List C)), .d (.int .i64 0), .d (.str (⟨#[]⟩ : ByteArray)), .d (.int .i64 0), .own ([] : List (List C)), .own ([] : List (List C))] : List C) i u1) ?_ ?_ ?_
  · rintro ⟨i, u1⟩ hI
    try simp only [] at hI ⊢
    have : big = 2 ^ 64 := rfl
    have := ga0.1
    simp only [lim] at this
    omega
  · exact ⟨by omega, by simp, Zbq.start _ _⟩
  · rintro ⟨i, u1⟩ hI L hL
    try simp only [] at hI
    obtain ⟨i0, i1, hF⟩ := hI
    have hFl := hF.len i1
    simp only [YE.l0, atR, rdQ, Q.ask]
    refine Tm.ite (fun h1 => ?_) (fun h1 => ?_)
    · try simp only [bz0, bz1, bz2, bz3, bz4, bz5, bz6, bz7, bz8, bz9, bza] at h1
      refine Tm.atRow (by first | assumption | omega) (by first | assumption | omega) (fun x2 hx3 hm4 => ?_)
      obtain ⟨c5, c6, c7, c8, c9, c10, c11, c12, c13, c14, c15, c16, c17, c18, c19, c20, c21, c22, c23, rfl, g24, g25, g26, g27, g28, g29, g30, g31, g32, g33, g34, g35, g36, g37, g38, g39, g40, _⟩ := (ga0.2 x2 hm4).open
      refine Tm.uncons ?_
      refine Tm.dInt ?_
      refine Tm.uncons ?_
      refine Tm.dBool ?_
      refine Tm.uncons ?_
      refine Tm.dInt ?_
      refine Tm.uncons ?_
      refine Tm.dStr ?_
      refine Tm.uncons ?_
      refine Tm.dInt ?_
      refine Tm.uncons ?_
      refine Tm.dInt ?_
      refine Tm.uncons ?_
      refine Tm.dInt ?_
      refine Tm.uncons ?_
      refine Tm.dBool ?_
      refine Tm.uncons ?_
      refine Tm.dSl ?_
      refine Tm.uncons ?_
      refine Tm.dInt ?_
      refine Tm.uncons ?_
      refine Tm.dStr ?_
      refine Tm.uncons ?_
      refine Tm.dInt ?_
      refine Tm.uncons ?_
      refine Tm.dSl ?_
      refine Tm.uncons ?_
      refine Tm.dSl ?_
      refine Tm.uncons ?_
      refine Tm.dInt ?_
      refine Tm.uncons ?_
      refine Tm.dStr ?_
      refine Tm.uncons ?_
      refine Tm.dInt ?_
      refine Tm.uncons ?_
      refine Tm.dSl ?_
      refine Tm.uncons ?_
      refine Tm.dSl ?_
      refine Tm.atEnd ?_
      refine Y1.tm (fun i hi => hi.1) (Y1.T (by first | assumption | omega) (by first | assumption | omega) (by first | assumption | omega) (by first | assumption | omega) (by first | assumption | omega) (by first | assumption | omega) (by first | assumption | omega) (by first | assumption | omega)) (fun y42 y43 y44 y45 y46 y47 y48 y49 y50 y51 y52 y53 y54 y55 y56 y57 y58 y59 y60 hy41 => ?_)
      try simp only [] at hy41
      obtain ⟨rfl, rfl, rfl, rfl, rfl, rfl, rfl, rfl, rfl, rfl, rfl, rfl, rfl, rfl, rfl, rfl, rfl, rfl, rfl, _⟩ := hy41
      try simp only [ZO]
      refine Tm.guard (by first | omega | (simp only [lim, Zy, ZN] at *; omega) | (simp only [lim, ZN] at *; refine ⟨?_, ?_, ?_, ?_⟩ <;> omega)) ?_
      refine Tm.guard (by first | omega | (simp only [lim, Zy, ZN] at *; omega) | (simp only [lim, ZN] at *; refine ⟨?_, ?_, ?_, ?_⟩ <;> omega)) ?_
      try rw [Zj (x := i + 1) (by omega) (by omega)]
      refine hL (_, _) ⟨by omega, by omega, hF.next i0 hx3 rfl (by simp [ZZ, ZbW])⟩ (by (try simp only []); omega)
    · try simp only [bz0, bz1, bz2, bz3, bz4, bz5, bz6, bz7, bz8, bz9, bza] at h1
      exact Tm.ret (by exact ⟨hF.all (by omega), trivial⟩)
theorem Y3.tm {ι α : Type} {ok : ι → Prop} {ψ : α → Prop} {p : ι → Nat} {B : Nat} (hp : ∀ i, ok i → B ≤ p i) {aC aB aD aA φ} (h : Tm (fun k => B ≤ k) (fun k => Y3.t k aC aB aD aA) φ) {G : ι → (List (List C)) → Int → Int → (List (List C)) → Option α} (hG : ∀ z0 z1 z2 z3, φ (z0, z1, z2, z3) → Tm ok (fun i => G i z0 z1 z2 z3) ψ) : Tm ok (fun i => Y3.f (p i) aC aB aD aA (G i)) ψ := bd4_tm (t := fun k => Y3.t k aC aB aD aA) hp h hG
theorem Y3.T {aC : List (List D)} {aB aD : Int} {aA : List (List D)} (ga0_0 : Zi Yb lim aC) (ga0_3 : Zi Ya lim aA) : Tm (ZF 1) (fun k => Y3.t k aC aB aD aA) (fun z => z.1 = Zb aC ∧ z.2.1 = aB ∧ z.2.2.1 = aD ∧ z.2.2.2 = Zb aA ∧ True) := by
  unfold Y3.t Y3.g
  have hm := Zy
  have hlim : lim = 1048576 := rfl
  refine YR.tm (fun i hi => hi) (YR.T (by first | assumption | omega)) (fun y2 hy1 => ?_)
  try simp only [] at hy1
  obtain ⟨rfl, _⟩ := hy1
  try simp only [ZO]
  refine YE.tm (fun i hi => hi) (YE.T (by first | assumption | omega)) (fun y4 hy3 => ?_)
  try simp only [] at hy3
  obtain ⟨rfl, _⟩ := hy3
  try simp only [ZO]
  exact Tm.ret (by exact ⟨by first | rfl | assumption, by first | rfl | assumption, by first | rfl | assumption, by first | rfl | assumption, trivial⟩)
theorem YH.f_of {β : Type} {k a0 a1 a2 z0} (h : YH.t k a0 a1 a2 = some z0) (K : Bool → Option β) : YH.f k a0 a1 a2 K = K z0 := by unfold YH.f; rw [h]; rfl
theorem YH.tm {ι α : Type} {ok : ι → Prop} {ψ : α → Prop} {p : ι → Nat} {B : Nat} (hp : ∀ i, ok i → B ≤ p i) {a0 a1 a2 φ} (h : Tm (fun k => B ≤ k) (fun k => YH.t k a0 a1 a2) φ) {G : ι → Bool → Option α} (hG : ∀ z0, φ z0 → Tm ok (fun i => G i z0) ψ) : Tm ok (fun i => YH.f (p i) a0 a1 a2 (G i)) ψ := ZK (t := fun k => YH.t k a0 a1 a2) hp h hG
theorem YH.T {a0 a1 a2 : Int} : Tm Z3 (fun k => YH.t k a0 a1 a2) (fun r => r = true → a1 ≤ a0 ∧ a0 ≤ a2) := by
  unfold YH.t YH.g
  have hm := Zy
  have hlim : lim = 1048576 := rfl
  refine Tm.ite (fun h1 => ?_) (fun h1 => ?_)
  · try simp only [bz0, bz1, bz2, bz3, bz4, bz5, bz6, bz7, bz8, bz9, bza] at h1
    exact Tm.ret (by first | (intro h; simp at h; omega) | (intro h; cases h))
  · try simp only [bz0, bz1, bz2, bz3, bz4, bz5, bz6, bz7, bz8, bz9, bza] at h1
    exact Tm.ret (by first | (intro h; simp at h; omega) | (intro h; cases h))
theorem l1In_f {β : Type} {k : Nat} {a b c : Int} (K : Bool → Option β) : YH.f k a b c K = K (decide (b ≤ a) && decide (a ≤ c)) := by
  refine YH.f_of ?_ K
  unfold YH.t YH.g
  by_cases h : b ≤ a <;> simp [h]
def inB (a b c : Int) : Bool := decide (b ≤ a) && decide (a ≤ c)
theorem l1In_fv {β : Type} {k : Nat} {a b c : Int} (K : Bool → Option β) : YH.f k a b c K = K (inB a b c) := l1In_f K
theorem Ym.f_of {β : Type} {k a0 z0} (h : Ym.t k a0 = some z0) (K : Bool → Option β) : Ym.f k a0 K = K z0 := by unfold Ym.f; rw [h]; rfl
theorem Ym.tm {ι α : Type} {ok : ι → Prop} {ψ : α → Prop} {p : ι → Nat} {B : Nat} (hp : ∀ i, ok i → B ≤ p i) {a0 φ} (h : Tm (fun k => B ≤ k) (fun k => Ym.t k a0) φ) {G : ι → Bool → Option α} (hG : ∀ z0, φ z0 → Tm ok (fun i => G i z0) ψ) : Tm ok (fun i => Ym.f (p i) a0 (G i)) ψ := ZK (t := fun k => Ym.t k a0) hp h hG
theorem Ym.T {a0 : ByteArray} (ga0 : a0.size ≤ lim) : Tm Z3 (fun k => Ym.t k a0) (fun _ => True) := by
  unfold Ym.t Ym.g
  have hm := Zy
  have hlim : lim = 1048576 := rfl
  refine Tm.loop (okk := Z3) (p := fun k => k) (fun i hi => hi) (b := fun k => Ym.l0 k a0 (fun z0 => some z0)) (fun i => (((a0.size : Int)) - i).toNat) (fun i => 0 ≤ i ∧ i ≤ (a0.size : Int)) ?_ ?_ ?_
  · rintro i hI
    try simp only [] at hI ⊢
    have : big = 2 ^ 64 := rfl
    omega
  · ((try simp only []); omega)
  · rintro i hI L hL
    try simp only [] at hI
    obtain ⟨i0, i1⟩ := hI
    simp only [Ym.l0]
    refine Tm.ite (fun h1 => ?_) (fun h1 => ?_)
    · try simp only [bz0, bz1, bz2, bz3, bz4, bz5, bz6, bz7, bz8, bz9, bza] at h1
      refine Tm.atStr (by first | assumption | omega) (by first | assumption | omega) (fun b2 hb3 => ?_)
      try rw [Zj (x := (b2.toNat : Int)) (by omega) (by omega)]
      refine YH.tm (fun i hi => hi.1) (YH.T) (fun y5 hy4 => ?_)
      refine Tm.ite (fun h6 => ?_) (fun h6 => ?_)
      · try simp only [bz0, bz1, bz2, bz3, bz4, bz5, bz6, bz7, bz8, bz9, bza] at h6
        refine Tm.atStr (by first | assumption | omega) (by first | assumption | omega) (fun b7 hb8 => ?_)
        try rw [Zj (x := (b7.toNat : Int)) (by omega) (by omega)]
        refine YH.tm (fun i hi => hi.1) (YH.T) (fun y10 hy9 => ?_)
        refine Tm.ite (fun h11 => ?_) (fun h11 => ?_)
        · try simp only [bz0, bz1, bz2, bz3, bz4, bz5, bz6, bz7, bz8, bz9, bza] at h11
          refine Tm.atStr (by first | assumption | omega) (by first | assumption | omega) (fun b12 hb13 => ?_)
          refine Tm.ite (fun h14 => ?_) (fun h14 => ?_)
          · try simp only [bz0, bz1, bz2, bz3, bz4, bz5, bz6, bz7, bz8, bz9, bza] at h14
            exact Tm.ret (by trivial)
          · try simp only [bz0, bz1, bz2, bz3, bz4, bz5, bz6, bz7, bz8, bz9, bza] at h14
            try rw [Zj (x := i + 1) (by omega) (by omega)]
            exact hL _ (by (try simp only []); omega) (by (try simp only []); omega)
        · try simp only [bz0, bz1, bz2, bz3, bz4, bz5, bz6, bz7, bz8, bz9, bza] at h11
          have z15 := hy9 h11
          try rw [Zj (x := i + 1) (by omega) (by omega)]
          exact hL _ (by (try simp only []); omega) (by (try simp only []); omega)
      · try simp only [bz0, bz1, bz2, bz3, bz4, bz5, bz6, bz7, bz8, bz9, bza] at h6
        have z16 := hy4 h6
        try rw [Zj (x := i + 1) (by omega) (by omega)]
        exact hL _ (by (try simp only []); omega) (by (try simp only []); omega)
    · try simp only [bz0, bz1, bz2, bz3, bz4, bz5, bz6, bz7, bz8, bz9, bza] at h1
      refine YH.tm (fun i hi => hi.1) (YH.T) (fun y18 hy17 => ?_)
      refine Tm.ite (fun h19 => ?_) (fun h19 => ?_)
      · try simp only [bz0, bz1, bz2, bz3, bz4, bz5, bz6, bz7, bz8, bz9, bza] at h19
        have z20 := hy17 h19
        refine Tm.atStr (by first | assumption | omega) (by first | assumption | omega) (fun b21 hb22 => ?_)
        refine Tm.ite (fun h23 => ?_) (fun h23 => ?_)
        · try simp only [bz0, bz1, bz2, bz3, bz4, bz5, bz6, bz7, bz8, bz9, bza] at h23
          try rw [Zj (x := (a0.size : Int) - 1) (by omega) (by omega)]
          refine Tm.atStr (by first | assumption | omega) (by first | assumption | omega) (fun b24 hb25 => ?_)
          exact Tm.ret (by trivial)
        · try simp only [bz0, bz1, bz2, bz3, bz4, bz5, bz6, bz7, bz8, bz9, bza] at h23
          exact Tm.ret (by trivial)
      · try simp only [bz0, bz1, bz2, bz3, bz4, bz5, bz6, bz7, bz8, bz9, bza] at h19
        exact Tm.ret (by trivial)
noncomputable def Ym.v (a0 : ByteArray) : Bool := (Ym.t big a0).getD default
theorem Ym.tv {a0 : ByteArray} (ga0 : a0.size ≤ lim) {k : Nat} (hk : Z3 k) : Ym.t k a0 = some (Ym.v a0) := (Ym.T ga0).val hk
theorem Ym.fv {a0 : ByteArray} (ga0 : a0.size ≤ lim) {k : Nat} (hk : Z3 k) {β : Type} (K : Bool → Option β) : Ym.f k a0 K = K (Ym.v a0) := Ym.f_of (Ym.tv ga0 hk) K
noncomputable def namesB (xs : List (List D)) : Bool := (List.range xs.length).all fun i => Ym.v (gS xs (i : Int) 0) && (!decide ((i : Int) > 0) || ZbO (gS xs ((i : Int) - 1) 0) (gS xs (i : Int) 0))
theorem Yt.f_of {β : Type} {k a0 z0} (h : Yt.t k a0 = some z0) (K : Bool → Option β) : Yt.f k a0 K = K z0 := by unfold Yt.f; rw [h]; rfl
theorem Yt.tm {ι α : Type} {ok : ι → Prop} {ψ : α → Prop} {p : ι → Nat} {B : Nat} (hp : ∀ i, ok i → B ≤ p i) {a0 φ} (h : Tm (fun k => B ≤ k) (fun k => Yt.t k a0) φ) {G : ι → Bool → Option α} (hG : ∀ z0, φ z0 → Tm ok (fun i => G i z0) ψ) : Tm ok (fun i => Yt.f (p i) a0 (G i)) ψ := ZK (t := fun k => Yt.t k a0) hp h hG
set_option maxRecDepth 100000 in
theorem Yt.T {a0 : List (List D)} (ga0 : Zi RS lim a0) : Tm Z3 (fun k => Yt.t k a0) (fun _ => True) := by
  unfold Yt.t Yt.g
  have hm := Zy
  have hlim : lim = 1048576 := rfl
  have la0 := ga0.1
  refine Tm.loop (okk := Z3) (p := fun k => k) (fun i hi => hi) (b := fun k => Yt.l0 k a0 (fun z0 => some z0)) (fun i => (((a0.length : Int)) - i).toNat) (fun i => 0 ≤ i ∧ i ≤ (a0.length : Int)) ?_ ?_ ?_
  · rintro i hI
    try simp only [] at hI ⊢
    have : big = 2 ^ 64 := rfl
    omega
  · ((try simp only []); omega)
  · rintro i hI L hL
    try simp only [] at hI
    obtain ⟨i0, i1⟩ := hI
    simp only [Yt.l0, atR, rdQ, Q.ask]
    refine Tm.ite (fun h1 => ?_) (fun h1 => ?_)
    · try simp only [bz0, bz1, bz2, bz3, bz4, bz5, bz6, bz7, bz8, bz9, bza] at h1
      refine Tm.atRow (by first | assumption | omega) (by first | assumption | omega) (fun x2 hx3 hm4 => ?_)
      obtain ⟨c5, rfl, g6, _⟩ := (ga0.2 x2 hm4).open
      refine Tm.uncons ?_
      refine Tm.dStr ?_
      refine Tm.atEnd ?_
      refine Ym.tm (fun i hi => hi.1) (Ym.T (by first | assumption | omega)) (fun y8 hy7 => ?_)
      refine Tm.ite (fun h9 => ?_) (fun h9 => ?_)
      · try simp only [bz0, bz1, bz2, bz3, bz4, bz5, bz6, bz7, bz8, bz9, bza] at h9
        exact Tm.ret (by trivial)
      · try simp only [bz0, bz1, bz2, bz3, bz4, bz5, bz6, bz7, bz8, bz9, bza] at h9
        refine Tm.ite (fun h10 => ?_) (fun h10 => ?_)
        · try simp only [bz0, bz1, bz2, bz3, bz4, bz5, bz6, bz7, bz8, bz9, bza] at h10
          try rw [Zj (x := i - 1) (by omega) (by omega)]
          refine Tm.atRow (by first | assumption | omega) (by first | assumption | omega) (fun x11 hx12 hm13 => ?_)
          obtain ⟨c14, rfl, g15, _⟩ := (ga0.2 x11 hm13).open
          refine Tm.uncons ?_
          refine Tm.dStr ?_
          refine Tm.atEnd ?_
          refine Tm.atRow (by first | assumption | omega) (by first | assumption | omega) (fun x16 hx17 hm18 => ?_)
          rw [hx3] at hx17
          injection hx17 with hx17
          subst hx17
          refine Tm.uncons ?_
          refine Tm.dStr ?_
          refine Tm.atEnd ?_
          refine Tm.ite (fun h20 => ?_) (fun h20 => ?_)
          · try simp only [bz0, bz1, bz2, bz3, bz4, bz5, bz6, bz7, bz8, bz9, bza] at h20
            exact Tm.ret (by trivial)
          · try simp only [bz0, bz1, bz2, bz3, bz4, bz5, bz6, bz7, bz8, bz9, bza] at h20
            try rw [Zj (x := i + 1) (by omega) (by omega)]
            exact hL _ (by (try simp only []); omega) (by (try simp only []); omega)
        · try simp only [bz0, bz1, bz2, bz3, bz4, bz5, bz6, bz7, bz8, bz9, bza] at h10
          try rw [Zj (x := i + 1) (by omega) (by omega)]
          exact hL _ (by (try simp only []); omega) (by (try simp only []); omega)
    · try simp only [bz0, bz1, bz2, bz3, bz4, bz5, bz6, bz7, bz8, bz9, bza] at h1
      exact Tm.ret (by trivial)
noncomputable def Yt.v (a0 : List (List D)) : Bool := (Yt.t big a0).getD default
theorem Yt.tv {a0 : List (List D)} (ga0 : Zi RS lim a0) {k : Nat} (hk : Z3 k) : Yt.t k a0 = some (Yt.v a0) := (Yt.T ga0).val hk
theorem Yt.fv {a0 : List (List D)} (ga0 : Zi RS lim a0) {k : Nat} (hk : Z3 k) {β : Type} (K : Bool → Option β) : Yt.f k a0 K = K (Yt.v a0) := Yt.f_of (Yt.tv ga0 hk) K
theorem YX.f_of {β : Type} {k a0 z0} (h : YX.t k a0 = some z0) (K : Bool → Option β) : YX.f k a0 K = K z0 := by unfold YX.f; rw [h]; rfl
def textB (s : ByteArray) : Bool := (List.range s.size).all fun i => inB (bS s (i : Int)) 32 126
theorem l4Text_fv {s : ByteArray} (g : s.size ≤ lim) {k : Nat} (hk : Z3 k) {β : Type} (K : Bool → Option β) : YX.f k s K = K (textB s && decide ((s.size : Int) ≤ 100)) := YX.f_of (by
  have hlim : lim = 1048576 := rfl
  have hb : big = 2 ^ 64 := rfl
  unfold YX.t YX.g textB
  rw [Zb6 (n := s.size) (fun i => inB (bS s (i : Int)) 32 126) (r1 := some false) (r2 := some (decide ((s.size : Int) ≤ 100))) (by unfold Z3 at hk; omega)]
  · generalize List.all _ _ = x
    cases x <;> rfl
  · intro L i hi
    simp (disch := omega) only [YX.l0, ZQ (show (i : Int) < s.size by omega), cond_true, atStr_at, wrap_b, l1In_fv, Zj]
    generalize inB _ _ _ = x
    cases x <;> rfl
  · intro L
    simp [YX.l0]) K
theorem YU.f_of {β : Type} {k aC aB aD aA aI z0} (h : YU.t k aC aB aD aA aI = some z0) (K : Bool → Option β) : YU.f k aC aB aD aA aI K = K z0 := by unfold YU.f; rw [h]; rfl
theorem Yw.f_of {β : Type} {k aC aB aD aA aI a1 z0} (h : Yw.t k aC aB aD aA aI a1 = some z0) (K : Int → Option β) : Yw.f k aC aB aD aA aI a1 K = K z0 := by unfold Yw.f Yw.w; rw [h]; rfl
theorem Yw.tm {ι α : Type} {ok : ι → Prop} {ψ : α → Prop} {p : ι → Nat} {B : Nat} (hp : ∀ i, ok i → B ≤ p i) {aC aB aD aA aI a1 φ} (h : Tm (fun k => B ≤ k) (fun k => Yw.t k aC aB aD aA aI a1) φ) {G : ι → Int → Option α} (hG : ∀ z0, φ z0 → Tm ok (fun i => G i z0) ψ) : Tm ok (fun i => Yw.f (p i) aC aB aD aA aI a1 (G i)) ψ := ZK (t := fun k => Yw.t k aC aB aD aA aI a1) hp h hG
set_option maxRecDepth 100000 in
theorem l4Keys_fv {c0 : Int} {c1 : ByteArray} {c2 : Int} {c3 c4 : List (List D)} (g : Zi RS lim c3) {k : Nat} (hk : Z3 k) {β : Type} (K : Bool → Option β) : YU.f k c0 c1 c2 c3 c4 K = K (namesB c3 && (c3.length : Int) == (c4.length : Int)) := YU.f_of (by
  have hl := g.1
  have hlim : lim = 1048576 := rfl
  have hb : big = 2 ^ 64 := rfl
  unfold YU.t YU.g
  rw [Zb6 (n := c3.length) (fun i => Ym.v (gS c3 (i : Int) 0) && (!decide ((i : Int) > 0) || ZbO (gS c3 ((i : Int) - 1) 0) (gS c3 (i : Int) 0))) (r1 := some false) (r2 := some ((c3.length : Int) == (c4.length : Int))) (by unfold Z3 at hk; omega)]
  · unfold namesB
    generalize List.all _ _ = x
    cases x <;> rfl
  · intro L i hi
    have k0 := (RS.get g (v := (i : Int)) (by omega) (by omega)).2.1
    simp (disch := omega) only [YU.l0, atR, rdQ, Q.ask, ZQ (show (i : Int) < c3.length by omega), cond_true, RS.row g, ZY, Zaj, Z6, Ym.fv k0 hk, Zj]
    by_cases h0 : (i : Int) > 0
    · simp (disch := omega) only [ZQ h0, cond_true, RS.row g, ZY, Zaj, Z6]
      cases Ym.v (gS c3 (i : Int) 0) <;> cases ZbO (gS c3 ((i : Int) - 1) 0) (gS c3 (i : Int) 0) <;> rfl
    · simp only [ZV h0, cond_false]
      cases Ym.v (gS c3 (i : Int) 0) <;> rfl
  · intro L
    simp [YU.l0, atR, rdQ, Q.ask]) K
def bareText : ByteArray := (⟨#[]⟩ : ByteArray)
noncomputable def Yaw (kind : Int) (text : ByteArray) (num : Int) (keys kids : List (List D)) : Bool :=
  bif kind == 1 then (keys.length : Int) == 0 && ((kids.length : Int) == 0 && (num == 0 && (textB text && decide ((text.size : Int) ≤ 100))))
  else bif kind == 2 then (keys.length : Int) == 0 && ((kids.length : Int) == 0 && Zae text bareText)
  else bif kind == 3 then (keys.length : Int) == 0 && ((kids.length : Int) == 0 && (Zae text bareText && inB num 0 1))
  else bif kind == 4 then (keys.length : Int) == 0 && (Zae text bareText && num == 0)
  else bif kind == 5 then (namesB keys && (keys.length : Int) == (kids.length : Int)) && (Zae text bareText && num == 0)
  else false
def sumL (f : List D → Int) : List (List D) → Int → Int
  | [], n => n
  | r :: rs, n => if f r = 0 ∨ n + f r > 300 then 0 else sumL f rs (n + f r)
noncomputable def Yar : Nat → List D → Int
  | 0, _ => 0
  | d + 1, r => bif sumL (Yar d) (rL r 4) 1 == 0 then 0 else bif Yaw (rI r 0) (rS r 1) (rI r 2) (rL r 3) (rL r 4) then sumL (Yar d) (rL r 4) 1 else 0
theorem sumL_range {f : List D → Int} (hf : ∀ r, 0 ≤ f r) : ∀ {rs : List (List D)} {n : Int}, 1 ≤ n → n ≤ 300 → 0 ≤ sumL f rs n ∧ sumL f rs n ≤ 300 ∧ (sumL f rs n ≠ 0 → n + rs.length ≤ 300)
  | [], n, h, h' => by simp only [sumL, List.length_nil]; omega
  | r :: rs, n, h, h' => by
    have := hf r
    simp only [sumL]
    split
    · omega
    · have := sumL_range hf (rs := rs) (n := n + f r) (by omega) (by omega)
      simp only [List.length_cons]
      omega
theorem Yay : ∀ (d : Nat) (r : List D), 0 ≤ Yar d r ∧ Yar d r ≤ 300
  | 0, r => by simp [Yar]
  | d + 1, r => by
    have := sumL_range (f := Yar d) (fun r => (Yay d r).1) (rs := rL r 4) (n := 1) (by omega) (by omega)
    simp only [Yar]
    generalize sumL (Yar d) (rL r 4) 1 = n at *
    cases n == 0 <;> cases Yaw (rI r 0) (rS r 1) (rI r 2) (rL r 3) (rL r 4) <;> simp <;> omega
set_option maxRecDepth 100000 in
theorem look_t (d : Nat) : ∀ {c0 : Int} {c1 : ByteArray} {c2 : Int} {c3 c4 : List (List D)}, c1.size ≤ lim → Zi RS lim c3 → Zi Yp lim c4 → d ≤ 6 → ∀ {k : Nat}, big + d + 1 ≤ k → Yw.t k c0 c1 c2 c3 c4 (d : Int) = some (Yar d [.int .i64 c0, .str c1, .int .i64 c2, .sl c3, .sl c4]) := by
  have hlim : lim = 1048576 := rfl
  have hb : big = 2 ^ 64 := rfl
  induction d with
  | zero =>
    intro c0 c1 c2 c3 c4 g1 g3 g4 hd k hk
    cases k with
    | zero => omega
    | succ k => rfl
  | succ d ih =>
    intro c0 c1 c2 c3 c4 g1 g3 g4 hd k hk
    cases k with
    | zero => omega
    | succ k =>
    have hl := g4.1
    have hk0 : Z3 k := by unfold Z3; omega
    rw [Yw.t_succ]
    unfold Yw.g Yw.body
    rw [show (((d + 1 : Nat) : Int) == 0) = false by rw [beq_eq_false_iff_ne]; omega, cond_false]
    have key := iter_val (b := Yw.l0 k (Yw.f k) ((d + 1 : Nat) : Int) c0 c1 c2 c3 c4 fun z0 => some z0) (fun v => ((c4.length : Int) - v.2).toNat) (fun v => 0 ≤ v.2 ∧ v.2 ≤ c4.length ∧ 1 ≤ v.1 ∧ v.1 ≤ 300)
      (fun v => bif sumL (Yar d) (c4.drop v.2.toNat) v.1 == 0 then some 0 else bif Yaw c0 c1 c2 c3 c4 then some (sumL (Yar d) (c4.drop v.2.toNat) v.1) else some 0) ?_ k (1, 0) (by simp only []; omega) (by simp only []; omega)
    · rw [key]
      simp only [Yar]
      show (bif sumL (Yar d) (List.drop 0 c4) 1 == 0 then some 0 else bif Yaw c0 c1 c2 c3 c4 then some (sumL (Yar d) (List.drop 0 c4) 1) else some 0) = some (bif sumL (Yar d) c4 1 == 0 then 0 else bif Yaw c0 c1 c2 c3 c4 then sumL (Yar d) c4 1 else 0)
      rw [List.drop_zero]
      cases sumL (Yar d) c4 1 == 0 <;> cases Yaw c0 c1 c2 c3 c4 <;> rfl
    · rintro ⟨n, i⟩ ⟨i0, i1, n0, n1⟩ L hL
      simp only [] at i0 i1 n0 n1 hL ⊢
      by_cases hi : i < c4.length
      · have hg := Yp.get g4 i0 hi
        have hr := Yay d (gR c4 i)
        have ih' := ih (c0 := gI c4 i 0) (c2 := gI c4 i 2) hg.2.2.1 hg.2.2.2.2.1 hg.2.2.2.2.2.1 (by omega) (k := k) (by omega)
        rw [← hg.1] at ih'
        simp (disch := omega) only [Yw.l0, atR, rdQ, Q.ask, ZQ hi, cond_true, Yp.row g4, ZY, Zaj, Zad, Za7, Z6, Zj, show ((d + 1 : Nat) : Int) - 1 = (d : Int) by omega]
        rw [Yw.f_of ih', drop_gR i0 hi]
        simp only [sumL]
        by_cases hz : Yar d (gR c4 i) = 0
        · rw [hz]
          simp
        · rw [show (Yar d (gR c4 i) == 0) = false by rw [beq_eq_false_iff_ne]; exact hz, cond_false, Zj (by omega) (by omega)]
          by_cases hn : n + Yar d (gR c4 i) > 300
          · rw [ZQ hn, if_pos (.inr hn)]
            rfl
          · rw [ZV hn, if_neg (by omega), cond_false, hL _ ⟨by simp only []; omega, by simp only []; omega, by simp only []; omega, by simp only []; omega⟩ (by simp only []; omega)]
      · rw [drop_end (by omega)]
        simp only [Yw.l0, atR, rdQ, Q.ask, ZV hi, cond_false, sumL, l4Keys_fv g3 hk0, l1In_fv, l4Text_fv g1 hk0]
        rw [show (n == 0) = false by rw [beq_eq_false_iff_ne]; omega, cond_false]
        unfold Yaw
        generalize (textB c1 && decide ((c1.size : Int) ≤ 100)) = b1
        generalize hb2 : Zae c1 (⟨#[]⟩ : ByteArray) = b2
        have hb3 : Zae c1 bareText = b2 := hb2
        rw [hb3]
        generalize namesB c3 = b3
        generalize inB c2 0 1 = b4
        generalize (c2 == 0) = b5
        generalize ((c4.length : Int) == 0) = b6
        generalize ((c3.length : Int) == (c4.length : Int)) = b7
        generalize ((c3.length : Int) == 0) = b8
        rcases ZaA c0 with rfl | rfl | rfl | rfl | rfl | ⟨e1, e2, e3, e4, e5⟩
        · cases b1 <;> cases b5 <;> cases b6 <;> cases b8 <;> rfl
        · cases b2 <;> cases b6 <;> cases b8 <;> rfl
        · cases b2 <;> cases b4 <;> cases b6 <;> cases b8 <;> rfl
        · cases b2 <;> cases b5 <;> cases b8 <;> rfl
        · cases b2 <;> cases b3 <;> cases b5 <;> cases b7 <;> cases b8 <;> rfl
        · cases b8 <;> simp only [e1, e2, e3, e4, e5, cond_false, cond_true]
theorem look_fv {d c0 : Int} {c1 : ByteArray} {c2 : Int} {c3 c4 : List (List D)} (hd0 : 0 ≤ d) (hd : d ≤ 6) (g1 : c1.size ≤ lim) (g3 : Zi RS lim c3) (g4 : Zi Yp lim c4) {k : Nat} (hk : ZF 1 k) {β : Type} (K : Int → Option β) : Yw.f k c0 c1 c2 c3 c4 d K = K (Yar d.toNat [.int .i64 c0, .str c1, .int .i64 c2, .sl c3, .sl c4]) := by
  have hb : big = 2 ^ 64 := rfl
  have h1 : lv 1 = 2 ^ 65 := rfl
  obtain ⟨n, rfl⟩ : ∃ n : Nat, d = n := ⟨d.toNat, by omega⟩
  exact Yw.f_of (look_t n g1 g3 g4 (by omega) (by unfold ZF at hk; omega)) K
theorem Yw.T {aC : Int} {aB : ByteArray} {aD : Int} {aA aI : List (List D)} {a1 : Int} (h0 : 0 ≤ a1) (h1 : a1 ≤ 6) (g1 : aB.size ≤ lim) (g3 : Zi RS lim aA) (g4 : Zi Yp lim aI) : Tm (ZF 1) (fun k => Yw.t k aC aB aD aA aI a1) (fun _ => True) := by
  have hb : big = 2 ^ 64 := rfl
  have h2 : lv 1 = 2 ^ 65 := rfl
  obtain ⟨n, rfl⟩ : ∃ n : Nat, a1 = n := ⟨a1.toNat, by omega⟩
  exact Tm.of (fun k hk => look_t n g1 g3 g4 (by omega) (by omega)) trivial
theorem YD.f_of {β : Type} {k aC aB aD aA aI z0} (h : YD.t k aC aB aD aA aI = some z0) (K : Bool → Option β) : YD.f k aC aB aD aA aI K = K z0 := by unfold YD.f; rw [h]; rfl
theorem YD.tm {ι α : Type} {ok : ι → Prop} {ψ : α → Prop} {p : ι → Nat} {B : Nat} (hp : ∀ i, ok i → B ≤ p i) {aC aB aD aA aI φ} (h : Tm (fun k => B ≤ k) (fun k => YD.t k aC aB aD aA aI) φ) {G : ι → Bool → Option α} (hG : ∀ z0, φ z0 → Tm ok (fun i => G i z0) ψ) : Tm ok (fun i => YD.f (p i) aC aB aD aA aI (G i)) ψ := ZK (t := fun k => YD.t k aC aB aD aA aI) hp h hG
theorem YD.T {aC : Int} {aB : ByteArray} {aD : Int} {aA aI : List (List D)} (ga0_1 : aB.size ≤ lim) (ga0_3 : Zi RS lim aA) (ga0_4 : Zi Yp lim aI) : Tm (ZF 1) (fun k => YD.t k aC aB aD aA aI) (fun _ => True) := by
  unfold YD.t YD.g
  have hm := Zy
  have hlim : lim = 1048576 := rfl
  have la0_3 := ga0_3.1
  have la0_4 := ga0_4.1
  refine Yw.tm (fun i hi => hi) (Yw.T (by first | assumption | omega) (by first | assumption | omega) (by first | assumption | omega) (by first | assumption | omega) (by first | assumption | omega)) (fun y2 hy1 => ?_)
  exact Tm.ret (by trivial)
noncomputable def YD.v (aC : Int) (aB : ByteArray) (aD : Int) (aA aI : List (List D)) : Bool := (YD.t (lv 1) aC aB aD aA aI).getD default
theorem YD.tv {aC : Int} {aB : ByteArray} {aD : Int} {aA aI : List (List D)} (ga0_1 : aB.size ≤ lim) (ga0_3 : Zi RS lim aA) (ga0_4 : Zi Yp lim aI) {k : Nat} (hk : (ZF 1) k) : YD.t k aC aB aD aA aI = some (YD.v aC aB aD aA aI) := (YD.T ga0_1 ga0_3 ga0_4).val hk
theorem YD.fv {aC : Int} {aB : ByteArray} {aD : Int} {aA aI : List (List D)} (ga0_1 : aB.size ≤ lim) (ga0_3 : Zi RS lim aA) (ga0_4 : Zi Yp lim aI) {k : Nat} (hk : (ZF 1) k) {β : Type} (K : Bool → Option β) : YD.f k aC aB aD aA aI K = K (YD.v aC aB aD aA aI) := YD.f_of (YD.tv ga0_1 ga0_3 ga0_4 hk) K
theorem Y4.f_of {β : Type} {k aC aB aD aA aI aX aP aU aL aV aM aQ aT aN aW aO aR a1 a2 a3 z0} (h : Y4.t k aC aB aD aA aI aX aP aU aL aV aM aQ aT aN aW aO aR a1 a2 a3 = some z0) (K : Bool → Option β) : Y4.f k aC aB aD aA aI aX aP aU aL aV aM aQ aT aN aW aO aR a1 a2 a3 K = K z0 := by unfold Y4.f; rw [h]; rfl
theorem Y4.tm {ι α : Type} {ok : ι → Prop} {ψ : α → Prop} {p : ι → Nat} {B : Nat} (hp : ∀ i, ok i → B ≤ p i) {aC aB aD aA aI aX aP aU aL aV aM aQ aT aN aW aO aR a1 a2 a3 φ} (h : Tm (fun k => B ≤ k) (fun k => Y4.t k aC aB aD aA aI aX aP aU aL aV aM aQ aT aN aW aO aR a1 a2 a3) φ) {G : ι → Bool → Option α} (hG : ∀ z0, φ z0 → Tm ok (fun i => G i z0) ψ) : Tm ok (fun i => Y4.f (p i) aC aB aD aA aI aX aP aU aL aV aM aQ aT aN aW aO aR a1 a2 a3 (G i)) ψ := ZK (t := fun k => Y4.t k aC aB aD aA aI aX aP aU aL aV aM aQ aT aN aW aO aR a1 a2 a3) hp h hG
theorem Y4.T {aC : Int} {aB : ByteArray} {aD aA aI : Int} {aX : Bool} {aP : List (List D)} {aU : Int} {aL : ByteArray} {aV : Int} {aM aQ : List (List D)} {aT : Int} {aN : ByteArray} {aW : Int} {aO aR : List (List D)} {a1 a2 : Int} {a3 : Bool} (ga0_1 : aB.size ≤ lim) (ga0_6 : Zi RS lim aP) (ga0_8 : aL.size ≤ lim) (ga0_10 : Zi RS lim aM) (ga0_11 : Zi Yp lim aQ) (ga0_13 : aN.size ≤ lim) (ga0_15 : Zi RS lim aO) (ga0_16 : Zi Yp lim aR) : Tm (ZF 1) (fun k => Y4.t k aC aB aD aA aI aX aP aU aL aV aM aQ aT aN aW aO aR a1 a2 a3) (fun _ => True) := by
  unfold Y4.t Y4.g
  have hm := Zy
  have hlim : lim = 1048576 := rfl
  have la0_6 := ga0_6.1
  have la0_10 := ga0_10.1
  have la0_11 := ga0_11.1
  have la0_15 := ga0_15.1
  have la0_16 := ga0_16.1
  refine YH.tm (fun i hi => up0 hi) (YH.T) (fun y2 hy1 => ?_)
  refine Tm.ite (fun h3 => ?_) (fun h3 => ?_)
  · try simp only [bz0, bz1, bz2, bz3, bz4, bz5, bz6, bz7, bz8, bz9, bza] at h3
    have z4 := hy1 h3
    refine Ym.tm (fun i hi => up0 hi) (Ym.T (by first | assumption | omega)) (fun y6 hy5 => ?_)
    refine Tm.ite (fun h7 => ?_) (fun h7 => ?_)
    · try simp only [bz0, bz1, bz2, bz3, bz4, bz5, bz6, bz7, bz8, bz9, bza] at h7
      try rw [Zj (x := a2 - 1) (by omega) (by omega)]
      refine YH.tm (fun i hi => up0 hi) (YH.T) (fun y9 hy8 => ?_)
      refine Tm.ite (fun h10 => ?_) (fun h10 => ?_)
      · try simp only [bz0, bz1, bz2, bz3, bz4, bz5, bz6, bz7, bz8, bz9, bza] at h10
        have z11 := hy8 h10
        refine YH.tm (fun i hi => up0 hi) (YH.T) (fun y13 hy12 => ?_)
        refine Tm.ite (fun h14 => ?_) (fun h14 => ?_)
        · try simp only [bz0, bz1, bz2, bz3, bz4, bz5, bz6, bz7, bz8, bz9, bza] at h14
          have z15 := hy12 h14
          refine YH.tm (fun i hi => up0 hi) (YH.T) (fun y17 hy16 => ?_)
          refine Tm.ite (fun h18 => ?_) (fun h18 => ?_)
          · try simp only [bz0, bz1, bz2, bz3, bz4, bz5, bz6, bz7, bz8, bz9, bza] at h18
            have z19 := hy16 h18
            refine Yt.tm (fun i hi => up0 hi) (Yt.T (by first | assumption | omega)) (fun y21 hy20 => ?_)
            refine Tm.ite (fun h22 => ?_) (fun h22 => ?_)
            · try simp only [bz0, bz1, bz2, bz3, bz4, bz5, bz6, bz7, bz8, bz9, bza] at h22
              refine YD.tm (fun i hi => hi) (YD.T (by first | assumption | omega) (by first | assumption | omega) (by first | assumption | omega)) (fun y24 hy23 => ?_)
              refine Tm.ite (fun h25 => ?_) (fun h25 => ?_)
              · try simp only [bz0, bz1, bz2, bz3, bz4, bz5, bz6, bz7, bz8, bz9, bza] at h25
                refine YD.tm (fun i hi => hi) (YD.T (by first | assumption | omega) (by first | assumption | omega) (by first | assumption | omega)) (fun y27 hy26 => ?_)
                refine Tm.ite (fun h28 => ?_) (fun h28 => ?_)
                · try simp only [bz0, bz1, bz2, bz3, bz4, bz5, bz6, bz7, bz8, bz9, bza] at h28
                  refine Tm.ite (fun h29 => ?_) (fun h29 => ?_)
                  · try simp only [bz0, bz1, bz2, bz3, bz4, bz5, bz6, bz7, bz8, bz9, bza] at h29
                    exact Tm.ret (by trivial)
                  · try simp only [bz0, bz1, bz2, bz3, bz4, bz5, bz6, bz7, bz8, bz9, bza] at h29
                    refine Tm.ite (fun h30 => ?_) (fun h30 => ?_)
                    · try simp only [bz0, bz1, bz2, bz3, bz4, bz5, bz6, bz7, bz8, bz9, bza] at h30
                      exact Tm.ret (by trivial)
                    · try simp only [bz0, bz1, bz2, bz3, bz4, bz5, bz6, bz7, bz8, bz9, bza] at h30
                      exact Tm.ret (by trivial)
                · try simp only [bz0, bz1, bz2, bz3, bz4, bz5, bz6, bz7, bz8, bz9, bza] at h28
                  exact Tm.ret (by trivial)
              · try simp only [bz0, bz1, bz2, bz3, bz4, bz5, bz6, bz7, bz8, bz9, bza] at h25
                exact Tm.ret (by trivial)
            · try simp only [bz0, bz1, bz2, bz3, bz4, bz5, bz6, bz7, bz8, bz9, bza] at h22
              exact Tm.ret (by trivial)
          · try simp only [bz0, bz1, bz2, bz3, bz4, bz5, bz6, bz7, bz8, bz9, bza] at h18
            exact Tm.ret (by trivial)
        · try simp only [bz0, bz1, bz2, bz3, bz4, bz5, bz6, bz7, bz8, bz9, bza] at h14
          exact Tm.ret (by trivial)
      · try simp only [bz0, bz1, bz2, bz3, bz4, bz5, bz6, bz7, bz8, bz9, bza] at h10
        exact Tm.ret (by trivial)
    · try simp only [bz0, bz1, bz2, bz3, bz4, bz5, bz6, bz7, bz8, bz9, bza] at h7
      exact Tm.ret (by trivial)
  · try simp only [bz0, bz1, bz2, bz3, bz4, bz5, bz6, bz7, bz8, bz9, bza] at h3
    exact Tm.ret (by trivial)
theorem Yao.f_of {β : Type} {k aC aB aD aA aI aX aP aU aL aV aM aQ aT aN aW aO aR bC bD bE bF bG bM bN bO bP bQ bR bT bU bV bW bX bY z0} (h : Yao.t k aC aB aD aA aI aX aP aU aL aV aM aQ aT aN aW aO aR bC bD bE bF bG bM bN bO bP bQ bR bT bU bV bW bX bY = some z0) (K : Bool → Option β) : Yao.f k aC aB aD aA aI aX aP aU aL aV aM aQ aT aN aW aO aR bC bD bE bF bG bM bN bO bP bQ bR bT bU bV bW bX bY K = K z0 := by unfold Yao.f; rw [h]; rfl
theorem Yk.f_of {β : Type} {k a0 a1 a2 z0} (h : Yk.t k a0 a1 a2 = some z0) (K : Bool → Option β) : Yk.f k a0 a1 a2 K = K z0 := by unfold Yk.f; rw [h]; rfl
theorem Yk.tm {ι α : Type} {ok : ι → Prop} {ψ : α → Prop} {p : ι → Nat} {B : Nat} (hp : ∀ i, ok i → B ≤ p i) {a0 a1 a2 φ} (h : Tm (fun k => B ≤ k) (fun k => Yk.t k a0 a1 a2) φ) {G : ι → Bool → Option α} (hG : ∀ z0, φ z0 → Tm ok (fun i => G i z0) ψ) : Tm ok (fun i => Yk.f (p i) a0 a1 a2 (G i)) ψ := ZK (t := fun k => Yk.t k a0 a1 a2) hp h hG
noncomputable def objV (x0 : Int) (x1 : ByteArray) (x2 x3 x4 : Int) (x5 : Bool) (x6 : List (List D)) (x7 : Int) (x8 : ByteArray) (x9 : Int) (x10 x11 : List (List D)) (x12 : Int) (x13 : ByteArray) (x14 : Int) (x15 x16 : List (List D)) (ZN rev : Int) (gone : Bool) : Bool :=
  inB x0 1 3 && (Ym.v x1 && (inB x2 1 ZN && (inB x3 1 rev && (inB x4 1 x3 && (Yt.v x6 && (YD.v x7 x8 x9 x10 x11 && (YD.v x12 x13 x14 x15 x16 && (gone || (!x5 || decide ((x6.length : Int) > 0))))))))))
theorem l7Obj_fv {x0 : Int} {x1 : ByteArray} {x2 x3 x4 : Int} {x5 : Bool} {x6 : List (List D)} {x7 : Int} {x8 : ByteArray} {x9 : Int} {x10 x11 : List (List D)} {x12 : Int} {x13 : ByteArray} {x14 : Int} {x15 x16 : List (List D)} {rev next : Int} {gone : Bool} (g1 : x1.size ≤ lim) (g6 : Zi RS lim x6) (g8 : x8.size ≤ lim) (g10 : Zi RS lim x10) (g11 : Zi Yp lim x11) (g13 : x13.size ≤ lim) (g15 : Zi RS lim x15) (g16 : Zi Yp lim x16) {k : Nat} (hk : ZF 1 k) {β : Type} (K : Bool → Option β) :
    Y4.f k x0 x1 x2 x3 x4 x5 x6 x7 x8 x9 x10 x11 x12 x13 x14 x15 x16 rev next gone K = K (objV x0 x1 x2 x3 x4 x5 x6 x7 x8 x9 x10 x11 x12 x13 x14 x15 x16 (IntKind.wrap .i64 (next - 1)) rev gone) := Y4.f_of (by
  have hk0 : Z3 k := up0 hk
  unfold Y4.t Y4.g objV
  simp only [l1In_fv, Ym.fv g1 hk0, Yt.fv g6 hk0, YD.fv g8 g10 g11 hk, YD.fv g13 g15 g16 hk]
  generalize inB x0 1 3 = b0
  generalize Ym.v x1 = b1
  generalize inB x2 1 (IntKind.wrap .i64 (next - 1)) = b2
  generalize inB x3 1 rev = b3
  generalize inB x4 1 x3 = b4
  generalize Yt.v x6 = b5
  generalize YD.v x7 x8 x9 x10 x11 = b6
  generalize YD.v x12 x13 x14 x15 x16 = b7
  cases b0
  · rfl
  cases b1
  · rfl
  cases b2
  · rfl
  cases b3
  · rfl
  cases b4
  · rfl
  cases b5
  · rfl
  cases b6
  · rfl
  cases b7
  · rfl
  cases gone <;> cases x5 <;> rfl) K
noncomputable def lessV (x0 : Int) (x1 : ByteArray) (y0 : Int) (y1 : ByteArray) : Bool := decide (x0 < y0) || ((x0 == y0) && ZbO x1 y1)
theorem l7Less_fv {x0 : Int} {x1 : ByteArray} {x2 x3 x4 : Int} {x5 : Bool} {x6 : List (List D)} {x7 : Int} {x8 : ByteArray} {x9 : Int} {x10 x11 : List (List D)} {x12 : Int} {x13 : ByteArray} {x14 : Int} {x15 x16 : List (List D)} {y0 : Int} {y1 : ByteArray} {y2 y3 y4 : Int} {y5 : Bool} {y6 : List (List D)} {y7 : Int} {y8 : ByteArray} {y9 : Int} {y10 y11 : List (List D)} {y12 : Int} {y13 : ByteArray} {y14 : Int} {y15 y16 : List (List D)} {k : Nat} {β : Type} (K : Bool → Option β) :
    Yao.f k x0 x1 x2 x3 x4 x5 x6 x7 x8 x9 x10 x11 x12 x13 x14 x15 x16 y0 y1 y2 y3 y4 y5 y6 y7 y8 y9 y10 y11 y12 y13 y14 y15 y16 K = K (lessV x0 x1 y0 y1) := Yao.f_of (by
  unfold Yao.t Yao.g lessV
  cases decide (x0 < y0) <;> cases x0 == y0 <;> rfl) K
noncomputable def objR (a : List (List D)) (i ZN rev : Int) : Bool := objV (gI a i 0) (gS a i 1) (gI a i 2) (gI a i 3) (gI a i 4) (gB a i 5) (gL a i 6) (gI a i 7) (gS a i 8) (gI a i 9) (gL a i 10) (gL a i 11) (gI a i 12) (gS a i 13) (gI a i 14) (gL a i 15) (gL a i 16) ZN rev false
noncomputable def objsP (a : List (List D)) (ZN rev : Int) (i : Nat) : Bool := objR a i ZN rev && ((!decide ((i : Int) > 0) || lessV (gI a ((i : Int) - 1) 0) (gS a ((i : Int) - 1) 1) (gI a (i : Int) 0) (gS a (i : Int) 1)) && (List.range i).all fun j => !(gI a (j : Int) 2 == gI a (i : Int) 2))
noncomputable def objsB (a : List (List D)) (ZN rev : Int) : Bool := (List.range a.length).all (objsP a ZN rev) && decide ((a.length : Int) ≤ 60)
set_option maxRecDepth 100000 in
theorem l7Objs_t {a : List (List D)} {rev next : Int} (g : Zi Yb lim a) {k : Nat} (hk : ZF 1 k) : Yk.t k a rev next = some (objsB a (IntKind.wrap .i64 (next - 1)) rev) := by
  have hk0 : Z3 k := up0 hk
  have hl := g.1
  have hlim : lim = 1048576 := rfl
  have hb : big = 2 ^ 64 := rfl
  unfold Yk.t Yk.g
  refine (iter_allT (fun i => (a, rev, next, (i : Int))) (n := a.length) (objsP a (IntKind.wrap .i64 (next - 1)) rev) (r1 := some false) (r2 := some (decide ((a.length : Int) ≤ 60))) (by unfold Z3 at hk0; omega) (fun L i hi => ?_) (fun L => by simp [Yk.l0, Yk.m0, atR, rdQ, Q.ask])).trans ?_
  · obtain ⟨-, -, k1, -, -, -, k6, -, k8, -, k10, k11, -, k13, -, k15, k16, -⟩ := Yb.get g (v := (i : Int)) (by omega) (by omega)
    have hin : ∀ {b : (Int → Option Bool) → Int → Option Bool}, (∀ (L1 : Int → Option Bool) (j : Nat), j < i → b L1 (j : Int) = bif !(gI a (j : Int) 2 == gI a (i : Int) 2) then L1 ((j : Int) + 1) else some false) → (∀ L1, b L1 (i : Int) = L (a, rev, next, ((i + 1 : Nat) : Int))) → Zo b k 0 = bif (List.range i).all (fun j => !(gI a (j : Int) 2 == gI a (i : Int) 2)) then L (a, rev, next, ((i + 1 : Nat) : Int)) else some false := fun q1 q2 => Zb6 _ (by unfold Z3 at hk0; omega) q1 q2
    have e1 : Zo (Yk.l1 k a rev next (i : Int) L some) k 0 = bif (List.range i).all (fun j => !(gI a (j : Int) 2 == gI a (i : Int) 2)) then L (a, rev, next, ((i + 1 : Nat) : Int)) else some false := hin (fun L1 j hj => by
      simp (disch := omega) only [Yk.l1, atR, rdQ, Q.ask, ZQ (show (j : Int) < i by omega), cond_true, Yb.row g, ZY, Zad, Zaj, ZaQ, Za7, Z6, Zj]
      cases gI a (j : Int) 2 == gI a (i : Int) 2 <;> rfl) (fun L1 => by
      simp (disch := omega) only [Yk.l1, atR, rdQ, Q.ask, ZV (show ¬ (i : Int) < i by omega), cond_false, Zj]
      rfl)
    have e2 : Zo (Yk.l2 k a rev next (i : Int) L some) k 0 = bif (List.range i).all (fun j => !(gI a (j : Int) 2 == gI a (i : Int) 2)) then L (a, rev, next, ((i + 1 : Nat) : Int)) else some false := hin (fun L1 j hj => by
      simp (disch := omega) only [Yk.l2, atR, rdQ, Q.ask, ZQ (show (j : Int) < i by omega), cond_true, Yb.row g, ZY, Zad, Zaj, ZaQ, Za7, Z6, Zj]
      cases gI a (j : Int) 2 == gI a (i : Int) 2 <;> rfl) (fun L1 => by
      simp (disch := omega) only [Yk.l2, atR, rdQ, Q.ask, ZV (show ¬ (i : Int) < i by omega), cond_false, Zj]
      rfl)
    have e3 : ∀ {F : Bool → Option Bool}, Y4.f k (gI a i 0) (gS a i 1) (gI a i 2) (gI a i 3) (gI a i 4) (gB a i 5) (gL a i 6) (gI a i 7) (gS a i 8) (gI a i 9) (gL a i 10) (gL a i 11) (gI a i 12) (gS a i 13) (gI a i 14) (gL a i 15) (gL a i 16) rev next false F = F (objR a i (IntKind.wrap .i64 (next - 1)) rev) := l7Obj_fv k1 k6 k8 k10 k11 k13 k15 k16 hk _
    unfold objsP
    simp (disch := omega) only [Yk.l0, Yk.m0, atR, rdQ, Q.ask, ZQ (show (i : Int) < a.length by omega), cond_true, Yb.row g, ZY, Zad, Zaj, ZaQ, Za7, Z6, e3, e1, e2]
    cases objR a (i : Int) (IntKind.wrap .i64 (next - 1)) rev
    · rfl
    by_cases h0 : (i : Int) > 0
    · simp (disch := omega) only [ZQ h0, cond_true, Zj, Yb.row g, ZY, Zad, Zaj, ZaQ, Za7, Z6, l7Less_fv, Bool.not_true, cond_false]
      cases lessV (gI a ((i : Int) - 1) 0) (gS a ((i : Int) - 1) 1) (gI a (i : Int) 0) (gS a (i : Int) 1) <;> rfl
    · simp only [ZV h0, cond_false, Bool.not_true, Bool.not_false, Bool.true_or, Bool.true_and]
  · unfold objsB
    cases (List.range a.length).all (objsP a (IntKind.wrap .i64 (next - 1)) rev) <;> rfl
theorem l7Objs_fv {a : List (List D)} {rev next : Int} (g : Zi Yb lim a) {k : Nat} (hk : ZF 1 k) {β : Type} (K : Bool → Option β) : Yk.f k a rev next K = K (objsB a (IntKind.wrap .i64 (next - 1)) rev) := Yk.f_of (l7Objs_t g hk) K
theorem Yk.T {a0 : List (List D)} {a1 a2 : Int} (g : Zi Yb lim a0) : Tm (ZF 1) (fun k => Yk.t k a0 a1 a2) (fun _ => True) := Tm.of (v := objsB a0 (IntKind.wrap .i64 (a2 - 1)) a1) (fun k hk => l7Objs_t g hk) trivial
theorem Yy.f_of {β : Type} {k aC aB aD aA z0} (h : Yy.t k aC aB aD aA = some z0) (K : Bool → Option β) : Yy.f k aC aB aD aA K = K z0 := by unfold Yy.f; rw [h]; rfl
set_option maxRecDepth 100000 in
theorem Yy.T {aC : List (List D)} {aB aD : Int} {aA : List (List D)} (ga0_0 : Zi Yb lim aC) (ga0_3 : Zi Ya lim aA) : Tm (ZF 1) (fun k => Yy.t k aC aB aD aA) (fun _ => True) := by
  unfold Yy.t Yy.g Yy.m
  have hm := Zy
  have hlim : lim = 1048576 := rfl
  have la0_0 := ga0_0.1
  have la0_3 := ga0_3.1
  refine YH.tm (fun i hi => up0 hi) (YH.T) (fun y2 hy1 => ?_)
  refine Tm.ite (fun h3 => ?_) (fun h3 => ?_)
  · try simp only [bz0, bz1, bz2, bz3, bz4, bz5, bz6, bz7, bz8, bz9, bza] at h3
    exact Tm.ret (by trivial)
  · try simp only [bz0, bz1, bz2, bz3, bz4, bz5, bz6, bz7, bz8, bz9, bza] at h3
    have z4 := hy1 h3
    refine YH.tm (fun i hi => up0 hi) (YH.T) (fun y6 hy5 => ?_)
    refine Tm.ite (fun h7 => ?_) (fun h7 => ?_)
    · try simp only [bz0, bz1, bz2, bz3, bz4, bz5, bz6, bz7, bz8, bz9, bza] at h7
      exact Tm.ret (by trivial)
    · try simp only [bz0, bz1, bz2, bz3, bz4, bz5, bz6, bz7, bz8, bz9, bza] at h7
      have z8 := hy5 h7
      refine Tm.ite (fun h9 => ?_) (fun h9 => ?_)
      · try simp only [bz0, bz1, bz2, bz3, bz4, bz5, bz6, bz7, bz8, bz9, bza] at h9
        exact Tm.ret (by trivial)
      · try simp only [bz0, bz1, bz2, bz3, bz4, bz5, bz6, bz7, bz8, bz9, bza] at h9
        refine Yk.tm (fun i hi => hi) (Yk.T (by first | assumption | omega)) (fun y11 hy10 => ?_)
        refine Tm.ite (fun h12 => ?_) (fun h12 => ?_)
        · try simp only [bz0, bz1, bz2, bz3, bz4, bz5, bz6, bz7, bz8, bz9, bza] at h12
          exact Tm.ret (by trivial)
        · try simp only [bz0, bz1, bz2, bz3, bz4, bz5, bz6, bz7, bz8, bz9, bza] at h12
          refine Tm.loop (okk := (ZF 1)) (p := fun k => k) (fun i hi => up0 hi) (b := fun k => Yy.l0 k aC aB aD aA (fun z0 => some z0)) (fun i => (((aA.length : Int)) - i).toNat) (fun i => 0 ≤ i ∧ i ≤ (aA.length : Int)) ?_ ?_ ?_
          · rintro i hI
            try simp only [] at hI ⊢
            have : big = 2 ^ 64 := rfl
            omega
          · ((try simp only []); omega)
          · rintro i hI L hL
            try simp only [] at hI
            obtain ⟨i0, i1⟩ := hI
            simp only [Yy.l0, atR, rdQ, Q.ask]
            refine Tm.ite (fun h13 => ?_) (fun h13 => ?_)
            · try simp only [bz0, bz1, bz2, bz3, bz4, bz5, bz6, bz7, bz8, bz9, bza] at h13
              refine Tm.atRow (by first | assumption | omega) (by first | assumption | omega) (fun x14 hx15 hm16 => ?_)
              obtain ⟨c17, c18, c19, c20, c21, c22, c23, c24, c25, c26, c27, c28, c29, c30, c31, c32, c33, c34, c35, rfl, g36, g37, g38, g39, g40, g41, g42, g43, g44, g45, g46, g47, g48, g49, g50, g51, g52, _⟩ := (ga0_3.2 x14 hm16).open
              refine Tm.uncons ?_
              refine Tm.dInt ?_
              refine Tm.uncons ?_
              refine Tm.dBool ?_
              refine Tm.uncons ?_
              refine Tm.dInt ?_
              refine Tm.uncons ?_
              refine Tm.dStr ?_
              refine Tm.uncons ?_
              refine Tm.dInt ?_
              refine Tm.uncons ?_
              refine Tm.dInt ?_
              refine Tm.uncons ?_
              refine Tm.dInt ?_
              refine Tm.uncons ?_
              refine Tm.dBool ?_
              refine Tm.uncons ?_
              refine Tm.dSl ?_
              refine Tm.uncons ?_
              refine Tm.dInt ?_
              refine Tm.uncons ?_
              refine Tm.dStr ?_
              refine Tm.uncons ?_
              refine Tm.dInt ?_
              refine Tm.uncons ?_
              refine Tm.dSl ?_
              refine Tm.uncons ?_
              refine Tm.dSl ?_
              refine Tm.uncons ?_
              refine Tm.dInt ?_
              refine Tm.uncons ?_
              refine Tm.dStr ?_
              refine Tm.uncons ?_
              refine Tm.dInt ?_
              refine Tm.uncons ?_
              refine Tm.dSl ?_
              refine Tm.uncons ?_
              refine Tm.dSl ?_
              refine Tm.atEnd ?_
              refine Y4.tm (fun i hi => hi.1) (Y4.T (by first | assumption | omega) (by first | assumption | omega) (by first | assumption | omega) (by first | assumption | omega) (by first | assumption | omega) (by first | assumption | omega) (by first | assumption | omega) (by first | assumption | omega)) (fun y54 hy53 => ?_)
              refine Tm.ite (fun h55 => ?_) (fun h55 => ?_)
              · try simp only [bz0, bz1, bz2, bz3, bz4, bz5, bz6, bz7, bz8, bz9, bza] at h55
                exact Tm.ret (by trivial)
              · try simp only [bz0, bz1, bz2, bz3, bz4, bz5, bz6, bz7, bz8, bz9, bza] at h55
                refine Tm.ite (fun h56 => ?_) (fun h56 => ?_)
                · try simp only [bz0, bz1, bz2, bz3, bz4, bz5, bz6, bz7, bz8, bz9, bza] at h56
                  exact Tm.ret (by trivial)
                · try simp only [bz0, bz1, bz2, bz3, bz4, bz5, bz6, bz7, bz8, bz9, bza] at h56
                  refine Tm.ite (fun h57 => ?_) (fun h57 => ?_)
                  · try simp only [bz0, bz1, bz2, bz3, bz4, bz5, bz6, bz7, bz8, bz9, bza] at h57
                    try rw [Zj (x := i - 1) (by omega) (by omega)]
                    refine Tm.atRow (by first | assumption | omega) (by first | assumption | omega) (fun x58 hx59 hm60 => ?_)
                    obtain ⟨c61, c62, c63, c64, c65, c66, c67, c68, c69, c70, c71, c72, c73, c74, c75, c76, c77, c78, c79, rfl, g80, g81, g82, g83, g84, g85, g86, g87, g88, g89, g90, g91, g92, g93, g94, g95, g96, _⟩ := (ga0_3.2 x58 hm60).open
                    refine Tm.uncons ?_
                    refine Tm.dInt ?_
                    refine Tm.uncons ?_
                    refine Tm.dBool ?_
                    refine Tm.uncons ?_
                    refine Tm.dInt ?_
                    refine Tm.uncons ?_
                    refine Tm.dStr ?_
                    refine Tm.uncons ?_
                    refine Tm.dInt ?_
                    refine Tm.uncons ?_
                    refine Tm.dInt ?_
                    refine Tm.uncons ?_
                    refine Tm.dInt ?_
                    refine Tm.uncons ?_
                    refine Tm.dBool ?_
                    refine Tm.uncons ?_
                    refine Tm.dSl ?_
                    refine Tm.uncons ?_
                    refine Tm.dInt ?_
                    refine Tm.uncons ?_
                    refine Tm.dStr ?_
                    refine Tm.uncons ?_
                    refine Tm.dInt ?_
                    refine Tm.uncons ?_
                    refine Tm.dSl ?_
                    refine Tm.uncons ?_
                    refine Tm.dSl ?_
                    refine Tm.uncons ?_
                    refine Tm.dInt ?_
                    refine Tm.uncons ?_
                    refine Tm.dStr ?_
                    refine Tm.uncons ?_
                    refine Tm.dInt ?_
                    refine Tm.uncons ?_
                    refine Tm.dSl ?_
                    refine Tm.uncons ?_
                    refine Tm.dSl ?_
                    refine Tm.atEnd ?_
                    refine Tm.ite (fun h97 => ?_) (fun h97 => ?_)
                    · try simp only [bz0, bz1, bz2, bz3, bz4, bz5, bz6, bz7, bz8, bz9, bza] at h97
                      exact Tm.ret (by trivial)
                    · try simp only [bz0, bz1, bz2, bz3, bz4, bz5, bz6, bz7, bz8, bz9, bza] at h97
                      try rw [Zj (x := i + 1) (by omega) (by omega)]
                      exact hL _ (by (try simp only []); omega) (by (try simp only []); omega)
                  · try simp only [bz0, bz1, bz2, bz3, bz4, bz5, bz6, bz7, bz8, bz9, bza] at h57
                    try rw [Zj (x := i + 1) (by omega) (by omega)]
                    exact hL _ (by (try simp only []); omega) (by (try simp only []); omega)
            · try simp only [bz0, bz1, bz2, bz3, bz4, bz5, bz6, bz7, bz8, bz9, bza] at h13
              exact Tm.ret (by trivial)
noncomputable def Yy.v (aC : List (List D)) (aB aD : Int) (aA : List (List D)) : Bool := (Yy.t (lv 1) aC aB aD aA).getD default
theorem Yy.tv {aC : List (List D)} {aB aD : Int} {aA : List (List D)} (ga0_0 : Zi Yb lim aC) (ga0_3 : Zi Ya lim aA) {k : Nat} (hk : (ZF 1) k) : Yy.t k aC aB aD aA = some (Yy.v aC aB aD aA) := (Yy.T ga0_0 ga0_3).val hk
theorem Yy.fv {aC : List (List D)} {aB aD : Int} {aA : List (List D)} (ga0_0 : Zi Yb lim aC) (ga0_3 : Zi Ya lim aA) {k : Nat} (hk : (ZF 1) k) {β : Type} (K : Bool → Option β) : Yy.f k aC aB aD aA K = K (Yy.v aC aB aD aA) := Yy.f_of (Yy.tv ga0_0 ga0_3 hk) K
theorem Yz.f_of {β : Type} {k aC aB aD aA aI z0 z1 z2 z3 z4} (h : Yz.t k aC aB aD aA aI = some (z0, z1, z2, z3, z4)) (K : Int → ByteArray → Int → (List (List C)) → (List (List C)) → Option β) : Yz.f k aC aB aD aA aI K = K z0 z1 z2 z3 z4 := by unfold Yz.f Yz.w; rw [h]; rfl
theorem Yap.f_of {β : Type} {k : Nat} {aC : Int} {aB : ByteArray} {aD aA aI : Int} {aX : Bool} {aP : List (List D)} {aU : Int} {aL : ByteArray} {aV : Int} {aM aQ : List (List D)} {aT : Int} {aN : ByteArray} {aW : Int} {aO aR : List (List D)} {z0 : Int} {z1 : ByteArray} {z2 z3 z4 : Int} {z5 : Bool} {z6 : List (List C)} {z7 : Int} {z8 : ByteArray} {z9 : Int} {z10 z11 : List (List C)} {z12 : Int} {z13 : ByteArray} {z14 : Int} {z15 z16 : List (List C)} (h : Yap.t k aC aB aD aA aI aX aP aU aL aV aM aQ aT aN aW aO aR = some (z0, z1, z2, z3, z4, z5, z6, z7, z8, z9, z10, z11, z12, z13, z14, z15, z16)) (K : Int → ByteArray → Int → Int → Int → Bool → (List (List C)) → Int → ByteArray → Int → (List (List C)) → (List (List C)) → Int → ByteArray → Int → (List (List C)) → (List (List C)) → Option β) : Yap.f k aC aB aD aA aI aX aP aU aL aV aM aQ aT aN aW aO aR K = K z0 z1 z2 z3 z4 z5 z6 z7 z8 z9 z10 z11 z12 z13 z14 z15 z16 := by
  unfold Yap.f
  rw [h]
theorem YG.f_of {β : Type} {k a0 z0} (h : YG.t k a0 = some z0) (K : (List (List C)) → Option β) : YG.f k a0 K = K z0 := by unfold YG.f; rw [h]; rfl
theorem Y0.tm {ι α : Type} {ok : ι → Prop} {ψ : α → Prop} {p : ι → Nat} {B : Nat} (hp : ∀ i, ok i → B ≤ p i) {aC aB aD aA a1 φ} (h : Tm (fun k => B ≤ k) (fun k => Y0.t k aC aB aD aA a1) φ) {G : ι → (List (List C)) → Bool → Option α} (hG : ∀ z0 z1, φ (z0, z1) → Tm ok (fun i => G i z0 z1) ψ) : Tm ok (fun i => Y0.f (p i) aC aB aD aA a1 (G i)) ψ := bd2_tm (t := fun k => Y0.t k aC aB aD aA a1) hp h hG
theorem YY.f_of {β : Type} {k a0 a1 a2 z0} (h : YY.t k a0 a1 a2 = some z0) (K : Bool → Option β) : YY.f k a0 a1 a2 K = K z0 := by unfold YY.f; rw [h]; rfl
theorem Yaq.f_of {β : Type} {k a0 z0} (h : Yaq.t k a0 = some z0) (K : Bool → Option β) : Yaq.f k a0 K = K z0 := by unfold Yaq.f; rw [h]; rfl
theorem within_f {β : Type} {k : Nat} {a b c : Int} (K : Bool → Option β) : YY.f k a b c K = K (decide (b ≤ a) && decide (a ≤ c)) := by
  refine YY.f_of ?_ K
  unfold YY.t YY.g
  by_cases h : b ≤ a <;> simp [h]
theorem YV.same {k : Nat} {a : ByteArray} : YV.t k a = Ym.t k a := by
  unfold YV.t Ym.t YV.g Ym.g
  congr 1
  funext L v
  simp only [YV.l0, Ym.l0, l1In_f, within_f]
  refine bif_congr (fun _ => ?_) (fun _ => rfl)
  unfold Za0
  split
  · split
    · rename_i b _
      have hb : b.toNat < 256 := b.toNat_lt
      simp only []
      rw [Zj (x := (b.toNat : Int)) (by omega) (by omega)]
      generalize (b.toNat : Int) = x
      by_cases h1 : x < 97 <;> by_cases h2 : x < 48 <;> by_cases h3 : x > 57 <;> by_cases h4 : x > 122 <;> simp [h1, h2, h3, h4] <;> (try omega) <;> grind
    · rfl
  · rfl
theorem impl_NameOk_f {β : Type} {k : Nat} {a : ByteArray} (K : Bool → Option β) : YV.f k a K = Ym.f k a K := by
  unfold YV.f Ym.f
  rw [YV.same]
theorem Yaz {β : Type} {k : Nat} {a b c : Int} (K : Bool → Option β) : YY.f k a b c K = K (inB a b c) := within_f K
theorem YN.f_of {β : Type} {k a0 a1 z0} (h : YN.t k a0 a1 = some z0) (K : Bool → Option β) : YN.f k a0 a1 K = K z0 := by unfold YN.f; rw [h]; rfl
set_option maxRecDepth 100000 in
theorem namesOk_fv {a : List (List D)} {n : Int} (g : Zi RS lim a) {k : Nat} (hk : Z3 k) {β : Type} (K : Bool → Option β) : YN.f k a n K = K (namesB a && decide ((a.length : Int) ≤ n)) := YN.f_of (by
  have hl := g.1
  have hlim : lim = 1048576 := rfl
  have hb : big = 2 ^ 64 := rfl
  unfold YN.t YN.g
  rw [Zb6 (n := a.length) (fun i => Ym.v (gS a (i : Int) 0) && (!decide ((i : Int) > 0) || ZbO (gS a ((i : Int) - 1) 0) (gS a (i : Int) 0))) (r1 := some false) (r2 := some (decide ((a.length : Int) ≤ n))) (by unfold Z3 at hk; omega)]
  · unfold namesB
    generalize List.all _ _ = x
    cases x <;> rfl
  · intro L i hi
    have k0 := (RS.get g (v := (i : Int)) (by omega) (by omega)).2.1
    simp (disch := omega) only [YN.l0, atR, rdQ, Q.ask, ZQ (show (i : Int) < a.length by omega), cond_true, RS.row g, ZY, Zaj, Z6, impl_NameOk_f, Ym.fv k0 hk, Zj]
    by_cases h0 : (i : Int) > 0
    · simp (disch := omega) only [ZQ h0, cond_true, RS.row g, ZY, Zaj, Z6]
      cases Ym.v (gS a (i : Int) 0) <;> cases ZbO (gS a ((i : Int) - 1) 0) (gS a (i : Int) 0) <;> rfl
    · simp only [ZV h0, cond_false]
      cases Ym.v (gS a (i : Int) 0) <;> rfl
  · intro L
    simp [YN.l0, atR, rdQ, Q.ask]) K
theorem YM.f_of {β : Type} {k aC aB aD aA aI z0} (h : YM.t k aC aB aD aA aI = some z0) (K : Bool → Option β) : YM.f k aC aB aD aA aI K = K z0 := by unfold YM.f; rw [h]; rfl
theorem Yo.f_of {β : Type} {k aC aB aD aA aI a1 z0} (h : Yo.t k aC aB aD aA aI a1 = some z0) (K : Int → Option β) : Yo.f k aC aB aD aA aI a1 K = K z0 := by unfold Yo.f Yo.w; rw [h]; rfl
theorem Y7.f_of {β : Type} {k aC aB aD aA aI z0} (h : Y7.t k aC aB aD aA aI = some z0) (K : Bool → Option β) : Y7.f k aC aB aD aA aI K = K z0 := by unfold Y7.f; rw [h]; rfl
theorem shapeOk_fv {c0 : Int} {c1 : ByteArray} {c2 : Int} {c3 c4 : List (List D)} (g1 : c1.size ≤ lim) (g3 : Zi RS lim c3) {k : Nat} (hk : Z3 k) {β : Type} (K : Bool → Option β) : YM.f k c0 c1 c2 c3 c4 K = K (Yaw c0 c1 c2 c3 c4 && (!(c0 == 5) || decide ((c3.length : Int) ≤ 300))) := YM.f_of (by
  have hlim : lim = 1048576 := rfl
  have hb : big = 2 ^ 64 := rfl
  unfold YM.t YM.g YM.m
  have text : Zo (YM.l0 k ((c2 : Int) == 0) (((c3.length : Int) : Int) == 0) (((c4.length : Int) : Int) == 0) (c1.size : Int) c0 c1 c2 c3 c4 fun z0 => some z0) k 0 = some (textB c1 && (decide ((c1.size : Int) ≤ 100) && (c2 == 0 && ((c3.length : Int) == 0 && (c4.length : Int) == 0)))) := by
    rw [Zb6 (n := c1.size) (fun i => inB (bS c1 (i : Int)) 32 126) (r1 := some false) (r2 := some (decide ((c1.size : Int) ≤ 100) && (c2 == 0 && ((c3.length : Int) == 0 && (c4.length : Int) == 0)))) (by unfold Z3 at hk; omega)]
    · unfold textB
      generalize List.all _ _ = x
      cases x <;> rfl
    · intro L i hi
      simp (disch := omega) only [YM.l0, ZQ (show (i : Int) < c1.size by omega), cond_true, atStr_at, wrap_b, Yaz, Zj]
      generalize inB _ _ _ = x
      cases x <;> rfl
    · intro L
      simp only [YM.l0, ZV (show ¬ (c1.size : Int) < c1.size by omega), cond_false]
      cases decide ((c1.size : Int) ≤ 100) <;> cases c2 == 0 <;> cases ((c3.length : Int) == 0) <;> rfl
  simp only [text, Yaz, namesOk_fv g3 hk]
  unfold Yaw
  generalize textB c1 = b1
  generalize decide ((c1.size : Int) ≤ 100) = b0
  generalize hb2 : Zae c1 (⟨#[]⟩ : ByteArray) = b2
  have hb3 : Zae c1 bareText = b2 := hb2
  rw [hb3]
  generalize namesB c3 = b3
  generalize inB c2 0 1 = b4
  generalize (c2 == 0) = b5
  generalize ((c4.length : Int) == 0) = b6
  generalize ((c3.length : Int) == (c4.length : Int)) = b7
  generalize ((c3.length : Int) == 0) = b8
  generalize decide ((c3.length : Int) ≤ 300) = b9
  rcases ZaA c0 with rfl | rfl | rfl | rfl | rfl | ⟨e1, e2, e3, e4, e5⟩
  · cases b0 <;> cases b1 <;> cases b5 <;> cases b6 <;> cases b8 <;> rfl
  · cases b2 <;> cases b6 <;> cases b8 <;> rfl
  · cases b2 <;> cases b4 <;> cases b6 <;> cases b8 <;> rfl
  · cases b2 <;> cases b5 <;> cases b8 <;> rfl
  · cases b2 <;> cases b3 <;> cases b5 <;> cases b7 <;> cases b9 <;> rfl
  · simp only [e1, e2, e3, e4, e5, cond_false, Bool.false_and]) K
set_option maxRecDepth 100000 in
theorem measured_t (d : Nat) : ∀ {c0 : Int} {c1 : ByteArray} {c2 : Int} {c3 c4 : List (List D)}, c1.size ≤ lim → Zi RS lim c3 → Zi Yp lim c4 → d ≤ 6 → ∀ {k : Nat}, big + d + 1 ≤ k → Yo.t k c0 c1 c2 c3 c4 (d : Int) = some (bif Yar d [.int .i64 c0, .str c1, .int .i64 c2, .sl c3, .sl c4] == 0 then 301 else Yar d [.int .i64 c0, .str c1, .int .i64 c2, .sl c3, .sl c4]) := by
  have hlim : lim = 1048576 := rfl
  have hb : big = 2 ^ 64 := rfl
  induction d with
  | zero =>
    intro c0 c1 c2 c3 c4 g1 g3 g4 hd k hk
    cases k with
    | zero => omega
    | succ k => rfl
  | succ d ih =>
    intro c0 c1 c2 c3 c4 g1 g3 g4 hd k hk
    cases k with
    | zero => omega
    | succ k =>
    have hl := g4.1
    have hk0 : Z3 k := by unfold Z3; omega
    rw [Yo.t_succ]
    unfold Yo.g Yo.body
    rw [show (((d + 1 : Nat) : Int) == 0) = false by rw [beq_eq_false_iff_ne]; omega, cond_false, shapeOk_fv g1 g3 hk0]
    have key := iter_val (b := Yo.l0 k (Yo.f k) ((d + 1 : Nat) : Int) c4 (c4.length : Int) fun z0 => some z0) (fun v => ((c4.length : Int) - v.2).toNat) (fun v => 0 ≤ v.2 ∧ v.2 ≤ c4.length ∧ 1 ≤ v.1 ∧ v.1 ≤ 300)
      (fun v => bif sumL (Yar d) (c4.drop v.2.toNat) v.1 == 0 then some 301 else some (sumL (Yar d) (c4.drop v.2.toNat) v.1)) ?_ k (1, 0) (by simp only []; omega) (by simp only []; omega)
    · rw [key]
      show (bif !(Yaw c0 c1 c2 c3 c4 && (!(c0 == 5) || decide ((c3.length : Int) ≤ 300))) then some 301 else bif sumL (Yar d) (List.drop 0 c4) 1 == 0 then some 301 else some (sumL (Yar d) (List.drop 0 c4) 1)) = some (bif Yar (d + 1) [.int .i64 c0, .str c1, .int .i64 c2, .sl c3, .sl c4] == 0 then 301 else Yar (d + 1) [.int .i64 c0, .str c1, .int .i64 c2, .sl c3, .sl c4])
      have el : Yar (d + 1) [.int .i64 c0, .str c1, .int .i64 c2, .sl c3, .sl c4] = bif sumL (Yar d) c4 1 == 0 then 0 else bif Yaw c0 c1 c2 c3 c4 then sumL (Yar d) c4 1 else 0 := rfl
      rw [List.drop_zero, el]
      have hs := sumL_range (f := Yar d) (fun r => (Yay d r).1) (rs := c4) (n := 1) (by omega) (by omega)
      by_cases hz : sumL (Yar d) c4 1 = 0
      · rw [hz]
        cases (Yaw c0 c1 c2 c3 c4 && (!(c0 == 5) || decide ((c3.length : Int) ≤ 300))) <;> rfl
      · have hz' : (sumL (Yar d) c4 1 == 0) = false := by rw [beq_eq_false_iff_ne]; exact hz
        rw [hz', cond_false, cond_false]
        by_cases hsh : Yaw c0 c1 c2 c3 c4 = true
        · have h5 : (!(c0 == 5) || decide ((c3.length : Int) ≤ 300)) = true := by
            by_cases h5 : c0 = 5
            · subst h5
              have : (c3.length : Int) = c4.length := by
                unfold Yaw at hsh
                simp at hsh
                omega
              have := hs.2.2 hz
              simp
              omega
            · simp [h5]
          rw [hsh, h5]
          simp only [Bool.and_self, Bool.not_true, cond_false, cond_true, hz']
        · rw [Bool.not_eq_true] at hsh
          rw [hsh]
          rfl
    · rintro ⟨n, i⟩ ⟨i0, i1, n0, n1⟩ L hL
      simp only [] at i0 i1 n0 n1 hL ⊢
      by_cases hi : i < c4.length
      · have hg := Yp.get g4 i0 hi
        have hr := Yay d (gR c4 i)
        have ih' := ih (c0 := gI c4 i 0) (c2 := gI c4 i 2) hg.2.2.1 hg.2.2.2.2.1 hg.2.2.2.2.2.1 (by omega) (k := k) (by omega)
        rw [← hg.1] at ih'
        simp (disch := omega) only [Yo.l0, atR, rdQ, Q.ask, ZQ hi, cond_true, Yp.row g4, ZY, Zaj, Zad, Za7, Z6, Zj, show ((d + 1 : Nat) : Int) - 1 = (d : Int) by omega]
        rw [Yo.f_of ih', drop_gR i0 hi]
        simp only [sumL]
        by_cases hz : Yar d (gR c4 i) = 0
        · rw [hz, show ((0 : Int) == 0) = true from rfl, cond_true, Zj (by omega) (by omega), ZQ (by omega)]
          simp
        · rw [show (Yar d (gR c4 i) == 0) = false by rw [beq_eq_false_iff_ne]; exact hz, cond_false, Zj (by omega) (by omega)]
          by_cases hn : n + Yar d (gR c4 i) > 300
          · rw [ZQ hn, if_pos (.inr hn)]
            rfl
          · rw [ZV hn, if_neg (by omega), cond_false, hL _ ⟨by simp only []; omega, by simp only []; omega, by simp only []; omega, by simp only []; omega⟩ (by simp only []; omega)]
      · rw [drop_end (by omega)]
        simp only [Yo.l0, atR, rdQ, Q.ask, ZV hi, cond_false, sumL]
        rw [show (n == 0) = false by rw [beq_eq_false_iff_ne]; omega, cond_false]
noncomputable def valB (c0 : Int) (c1 : ByteArray) (c2 : Int) (c3 c4 : List (List D)) : Bool := decide (Yar 6 [.int .i64 c0, .str c1, .int .i64 c2, .sl c3, .sl c4] > 0)
theorem spec_ValueOk_fv {c0 : Int} {c1 : ByteArray} {c2 : Int} {c3 c4 : List (List D)} (g1 : c1.size ≤ lim) (g3 : Zi RS lim c3) (g4 : Zi Yp lim c4) {k : Nat} (hk : ZF 1 k) {β : Type} (K : Bool → Option β) : YD.f k c0 c1 c2 c3 c4 K = K (valB c0 c1 c2 c3 c4) := YD.f_of (by
  unfold YD.t YD.g
  rw [look_fv (by omega) (by omega) g1 g3 g4 hk]
  rfl) K
theorem impl_ValueOk_fv {c0 : Int} {c1 : ByteArray} {c2 : Int} {c3 c4 : List (List D)} (g1 : c1.size ≤ lim) (g3 : Zi RS lim c3) (g4 : Zi Yp lim c4) {k : Nat} (hk : ZF 1 k) {β : Type} (K : Bool → Option β) : Y7.f k c0 c1 c2 c3 c4 K = K (valB c0 c1 c2 c3 c4) := Y7.f_of (by
  have hb : big = 2 ^ 64 := rfl
  have h1 : lv 1 = 2 ^ 65 := rfl
  unfold Y7.t Y7.g
  rw [Yo.f_of (show Yo.t k c0 c1 c2 c3 c4 6 = _ from measured_t 6 g1 g3 g4 (by omega) (by unfold ZF at hk; omega))]
  unfold valB
  have hr := Yay 6 [.int .i64 c0, .str c1, .int .i64 c2, .sl c3, .sl c4]
  generalize Yar 6 [.int .i64 c0, .str c1, .int .i64 c2, .sl c3, .sl c4] = n at *
  by_cases hz : n = 0
  · subst hz; rfl
  · rw [show (n == 0) = false by rw [beq_eq_false_iff_ne]; exact hz, cond_false, ZQ (by omega), ZQ (by omega)]) K
theorem Yan.f_of {β : Type} {k aC aB aD aA aI aX aP aU aL aV aM aQ aT aN aW aO aR a1 a2 a3 z0} (h : Yan.t k aC aB aD aA aI aX aP aU aL aV aM aQ aT aN aW aO aR a1 a2 a3 = some z0) (K : Bool → Option β) : Yan.f k aC aB aD aA aI aX aP aU aL aV aM aQ aT aN aW aO aR a1 a2 a3 K = K z0 := by unfold Yan.f; rw [h]; rfl
theorem Yad.f_of {β : Type} {k a0 z0} (h : Yad.t k a0 = some z0) (K : Bool → Option β) : Yad.f k a0 K = K z0 := by unfold Yad.f; rw [h]; rfl
theorem Y6.f_of {β : Type} {k a0 a1 z0} (h : Y6.t k a0 a1 = some z0) (K : Int → Option β) : Y6.f k a0 a1 K = K z0 := by unfold Y6.f; rw [h]; rfl
theorem Y5.f_of {β : Type} {k a0 a1 z0} (h : Y5.t k a0 a1 = some z0) (K : Int → Option β) : Y5.f k a0 a1 K = K z0 := by unfold Y5.f; rw [h]; rfl
theorem Yak.f_of {β : Type} {k aC aB aD aA aI aX aP aU aL aV aM aQ aT aN aW aO aR bC bD bE bF bG bM bN bO bP bQ bR bT bU bV bW bX bY z0} (h : Yak.t k aC aB aD aA aI aX aP aU aL aV aM aQ aT aN aW aO aR bC bD bE bF bG bM bN bO bP bQ bR bT bU bV bW bX bY = some z0) (K : Int → Option β) : Yak.f k aC aB aD aA aI aX aP aU aL aV aM aQ aT aN aW aO aR bC bD bE bF bG bM bN bO bP bQ bR bT bU bV bW bX bY K = K z0 := by unfold Yak.f; rw [h]; rfl
theorem Yae.f_of {β : Type} {k aC aB aD aA aI aX aP aU aL aV aM aQ aT aN aW aO aR f0_0 f0_1 f0_2 f0_3 f0_4 f0_5 f0_6 f0_7 f0_8 f0_9 f0_10 f0_11 f0_12 f0_13 f0_14 f0_15 f0_16 z0} (h : Yae.t k aC aB aD aA aI aX aP aU aL aV aM aQ aT aN aW aO aR f0_0 f0_1 f0_2 f0_3 f0_4 f0_5 f0_6 f0_7 f0_8 f0_9 f0_10 f0_11 f0_12 f0_13 f0_14 f0_15 f0_16 = some z0) (K : Bool → Option β) : Yae.f k aC aB aD aA aI aX aP aU aL aV aM aQ aT aN aW aO aR f0_0 f0_1 f0_2 f0_3 f0_4 f0_5 f0_6 f0_7 f0_8 f0_9 f0_10 f0_11 f0_12 f0_13 f0_14 f0_15 f0_16 K = K z0 := by unfold Yae.f; rw [h]; rfl
theorem Yc.f_of {β : Type} {k a0 a1_0_0 a1_0_1 a1_0_2 a1_0_3 a1_0_4 a1_0_5 a1_0_6 a1_0_7 a1_0_8 a1_0_9 a1_0_10 a1_0_11 a1_0_12 a1_0_13 a1_0_14 a1_0_15 a1_0_16 z0} (h : Yc.t k a0 a1_0_0 a1_0_1 a1_0_2 a1_0_3 a1_0_4 a1_0_5 a1_0_6 a1_0_7 a1_0_8 a1_0_9 a1_0_10 a1_0_11 a1_0_12 a1_0_13 a1_0_14 a1_0_15 a1_0_16 = some z0) (K : Int → Option β) : Yc.f k a0 a1_0_0 a1_0_1 a1_0_2 a1_0_3 a1_0_4 a1_0_5 a1_0_6 a1_0_7 a1_0_8 a1_0_9 a1_0_10 a1_0_11 a1_0_12 a1_0_13 a1_0_14 a1_0_15 a1_0_16 K = K z0 := by unfold Yc.f; rw [h]; rfl
theorem Yi.f_of {β : Type} {k a0 a1_0_0 a1_0_1 a1_0_2 a1_0_3 a1_0_4 a1_0_5 a1_0_6 a1_0_7 a1_0_8 a1_0_9 a1_0_10 a1_0_11 a1_0_12 a1_0_13 a1_0_14 a1_0_15 a1_0_16 z0} (h : Yi.t k a0 a1_0_0 a1_0_1 a1_0_2 a1_0_3 a1_0_4 a1_0_5 a1_0_6 a1_0_7 a1_0_8 a1_0_9 a1_0_10 a1_0_11 a1_0_12 a1_0_13 a1_0_14 a1_0_15 a1_0_16 = some z0) (K : Bool → Option β) : Yi.f k a0 a1_0_0 a1_0_1 a1_0_2 a1_0_3 a1_0_4 a1_0_5 a1_0_6 a1_0_7 a1_0_8 a1_0_9 a1_0_10 a1_0_11 a1_0_12 a1_0_13 a1_0_14 a1_0_15 a1_0_16 K = K z0 := by unfold Yi.f; rw [h]; rfl
theorem YZ.f_of {β : Type} {k a0 a1 a2 z0} (h : YZ.t k a0 a1 a2 = some z0) (K : Bool → Option β) : YZ.f k a0 a1 a2 K = K z0 := by unfold YZ.f; rw [h]; rfl
theorem less_cmp : ∀ (a b : List UInt8), decide (Go.Lib.compareBytes a b ≥ 0) = !Op.bytesLess a b
  | [], [] => rfl
  | [], _ :: _ => rfl
  | _ :: _, [] => rfl
  | x :: a, y :: b => by
    have ih := less_cmp a b
    unfold Go.Lib.compareBytes Op.bytesLess
    by_cases h1 : x < y
    · simp [h1]
    · by_cases h2 : y < x
      · have h3 : x ≠ y := fun e => by subst e; exact h1 h2
        simp [h1, h2, h3]
      · have h3 : x = y := UInt8.le_antisymm (UInt8.not_lt.1 h2) (UInt8.not_lt.1 h1)
        subst h3
        simp only [h1, if_false, ih]
        simp
theorem cmpS_less (a b : ByteArray) : decide (cmpS a b ≥ 0) = !ZbO a b := by
  unfold cmpS ZbO
  rw [less_cmp, Go.Lib.toList_data, Go.Lib.toList_data]
set_option maxRecDepth 100000 in
theorem waits_v {a : List (List D)} (g : Zi RS lim a) {k : Nat} (hk : Z3 k) : Yt.v a = (namesB a && decide ((a.length : Int) ≤ 4)) := by
  have hv := Yt.tv g hk
  suffices h : Yt.t k a = some (namesB a && decide ((a.length : Int) ≤ 4)) by
    rw [hv] at h
    injection h
  have hl := g.1
  have hlim : lim = 1048576 := rfl
  have hb : big = 2 ^ 64 := rfl
  unfold Yt.t Yt.g
  rw [Zb6 (n := a.length) (fun i => Ym.v (gS a (i : Int) 0) && (!decide ((i : Int) > 0) || ZbO (gS a ((i : Int) - 1) 0) (gS a (i : Int) 0))) (r1 := some false) (r2 := some (decide ((a.length : Int) ≤ 4))) (by unfold Z3 at hk; omega)]
  · unfold namesB
    generalize List.all _ _ = x
    cases x <;> rfl
  · intro L i hi
    have k0 := (RS.get g (v := (i : Int)) (by omega) (by omega)).2.1
    simp (disch := omega) only [Yt.l0, atR, rdQ, Q.ask, ZQ (show (i : Int) < a.length by omega), cond_true, RS.row g, ZY, Zaj, Z6, Ym.fv k0 hk, Zj]
    by_cases h0 : (i : Int) > 0
    · simp (disch := omega) only [ZQ h0, cond_true, RS.row g, ZY, Zaj, Z6]
      cases Ym.v (gS a (i : Int) 0) <;> cases ZbO (gS a ((i : Int) - 1) 0) (gS a (i : Int) 0) <;> rfl
    · simp only [ZV h0, cond_false]
      cases Ym.v (gS a (i : Int) 0) <;> rfl
  · intro L
    simp [Yt.l0, atR, rdQ, Q.ask]
theorem impl_ValueOk_v {c0 : Int} {c1 : ByteArray} {c2 : Int} {c3 c4 : List (List D)} (g1 : c1.size ≤ lim) (g3 : Zi RS lim c3) (g4 : Zi Yp lim c4) {k : Nat} (hk : ZF 1 k) {β : Type} (K : Bool → Option β) : Y7.f k c0 c1 c2 c3 c4 K = K (YD.v c0 c1 c2 c3 c4) := by
  have h : some (YD.v c0 c1 c2 c3 c4) = some (valB c0 c1 c2 c3 c4) := (YD.fv (aC := c0) (aD := c2) g1 g3 g4 hk some).symm.trans (spec_ValueOk_fv g1 g3 g4 hk some)
  injection h with h
  rw [impl_ValueOk_fv g1 g3 g4 hk, h]
theorem objOk_fv {x0 : Int} {x1 : ByteArray} {x2 x3 x4 : Int} {x5 : Bool} {x6 : List (List D)} {x7 : Int} {x8 : ByteArray} {x9 : Int} {x10 x11 : List (List D)} {x12 : Int} {x13 : ByteArray} {x14 : Int} {x15 x16 : List (List D)} {rev ZN : Int} {gone : Bool} (g1 : x1.size ≤ lim) (g6 : Zi RS lim x6) (g8 : x8.size ≤ lim) (g10 : Zi RS lim x10) (g11 : Zi Yp lim x11) (g13 : x13.size ≤ lim) (g15 : Zi RS lim x15) (g16 : Zi Yp lim x16) {k : Nat} (hk : ZF 1 k) {β : Type} (K : Bool → Option β) :
    Yan.f k x0 x1 x2 x3 x4 x5 x6 x7 x8 x9 x10 x11 x12 x13 x14 x15 x16 ZN rev gone K = K (objV x0 x1 x2 x3 x4 x5 x6 x7 x8 x9 x10 x11 x12 x13 x14 x15 x16 ZN rev gone) := Yan.f_of (by
  have hk0 : Z3 k := up0 hk
  have hi : ∀ {n : Int} {β : Type} (K : Bool → Option β), Yaq.f k n K = K (inB n 1 3) := fun K => Yaq.f_of (by unfold Yaq.t Yaq.g; rw [Yaz]) K
  unfold Yan.t Yan.g objV
  simp only [hi, Yaz, impl_NameOk_f, Ym.fv g1 hk0, namesOk_fv g6 hk0, ← waits_v g6 hk0, impl_ValueOk_v g8 g10 g11 hk, impl_ValueOk_v g13 g15 g16 hk]
  generalize inB x0 1 3 = b0
  generalize Ym.v x1 = b1
  generalize inB x2 1 ZN = b2
  generalize inB x3 1 rev = b3
  generalize inB x4 1 x3 = b4
  generalize Yt.v x6 = b5
  generalize YD.v x7 x8 x9 x10 x11 = b6
  generalize YD.v x12 x13 x14 x15 x16 = b7
  generalize decide ((x6.length : Int) > 0) = b8
  cases b0
  · rfl
  cases b1
  · rfl
  cases b2
  · rfl
  cases b3
  · rfl
  cases b4
  · rfl
  cases b5
  · rfl
  cases b6 <;> cases b7 <;> cases gone <;> cases x5 <;> cases b8 <;> rfl) K
theorem cmpObjs_fv {x0 : Int} {x1 : ByteArray} {x2 x3 x4 : Int} {x5 : Bool} {x6 : List (List D)} {x7 : Int} {x8 : ByteArray} {x9 : Int} {x10 x11 : List (List D)} {x12 : Int} {x13 : ByteArray} {x14 : Int} {x15 x16 : List (List D)} {y0 : Int} {y1 : ByteArray} {y2 y3 y4 : Int} {y5 : Bool} {y6 : List (List D)} {y7 : Int} {y8 : ByteArray} {y9 : Int} {y10 y11 : List (List D)} {y12 : Int} {y13 : ByteArray} {y14 : Int} {y15 y16 : List (List D)} {k : Nat} :
    ∃ c : Int, decide (c ≥ 0) = !lessV x0 x1 y0 y1 ∧ ∀ {β : Type} (K : Int → Option β), Yak.f k x0 x1 x2 x3 x4 x5 x6 x7 x8 x9 x10 x11 x12 x13 x14 x15 x16 y0 y1 y2 y3 y4 y5 y6 y7 y8 y9 y10 y11 y12 y13 y14 y15 y16 K = K c := by
  have hn : ∀ {n : Int} {β : Type} (K : Bool → Option β), Yad.f k n K = K false := fun {n β} K => Yad.f_of (by unfold Yad.t Yad.g; simp) K
  have hc : ∀ {β : Type} (K : Int → Option β), Y6.f k x0 y0 K = K (if x0 < y0 then -1 else if x0 > y0 then 1 else 0) := fun K => Y6.f_of (by
    unfold Y6.t Y6.g
    simp only [hn, cond_false]
    by_cases h1 : x0 < y0
    · simp [h1]
    · by_cases h2 : x0 > y0 <;> simp [h1, h2]) K
  have hs : ∀ {β : Type} (K : Int → Option β), Y5.f k x1 y1 K = K (cmpS x1 y1) := fun K => Y5.f_of (by unfold Y5.t Y5.g; rfl) K
  refine ⟨if x0 < y0 then -1 else if x0 > y0 then 1 else cmpS x1 y1, ?_, fun {β} K => Yak.f_of ?_ K⟩
  · unfold lessV
    by_cases h1 : x0 < y0
    · simp [h1]
    · by_cases h2 : x0 > y0
      · have h3 : ¬ x0 = y0 := by omega
        simp [h1, h2, h3]
      · have h3 : x0 = y0 := by omega
        subst h3
        simp only [h1, gt_iff_lt, if_false, decide_false, Bool.false_or, beq_self_eq_true, Bool.true_and]
        exact cmpS_less x1 y1
  · unfold Yak.t Yak.g
    simp only [hc, hs]
    by_cases h1 : x0 < y0
    · simp [h1]
    · by_cases h2 : x0 > y0 <;> simp [h1, h2]
set_option maxRecDepth 100000 in
theorem objsOk_fv {a : List (List D)} {rev ZN : Int} (g : Zi Yb lim a) {k : Nat} (hk : ZF 1 k) {β : Type} (K : Bool → Option β) : YZ.f k a ZN rev K = K (objsB a ZN rev) := YZ.f_of (by
  have hk0 : Z3 k := up0 hk
  have hl := g.1
  have hlim : lim = 1048576 := rfl
  have hb : big = 2 ^ 64 := rfl
  unfold YZ.t YZ.g
  rw [Zb6 (n := a.length) (objsP a ZN rev) (r1 := some false) (r2 := some (decide ((a.length : Int) ≤ 60))) (by unfold Z3 at hk0; omega)]
  · unfold objsB
    cases (List.range a.length).all (objsP a ZN rev) <;> rfl
  · intro L i hi
    obtain ⟨-, -, k1, -, -, -, k6, -, k8, -, k10, k11, -, k13, -, k15, k16, -⟩ := Yb.get g (v := (i : Int)) (by omega) (by omega)
    have e3 : ∀ {F : Bool → Option Bool}, Yan.f k (gI a i 0) (gS a i 1) (gI a i 2) (gI a i 3) (gI a i 4) (gB a i 5) (gL a i 6) (gI a i 7) (gS a i 8) (gI a i 9) (gL a i 10) (gL a i 11) (gI a i 12) (gS a i 13) (gI a i 14) (gL a i 15) (gL a i 16) ZN rev false F = F (objR a i ZN rev) := objOk_fv k1 k6 k8 k10 k11 k13 k15 k16 hk _
    have gt : Zi Yb lim (a.take i) := ⟨by rw [List.length_take]; omega, rows_take g.2⟩
    have hx : ∀ {y0 : Int} {y1 : ByteArray} {y2 y3 y4 : Int} {y5 : Bool} {y6 : List (List D)} {y7 : Int} {y8 : ByteArray} {y9 : Int} {y10 y11 : List (List D)} {y12 : Int} {y13 : ByteArray} {y14 : Int} {y15 y16 : List (List D)} {β : Type} (K : Bool → Option β), Yi.f k (a.take i) y0 y1 y2 y3 y4 y5 y6 y7 y8 y9 y10 y11 y12 y13 y14 y15 y16 K = K (!(List.range i).all fun j => !(gI a (j : Int) 2 == y2)) := by
      intro y0 y1 y2 y3 y4 y5 y6 y7 y8 y9 y10 y11 y12 y13 y14 y15 y16 β K
      refine Yi.f_of ?_ K
      have hli : (a.take i).length = i := by rw [List.length_take]; omega
      have hf : ∀ {β : Type} (K : Int → Option β), Yc.f k (a.take i) y0 y1 y2 y3 y4 y5 y6 y7 y8 y9 y10 y11 y12 y13 y14 y15 y16 K = K (Zbo (fun j => gI a (j : Int) 2 == y2) i) := fun K => Yc.f_of (by
        unfold Yc.t Yc.g
        refine iter_findI (n := i) _ some (by unfold Z3 at hk0; omega) (fun L j hj => ?_) (fun L => by simp [Yc.l0, atR, rdQ, Q.ask, hli])
        have hs : ∀ {z0 : Int} {z1 : ByteArray} {z2 z3 z4 : Int} {z5 : Bool} {z6 : List (List D)} {z7 : Int} {z8 : ByteArray} {z9 : Int} {z10 z11 : List (List D)} {z12 : Int} {z13 : ByteArray} {z14 : Int} {z15 z16 : List (List D)} {β : Type} (K : Bool → Option β), Yae.f k z0 z1 z2 z3 z4 z5 z6 z7 z8 z9 z10 z11 z12 z13 z14 z15 z16 y0 y1 y2 y3 y4 y5 y6 y7 y8 y9 y10 y11 y12 y13 y14 y15 y16 K = K (z2 == y2) := fun K => Yae.f_of (by unfold Yae.t Yae.g; rfl) K
        have hg : gI (a.take i) (j : Int) 2 = gI a (j : Int) 2 := by unfold gI; rw [gR_take (by omega) (by omega)]
        simp (disch := omega) only [Yc.l0, atR, rdQ, Q.ask, ZQ (show (j : Int) < (a.take i).length by omega), cond_true, Yb.row gt, ZY, Zad, Zaj, ZaQ, Za7, Z6, hs, hg, Zj]) K
      unfold Yi.t Yi.g
      rw [hf, findI_all]
    have hd : (a.drop (Int.toNat (0 : Int))).take (Int.toNat (i : Int) - Int.toNat (0 : Int)) = a.take i := by simp
    have hg : ∀ {F : Option Bool}, Zc (0 ≤ (0 : Int) ∧ (0 : Int) ≤ (i : Int) ∧ (i : Int) ≤ (a.length : Int) ∧ rowsOk 17 a) F = F := ZaP ⟨by omega, by omega, by omega, fun r hr => (g.2 r hr).len⟩
    unfold objsP
    simp (disch := omega) only [YZ.l0, atR, rdQ, Q.ask, ZQ (show (i : Int) < a.length by omega), cond_true, Yb.row g, ZY, Zad, Zaj, ZaQ, Za7, Z6, e3, hg, hd, hx]
    cases objR a (i : Int) ZN rev
    · rfl
    by_cases h0 : (i : Int) > 0
    · simp (disch := omega) only [ZQ h0, cond_true, Zj, Yb.row g, ZY, Zad, Zaj, ZaQ, Za7, Z6, Bool.not_true, cond_false]
      obtain ⟨c, hc, hf⟩ := cmpObjs_fv (k := k) (x0 := gI a ((i : Int) - 1) 0) (x1 := gS a ((i : Int) - 1) 1) (x2 := gI a ((i : Int) - 1) 2) (x3 := gI a ((i : Int) - 1) 3) (x4 := gI a ((i : Int) - 1) 4) (x5 := gB a ((i : Int) - 1) 5) (x6 := gL a ((i : Int) - 1) 6) (x7 := gI a ((i : Int) - 1) 7) (x8 := gS a ((i : Int) - 1) 8) (x9 := gI a ((i : Int) - 1) 9) (x10 := gL a ((i : Int) - 1) 10) (x11 := gL a ((i : Int) - 1) 11) (x12 := gI a ((i : Int) - 1) 12) (x13 := gS a ((i : Int) - 1) 13) (x14 := gI a ((i : Int) - 1) 14) (x15 := gL a ((i : Int) - 1) 15) (x16 := gL a ((i : Int) - 1) 16) (y0 := gI a (i : Int) 0) (y1 := gS a (i : Int) 1) (y2 := gI a (i : Int) 2) (y3 := gI a (i : Int) 3) (y4 := gI a (i : Int) 4) (y5 := gB a (i : Int) 5) (y6 := gL a (i : Int) 6) (y7 := gI a (i : Int) 7) (y8 := gS a (i : Int) 8) (y9 := gI a (i : Int) 9) (y10 := gL a (i : Int) 10) (y11 := gL a (i : Int) 11) (y12 := gI a (i : Int) 12) (y13 := gS a (i : Int) 13) (y14 := gI a (i : Int) 14) (y15 := gL a (i : Int) 15) (y16 := gL a (i : Int) 16)
      rw [hf, hc]
      cases lessV (gI a ((i : Int) - 1) 0) (gS a ((i : Int) - 1) 1) (gI a (i : Int) 0) (gS a (i : Int) 1)
      · rfl
      · simp (disch := omega) only [Bool.not_true, cond_false, Bool.not_false, Bool.false_or, Bool.true_and, Zj]
        cases (List.range i).all _ <;> rfl
    · simp only [ZV h0, cond_false, Bool.not_true, Bool.not_false, Bool.true_or, Bool.true_and]
      simp (disch := omega) only [Zj]
      cases (List.range i).all _ <;> rfl
  · intro L
    simp [YZ.l0, atR, rdQ, Q.ask]) K
theorem YP.f_of {β : Type} {k aC aB aD aA z0} (h : YP.t k aC aB aD aA = some z0) (K : Bool → Option β) : YP.f k aC aB aD aA K = K z0 := by unfold YP.f; rw [h]; rfl
set_option maxRecDepth 100000 in
theorem YP.same {aC : List (List D)} {aB aD : Int} {aA : List (List D)} (g0 : Zi Yb lim aC) (g3 : Zi Ya lim aA) {k : Nat} (hk : ZF 1 k) : YP.t k aC aB aD aA = Yy.t k aC aB aD aA := by
  have hl := g3.1
  have hlim : lim = 1048576 := rfl
  have hloop : Zo (YP.l0 k aA (aA.length : Int) aC aB aD aA some) k 0 = Zo (Yy.l0 k aC aB aD aA some) k 0 := by
    refine congrArg (fun b => Zo b k 0) (funext fun L => funext fun v => ?_)
    simp only [YP.l0, atR, rdQ, Q.ask, Yy.l0, atR, rdQ, Q.ask]
    refine bif_congr (fun h => ?_) (fun _ => rfl)
    by_cases h0 : 0 ≤ v ∧ v < aA.length
    · obtain ⟨h0, h1⟩ := h0
      obtain ⟨-, -, -, k1, -, -, -, k6, -, k8, -, k10, k11, -, k13, -, k15, k16, -⟩ := Ya.get g3 h0 h1
      simp (disch := omega) only [Ya.row g3, ZY, Zad, Zaj, ZaQ, Za7, Z6, l7Obj_fv k1 k6 k8 k10 k11 k13 k15 k16 hk, objOk_fv k1 k6 k8 k10 k11 k13 k15 k16 hk]
    · simp only [atRow_none h0]
  unfold YP.t Yy.t YP.g YP.m Yy.g Yy.m
  simp only [Yaz, l1In_fv, objsOk_fv g0 hk, l7Objs_fv g0 hk]
  rw [hloop]
  cases inB aB 0 1000000
  · rfl
  cases inB aD 1 1000000
  · rfl
  cases objsB aC (IntKind.wrap .i64 (aD - 1)) aB <;> cases decide ((aA.length : Int) > 40) <;> rfl
theorem BaseOkI {aC : List (List D)} {aB aD : Int} {aA : List (List D)} (g0 : Zi Yb lim aC) (g3 : Zi Ya lim aA) {k : Nat} (hk : ZF 1 k) {β : Type} (K : Bool → Option β) : YP.f k aC aB aD aA K = K (Yy.v aC aB aD aA) :=
  YP.f_of ((YP.same g0 g3 hk).trans (Yy.tv g0 g3 hk)) K
theorem YO.f_of {β : Type} {k a0 z0} (h : YO.t k a0 = some z0) (K : (List (List C)) → Option β) : YO.f k a0 K = K z0 := by unfold YO.f; rw [h]; rfl
theorem clone_string_fv {a : List (List D)} (g : Zi RS lim a) {k : Nat} {β : Type} (K : List (List C) → Option β) : YO.f k a K = K (a.map (·.map C.d)) := YO.f_of (by
  have hl := g.1
  have hlim : lim = 1048576 := rfl
  have hm : ZN = 2 ^ 36 := rfl
  unfold YO.t YO.g
  rw [ZaP (RS.flat g.2), ZaP (by simp only [List.length_nil, map_len]; omega), List.nil_append]
  exact nilSl_same) K
theorem Yn.f_of {β : Type} {k aC aB aD aA aI z0 z1 z2 z3 z4} (h : Yn.t k aC aB aD aA aI = some (z0, z1, z2, z3, z4)) (K : Int → ByteArray → Int → (List (List C)) → (List (List C)) → Option β) : Yn.f k aC aB aD aA aI K = K z0 z1 z2 z3 z4 := by unfold Yn.f Yn.w; rw [h]; rfl
set_option maxRecDepth 100000 in
theorem copyVal (n : Nat) : ∀ (c0 : Int) (c1 : ByteArray) (c2 : Int) (c3 c4 : List (List D)), Zi RS lim c3 → c4.length ≤ lim → (∀ x ∈ c4, YW lim n x) → ∀ {k : Nat}, big + n + 1 ≤ k → Yn.t k c0 c1 c2 c3 c4 = some (c0, c1, c2, Zb c3, Zb c4) := by
  have hm : ZN = 2 ^ 36 := rfl
  have hlim : lim = 1048576 := rfl
  have hb : big = 2 ^ 64 := rfl
  induction n using Nat.strongRecOn with
  | ind n ih =>
  intro c0 c1 c2 c3 c4 g3 l4 g4 k hk
  obtain ⟨k, rfl⟩ : ∃ k', k = k' + 1 := ⟨k - 1, by omega⟩
  rw [Yn.t_succ]
  unfold Yn.g Yn.body
  rw [clone_string_fv g3]
  refine (iter_copy (xs := c4) (r := some (c0, c1, c2, c3.map (·.map C.d), Zb c4)) (by omega) (fun L i hi => ?_) (fun L => ?_)).trans (by rw [RS.deep g3.2])
  · have hl : (Zb (c4.take i)).length = i := by rw [Zw, List.length_take]; omega
    obtain ⟨n', hn', d0, d1, d2, d3, d4, e, w0, w1, w2, w3, w4, w5⟩ : ∃ n', n = n' + 1 ∧ ∃ d0 d1 d2 d3 d4, gR c4 (i : Int) = [.int .i64 d0, .str d1, .int .i64 d2, .sl d3, .sl d4] ∧ (Lit.int .i64 d0).wf = true ∧ d1.size ≤ lim ∧ (Lit.int .i64 d2).wf = true ∧ Zi RS lim d3 ∧ d4.length ≤ lim ∧ ∀ x ∈ d4, YW lim n' x := by
      have := g4 _ (gR_mem (xs := c4) (v := (i : Int)) (by omega) (by omega))
      generalize gR c4 (i : Int) = r at this
      cases this with
      | mk e0 e1 e2 e3 e4 w0 p1 w2 p3 p4 p5 => exact ⟨_, rfl, _, _, _, _, _, rfl, w0, p1, w2, p3, p4, p5⟩
    simp (disch := omega) only [Yn.l0, atR, rdQ, Q.ask, ZQ (show (i : Int) < c4.length by omega), cond_true, Zbp (xs := c4) (v := (i : Int)), e, ZY, Zad, Zaj, Za7, Z6, Yn.f_of (ih n' (by omega) d0 d1 d2 d3 d4 w3 w4 w5 (k := k) (by omega)), Zj]
    rw [ZaP (by rw [hl, List.length_singleton]; omega)]
    simp only [ZZ, ZbW]
  · simp only [Yn.l0, atR, rdQ, Q.ask, ZV (show ¬ (c4.length : Int) < c4.length by omega), cond_false]
set_option maxRecDepth 100000 in
theorem l4CopyVal (n : Nat) : ∀ (c0 : Int) (c1 : ByteArray) (c2 : Int) (c3 c4 : List (List D)), Zi RS lim c3 → c4.length ≤ lim → (∀ x ∈ c4, YW lim n x) → ∀ {k : Nat}, big + n + 1 ≤ k → Yz.t k c0 c1 c2 c3 c4 = some (c0, c1, c2, Zb c3, Zb c4) := by
  have hm : ZN = 2 ^ 36 := rfl
  have hlim : lim = 1048576 := rfl
  have hb : big = 2 ^ 64 := rfl
  induction n using Nat.strongRecOn with
  | ind n ih =>
  intro c0 c1 c2 c3 c4 g3 l4 g4 k hk
  have l3 := g3.1
  obtain ⟨k, rfl⟩ : ∃ k', k = k' + 1 := ⟨k - 1, by omega⟩
  rw [Yz.t_succ]
  unfold Yz.g Yz.body
  rw [ZaP (RS.flat g3.2), ZaP (by simp only [List.length_nil, map_len]; omega), List.nil_append]
  refine (iter_copy (xs := c4) (r := some (c0, c1, c2, c3.map (·.map C.d), Zb c4)) (by omega) (fun L i hi => ?_) (fun L => ?_)).trans (by rw [RS.deep g3.2])
  · have hl : (Zb (c4.take i)).length = i := by rw [Zw, List.length_take]; omega
    obtain ⟨n', hn', d0, d1, d2, d3, d4, e, w0, w1, w2, w3, w4, w5⟩ : ∃ n', n = n' + 1 ∧ ∃ d0 d1 d2 d3 d4, gR c4 (i : Int) = [.int .i64 d0, .str d1, .int .i64 d2, .sl d3, .sl d4] ∧ (Lit.int .i64 d0).wf = true ∧ d1.size ≤ lim ∧ (Lit.int .i64 d2).wf = true ∧ Zi RS lim d3 ∧ d4.length ≤ lim ∧ ∀ x ∈ d4, YW lim n' x := by
      have := g4 _ (gR_mem (xs := c4) (v := (i : Int)) (by omega) (by omega))
      generalize gR c4 (i : Int) = r at this
      cases this with
      | mk e0 e1 e2 e3 e4 w0 p1 w2 p3 p4 p5 => exact ⟨_, rfl, _, _, _, _, _, rfl, w0, p1, w2, p3, p4, p5⟩
    simp (disch := omega) only [Yz.l0, atR, rdQ, Q.ask, ZQ (show (i : Int) < c4.length by omega), cond_true, Zbp (xs := c4) (v := (i : Int)), e, ZY, Zad, Zaj, Za7, Z6, Yz.f_of (ih n' (by omega) d0 d1 d2 d3 d4 w3 w4 w5 (k := k) (by omega)), Zj]
    rw [ZaP (by rw [hl, List.length_singleton]; omega)]
    simp only [ZZ, ZbW]
  · simp only [Yz.l0, atR, rdQ, Q.ask, ZV (show ¬ (c4.length : Int) < c4.length by omega), cond_false]
theorem value_h {xs : List (List D)} (g : Zi Yp lim xs) : ∀ x ∈ xs, YW lim 1099511627776 x := fun x hx => by
  obtain ⟨h, hh, hx⟩ := g.2 x hx
  exact hx.mono (hh (by decide))
theorem copyValue_fv {c0 c2 : Int} {c1 : ByteArray} {c3 c4 : List (List D)} (g3 : Zi RS lim c3) (g4 : Zi Yp lim c4) {k : Nat} (hk : ZF 1 k) {β : Type} (K : Int → ByteArray → Int → List (List C) → List (List C) → Option β) : Yn.f k c0 c1 c2 c3 c4 K = K c0 c1 c2 (Zb c3) (Zb c4) :=
  Yn.f_of (copyVal 1099511627776 c0 c1 c2 c3 c4 g3 g4.1 (value_h g4) (Nat.le_trans (big_lv1 (n := 1099511627776 + 1) (by omega)) hk)) K
theorem l4Copy_fv {c0 c2 : Int} {c1 : ByteArray} {c3 c4 : List (List D)} (g3 : Zi RS lim c3) (g4 : Zi Yp lim c4) {k : Nat} (hk : ZF 1 k) {β : Type} (K : Int → ByteArray → Int → List (List C) → List (List C) → Option β) : Yz.f k c0 c1 c2 c3 c4 K = K c0 c1 c2 (Zb c3) (Zb c4) :=
  Yz.f_of (l4CopyVal 1099511627776 c0 c1 c2 c3 c4 g3 g4.1 (value_h g4) (Nat.le_trans (big_lv1 (n := 1099511627776 + 1) (by omega)) hk)) K
theorem Yaj.f_of {β : Type} {k : Nat} {aC : Int} {aB : ByteArray} {aD aA aI : Int} {aX : Bool} {aP : List (List D)} {aU : Int} {aL : ByteArray} {aV : Int} {aM aQ : List (List D)} {aT : Int} {aN : ByteArray} {aW : Int} {aO aR : List (List D)} {z0 : Int} {z1 : ByteArray} {z2 z3 z4 : Int} {z5 : Bool} {z6 : List (List C)} {z7 : Int} {z8 : ByteArray} {z9 : Int} {z10 z11 : List (List C)} {z12 : Int} {z13 : ByteArray} {z14 : Int} {z15 z16 : List (List C)} (h : Yaj.t k aC aB aD aA aI aX aP aU aL aV aM aQ aT aN aW aO aR = some (z0, z1, z2, z3, z4, z5, z6, z7, z8, z9, z10, z11, z12, z13, z14, z15, z16)) (K : Int → ByteArray → Int → Int → Int → Bool → (List (List C)) → Int → ByteArray → Int → (List (List C)) → (List (List C)) → Int → ByteArray → Int → (List (List C)) → (List (List C)) → Option β) : Yaj.f k aC aB aD aA aI aX aP aU aL aV aM aQ aT aN aW aO aR K = K z0 z1 z2 z3 z4 z5 z6 z7 z8 z9 z10 z11 z12 z13 z14 z15 z16 := by
  unfold Yaj.f
  rw [h]
theorem l7Copy_fv {x0 : Int} {x1 : ByteArray} {x2 x3 x4 : Int} {x5 : Bool} {x6 : List (List D)} {x7 : Int} {x8 : ByteArray} {x9 : Int} {x10 x11 : List (List D)} {x12 : Int} {x13 : ByteArray} {x14 : Int} {x15 x16 : List (List D)} (g6 : Zi RS lim x6) (g10 : Zi RS lim x10) (g11 : Zi Yp lim x11) (g15 : Zi RS lim x15) (g16 : Zi Yp lim x16) {k : Nat} (hk : ZF 1 k) {β : Type} (K : Int → ByteArray → Int → Int → Int → Bool → (List (List C)) → Int → ByteArray → Int → (List (List C)) → (List (List C)) → Int → ByteArray → Int → (List (List C)) → (List (List C)) → Option β) : Yap.f k x0 x1 x2 x3 x4 x5 x6 x7 x8 x9 x10 x11 x12 x13 x14 x15 x16 K = K x0 x1 x2 x3 x4 x5 (Zb x6) x7 x8 x9 (Zb x10) (Zb x11) x12 x13 x14 (Zb x15) (Zb x16) := Yap.f_of (by
  have hm : ZN = 2 ^ 36 := rfl
  have hlim : lim = 1048576 := rfl
  have l := g6.1
  unfold Yap.t Yap.g
  rw [ZaP (RS.flat g6.2), ZaP (by simp only [List.length_nil, map_len]; omega), List.nil_append, l4Copy_fv g10 g11 hk, l4Copy_fv g15 g16 hk, ← RS.deep g6.2]) K
theorem copyObj_fv {x0 : Int} {x1 : ByteArray} {x2 x3 x4 : Int} {x5 : Bool} {x6 : List (List D)} {x7 : Int} {x8 : ByteArray} {x9 : Int} {x10 x11 : List (List D)} {x12 : Int} {x13 : ByteArray} {x14 : Int} {x15 x16 : List (List D)} (g6 : Zi RS lim x6) (g10 : Zi RS lim x10) (g11 : Zi Yp lim x11) (g15 : Zi RS lim x15) (g16 : Zi Yp lim x16) {k : Nat} (hk : ZF 1 k) {β : Type} (K : Int → ByteArray → Int → Int → Int → Bool → (List (List C)) → Int → ByteArray → Int → (List (List C)) → (List (List C)) → Int → ByteArray → Int → (List (List C)) → (List (List C)) → Option β) : Yaj.f k x0 x1 x2 x3 x4 x5 x6 x7 x8 x9 x10 x11 x12 x13 x14 x15 x16 K = K x0 x1 x2 x3 x4 x5 (Zb x6) x7 x8 x9 (Zb x10) (Zb x11) x12 x13 x14 (Zb x15) (Zb x16) := Yaj.f_of (by
  unfold Yaj.t Yaj.g
  rw [clone_string_fv g6, copyValue_fv g10 g11 hk, copyValue_fv g15 g16 hk, ← RS.deep g6.2]) K
theorem YQ.f_of {β : Type} {k a0 z0} (h : YQ.t k a0 = some z0) (K : (List (List C)) → Option β) : YQ.f k a0 K = K z0 := by unfold YQ.f; rw [h]; rfl
set_option maxRecDepth 10000 in
theorem l7CopyLog_fv {a : List (List D)} (g : Zi Ya lim a) {k : Nat} (hk : ZF 1 k) {β : Type} (K : List (List C) → Option β) : YG.f k a K = K (Zb a) := YG.f_of (by
  have hm : ZN = 2 ^ 36 := rfl
  have hlim : lim = 1048576 := rfl
  have hb : big = 2 ^ 64 := rfl
  have hk0 : big ≤ k := up0 hk
  have l := g.1
  unfold YG.t YG.g
  refine iter_copy (xs := a) (by omega) (fun L i hi => ?_) (fun L => ?_)
  · have hl : (Zb (a.take i)).length = i := by rw [Zw, List.length_take]; omega
    obtain ⟨e, -, -, -, -, -, -, k6, -, -, -, k10, k11, -, -, -, k15, k16, -⟩ := Ya.get g (v := (i : Int)) (by omega) (by omega)
    unfold YG.l0; simp only [atR, rdQ, Q.ask]
    simp (disch := omega) only [ZQ (show (i : Int) < a.length by omega), cond_true, Zbp (xs := a) (v := (i : Int)), e, ZY, Zad, Zaj, ZaQ, Za7, Z6, l7Copy_fv k6 k10 k11 k15 k16 hk, Zj]
    rw [ZaP (by rw [hl, List.length_singleton]; omega)]
    simp only [ZZ, ZbW]
  · unfold YG.l0; simp only [atR, rdQ, Q.ask]
    simp only [ZV (show ¬ (a.length : Int) < a.length by omega), cond_false]) K
set_option maxRecDepth 100000 in
theorem copyLog_fv {a : List (List D)} (g : Zi Ya lim a) {k : Nat} (hk : ZF 1 k) {β : Type} (K : List (List C) → Option β) : YQ.f k a K = K (Zb a) := YQ.f_of (by
  have hm : ZN = 2 ^ 36 := rfl
  have hlim : lim = 1048576 := rfl
  have hb : big = 2 ^ 64 := rfl
  have hk0 : big ≤ k := up0 hk
  have l := g.1
  unfold YQ.t YQ.g
  refine iter_copy (xs := a) (by omega) (fun L i hi => ?_) (fun L => ?_)
  · have hl : (Zb (a.take i)).length = i := by rw [Zw, List.length_take]; omega
    obtain ⟨e, -, -, -, -, -, -, k6, -, -, -, k10, k11, -, -, -, k15, k16, -⟩ := Ya.get g (v := (i : Int)) (by omega) (by omega)
    simp (disch := omega) only [YQ.l0, atR, rdQ, Q.ask, ZQ (show (i : Int) < a.length by omega), cond_true, Zbp (xs := a) (v := (i : Int)), e, ZY, Zad, Zaj, ZaQ, Za7, Z6, copyObj_fv k6 k10 k11 k15 k16 hk, Zj]
    rw [ZaP (by rw [hl, List.length_singleton]; omega)]
    simp only [ZZ, ZbW]
  · simp only [YQ.l0, atR, rdQ, Q.ask, ZV (show ¬ (a.length : Int) < a.length by omega), cond_false]) K
theorem Yac.f_of {β : Type} {k aC aB aD aA aI aX aP aU aL aV aM aQ aT aN aW aO aR bH bI f0_0 z0} (h : Yac.t k aC aB aD aA aI aX aP aU aL aV aM aQ aT aN aW aO aR bH bI f0_0 = some z0) (K : Bool → Option β) : Yac.f k aC aB aD aA aI aX aP aU aL aV aM aQ aT aN aW aO aR bH bI f0_0 K = K z0 := by unfold Yac.f; rw [h]; rfl
theorem Yf.f_of {β : Type} {k : Nat} {xs : List (List C)} {c0_0 : Int} {z0 : List (List C)} (h : Yf.t k xs c0_0 = some z0) (K : (List (List C)) → Option β) : Yf.f k xs c0_0 K = K z0 := by
  unfold Yf.f
  rw [h]
theorem Yai.tm {ι α : Type} {ok : ι → Prop} {ψ : α → Prop} {p : ι → Nat} {B : Nat} (hp : ∀ i, ok i → B ≤ p i) {aC aB aD aA a1 φ} (h : Tm (fun k => B ≤ k) (fun k => Yai.t k aC aB aD aA a1) φ) {G : ι → (List (List C)) → Bool → Option α} (hG : ∀ z0 z1, φ (z0, z1) → Tm ok (fun i => G i z0 z1) ψ) : Tm ok (fun i => Yai.f (p i) aC aB aD aA a1 (G i)) ψ := bd2_tm (t := fun k => Yai.t k aC aB aD aA a1) hp h hG
def Yav (d : List (List D)) (n : Int) : List (List D) := d.filter fun r => !decide (rI r 0 ≤ n)
set_option maxRecDepth 100000 in
theorem delSince_fv {d : List (List D)} {n : Int} (g : Zi Ya lim d) {k : Nat} (hk : ZF 1 k) {β : Type} (K : List (List C) → Option β) : Yf.f k (Zb d) n K = K (Zb (Yav d n)) := by
  have hl := g.1
  have hlim : lim = 1048576 := rfl
  have hb : big = 2 ^ 64 := rfl
  have hk0 : big ≤ k := up0 hk
  refine Yf.f_of ?_ K
  unfold Yf.t Yav
  refine delK_deep (by omega) ?_ (fun r hr => ?_)
  · unfold Yd.t Yd.g
    refine iter_findI (n := d.length) (fun i => decide (rI (gR d (i : Int)) 0 ≤ n)) some (by omega) (fun L i hi => ?_) (fun L => by simp [Yd.l0, atR, rdQ, Q.ask])
    obtain ⟨e, -⟩ := Ya.get g (v := (i : Int)) (by omega) (by omega)
    rw [show rI (gR d (i : Int)) 0 = gI d (i : Int) 0 from rfl]
    unfold Yd.l0; simp only [atR, rdQ, Q.ask]
    simp (disch := omega) only [ZQ (show (i : Int) < d.length by omega), cond_true, Ya.row g, ZY, Zad, Zaj, ZaQ, Za7, Z6, Zj]
    rw [Yac.f_of (by unfold Yac.t Yac.g; rfl)]
  · obtain ⟨i, hi, rfl⟩ := List.mem_iff_getElem.mp hr
    have hg : gR d (i : Int) = d[i] := by
      have := gR_at (xs := d) (v := (i : Int)) (by omega) (by omega)
      rw [Int.toNat_natCast, List.getElem?_eq_getElem hi] at this
      injection this with this
      exact this.symm
    obtain ⟨e, -⟩ := Ya.get g (v := (i : Int)) (by omega) (by omega)
    rw [← hg, show rI (gR d (i : Int)) 0 = gI d (i : Int) 0 from rfl, e]
    simp only []
    unfold Yac.t Yac.g
    rfl
noncomputable def sinceV (a : List (List D)) (b c : Int) (d : List (List D)) (n : Int) : List (List C) × Bool :=
  bif Yy.v a b c d && inB n 0 b then (bif decide (((Yav d n).length : Int) < IntKind.wrap .i64 (b - n)) then ([], false) else (Zb (Yav d n), true)) else ([], false)
theorem sinceL_ok {d : List (List D)} {n : Int} {B : Nat} (g : Zi Ya B d) : Zi Ya B (Yav d n) := ⟨Nat.le_trans (List.length_filter_le _ _) g.1, fun r hr => g.2 r (List.mem_filter.mp hr).1⟩
theorem impl_Since_t {a : List (List D)} {b c n : Int} {d : List (List D)} (g0 : Zi Yb lim a) (g3 : Zi Ya lim d) {k : Nat} (hk : ZF 1 k) : Yai.t k a b c d n = some (sinceV a b c d n) := by
  unfold Yai.t Yai.g sinceV
  rw [BaseOkI g0 g3 hk, copyLog_fv g3 hk]
  simp only [Yaz, delSince_fv g3 hk, Zw]
  cases Yy.v a b c d
  · rfl
  cases inB n 0 b
  · rfl
  simp only [Bool.not_true, cond_false, cond_true, Bool.true_and]
  cases decide (((Yav d n).length : Int) < IntKind.wrap .i64 (b - n)) <;> rfl
set_option maxRecDepth 100000 in
theorem spec_Since_t {a : List (List D)} {b c n : Int} {d : List (List D)} (g0 : Zi Yb lim a) (g3 : Zi Ya lim d) {k : Nat} (hk : ZF 1 k) : Y0.t k a b c d n = some (sinceV a b c d n) := by
  have hm : ZN = 2 ^ 36 := rfl
  have hlim : lim = 1048576 := rfl
  have hb : big = 2 ^ 64 := rfl
  have hk0 : big ≤ k := up0 hk
  have l := g3.1
  unfold Y0.t Y0.g sinceV
  rw [Yy.fv g0 g3 hk]
  simp only [l1In_fv]
  cases Yy.v a b c d
  · rfl
  cases inB n 0 b
  · rfl
  simp only [Bool.not_true, cond_false, cond_true, Bool.true_and]
  refine iter_seq (f := fun j => ((j : Int), (Yav (d.take j) n).map (·.map C.d))) (n := d.length) (by omega) (fun L i hi => ?_) (fun L => ?_)
  · obtain ⟨e, -⟩ := Ya.get g3 (v := (i : Int)) (by omega) (by omega)
    have ht : d.take (i + 1) = d.take i ++ [gR d (i : Int)] := by
      have := gR_at (xs := d) (v := (i : Int)) (by omega) (by omega)
      rw [Int.toNat_natCast] at this
      rw [List.take_add_one, this]; rfl
    have hdl : (Yav (d.take i) n).length ≤ i := Nat.le_trans (List.length_filter_le _ _) (by rw [List.length_take]; omega)
    have hdr : Yav (d.take (i + 1)) n = Yav (d.take i) n ++ (bif decide (gI d (i : Int) 0 ≤ n) then [] else [gR d (i : Int)]) := by
      unfold Yav
      rw [ht, List.filter_append]
      congr 1
      rw [List.filter_cons]
      show (if (!decide (gI d (i : Int) 0 ≤ n)) = true then _ else _) = _
      cases decide (gI d (i : Int) 0 ≤ n) <;> rfl
    rw [hdr]
    simp (disch := omega) only [Y0.l0, atR, rdQ, Q.ask, ZQ (show (i : Int) < d.length by omega), cond_true, Ya.row g3, ZY, Zad, Zaj, ZaQ, Za7, Z6, Zj]
    by_cases h : gI d (i : Int) 0 ≤ n
    · rw [ZQ h, ZV (show ¬ gI d (i : Int) 0 > n by omega)]
      simp
    · rw [ZV h, ZQ (show gI d (i : Int) 0 > n by omega)]
      simp only [cond_true, cond_false]
      rw [ZaP (by simp only [map_len, List.length_singleton]; omega), e]
      simp
  · rw [List.take_length]
    simp only [Y0.l0, atR, rdQ, Q.ask, ZV (show ¬ (d.length : Int) < d.length by omega), cond_false, map_len, imm_rows, l7CopyLog_fv (sinceL_ok g3) hk]
    cases decide (((Yav d n).length : Int) < IntKind.wrap .i64 (b - n)) <;> rfl
theorem wt_filter (p : List D → Bool) : ∀ (d : List (List D)), Zp (d.filter p) ≤ Zp d
  | [] => Nat.le_refl _
  | r :: d => by
    have := wt_filter p d
    rw [List.filter_cons]
    split
    · simp only [Zp]; omega
    · simp only [Zp]; omega
theorem Y0.T {aC : List (List D)} {aB aD a1 : Int} {aA : List (List D)} (g0 : Zi Yb lim aC) (_ : (Lit.int .i64 aB).wf = true) (_ : (Lit.int .i64 aD).wf = true) (g3 : Zi Ya lim aA) (_ : (Lit.int .i64 a1).wf = true) (w0 : Zp aC ≤ 67108864) (w3 : Zp aA ≤ 67108864) :
    Tm (ZF 1) (fun k => Y0.t k aC aB aD aA a1) (fun z => Zi Ya 2097152 (C.immRows z.1) ∧ Zp (C.immRows z.1) ≤ 1125899906842624 ∧ True) := by
  have hlim : lim = 1048576 := rfl
  refine Tm.of (fun k hk => spec_Since_t g0 g3 hk) ?_
  have hn : Zi Ya 2097152 (C.immRows ([] : List (List C))) ∧ Zp (C.immRows ([] : List (List C))) ≤ 1125899906842624 ∧ True := ⟨⟨Nat.zero_le _, fun r hr => by cases hr⟩, Nat.zero_le _, trivial⟩
  unfold sinceV
  cases Yy.v aC aB aD aA && inB a1 0 aB
  · exact hn
  simp only [cond_true]
  cases decide (((Yav aA a1).length : Int) < IntKind.wrap .i64 (aB - a1))
  · simp only [cond_false, ZO]
    have := wt_filter (fun r => !decide (rI r 0 ≤ a1)) aA
    exact ⟨Ya.wide (sinceL_ok g3), by unfold Yav; omega, trivial⟩
  · exact hn
theorem Yai.same {aC : List (List D)} {aB aD a1 : Int} {aA : List (List D)} (g0 : Zi Yb lim aC) (_ : (Lit.int .i64 aB).wf = true) (_ : (Lit.int .i64 aD).wf = true) (g3 : Zi Ya lim aA) (_ : (Lit.int .i64 a1).wf = true) (w0 : Zp aC ≤ 67108864) (w3 : Zp aA ≤ 67108864) {k : Nat} (hk : ZF 1 k) {z0 : List (List C)} {z1 : Bool}
    (hz : Y0.t k aC aB aD aA a1 = some (z0, z1)) : Yai.t k aC aB aD aA a1 = some (Zb (C.immRows z0), z1) := by
  rw [spec_Since_t g0 g3 hk] at hz
  rw [impl_Since_t g0 g3 hk, hz]
  injection hz with hz
  unfold sinceV at hz
  cases hq : Yy.v aC aB aD aA && inB a1 0 aB <;> rw [hq] at hz <;> simp only [cond_true, cond_false] at hz
  · injection hz with h1 h2
    rw [← h1, ← h2]; rfl
  · cases hd : decide (((Yav aA a1).length : Int) < IntKind.wrap .i64 (aB - a1)) <;> rw [hd] at hz <;> simp only [cond_true, cond_false] at hz <;> injection hz with h1 h2 <;> rw [← h1, ← h2]
    · rw [ZO]
    · rfl
theorem YC.tm {ι α : Type} {ok : ι → Prop} {ψ : α → Prop} {p : ι → Nat} {B : Nat} (hp : ∀ i, ok i → B ≤ p i) {a0 a1 φ} (h : Tm (fun k => B ≤ k) (fun k => YC.t k a0 a1) φ) {G : ι → Bool → Option α} (hG : ∀ z0, φ z0 → Tm ok (fun i => G i z0) ψ) : Tm ok (fun i => YC.f (p i) a0 a1 (G i)) ψ := ZK (t := fun k => YC.t k a0 a1) hp h hG
set_option maxRecDepth 100000 in
theorem YC.T {B : Nat} {a0 : List (List D)} (ga0 : Zi RS B a0) (hB : B ≤ 1099511627776) : Tm Z3 (fun k => YC.t k a0 a0) (fun r => r = true) := by
  unfold YC.t YC.g
  have hm := Zy
  have hlim : lim = 1048576 := rfl
  have hlen := ga0.1
  refine Tm.ite (fun h1 => ?_) (fun h1 => ?_)
  · try simp only [bz0, bz1, bz2, bz3, bz4, bz5, bz6, bz7, bz8, bz9, bza] at h1
    exact Tm.ret (by first | rfl | (exfalso; simp [Zu] at *))
  · try simp only [bz0, bz1, bz2, bz3, bz4, bz5, bz6, bz7, bz8, bz9, bza] at h1
    refine Tm.loop (okk := Z3) (p := fun k => k) (fun i hi => hi) (b := fun k => YC.l0 k a0 a0 (fun z0 => some z0)) (fun i => (((a0.length : Int)) - i).toNat) (fun i => 0 ≤ i ∧ i ≤ (a0.length : Int)) ?_ ?_ ?_
    · rintro i hI
      try simp only [] at hI ⊢
      have : big = 2 ^ 64 := rfl
      have := ga0.1
      omega
    · ((try simp only []); omega)
    · rintro i hI L hL
      try simp only [] at hI
      obtain ⟨i0, i1⟩ := hI
      simp only [YC.l0, atR, rdQ, Q.ask]
      refine Tm.ite (fun h2 => ?_) (fun h2 => ?_)
      · try simp only [bz0, bz1, bz2, bz3, bz4, bz5, bz6, bz7, bz8, bz9, bza] at h2
        refine Tm.atRow (by first | assumption | omega) (by first | assumption | omega) (fun x3 hx4 hm5 => ?_)
        obtain ⟨c6, rfl, g7, _⟩ := (ga0.2 x3 hm5).open
        refine Tm.uncons ?_
        refine Tm.dStr ?_
        refine Tm.atEnd ?_
        refine Tm.atRow (by first | assumption | omega) (by first | assumption | omega) (fun x8 hx9 hm10 => ?_)
        rw [hx4] at hx9
        injection hx9 with hx9
        subst hx9
        refine Tm.uncons ?_
        refine Tm.dStr ?_
        refine Tm.atEnd ?_
        refine Tm.ite (fun h12 => ?_) (fun h12 => ?_)
        · try simp only [bz0, bz1, bz2, bz3, bz4, bz5, bz6, bz7, bz8, bz9, bza] at h12
          exact Tm.ret (by first | rfl | (exfalso; simp [Zu] at *))
        · try simp only [bz0, bz1, bz2, bz3, bz4, bz5, bz6, bz7, bz8, bz9, bza] at h12
          try rw [Zj (x := i + 1) (by omega) (by omega)]
          exact hL _ (by (try simp only []); omega) (by (try simp only []); omega)
      · try simp only [bz0, bz1, bz2, bz3, bz4, bz5, bz6, bz7, bz8, bz9, bza] at h2
        exact Tm.ret (by first | rfl | (exfalso; simp [Zu] at *))
theorem Ys.tm {ι α : Type} {ok : ι → Prop} {ψ : α → Prop} {p : ι → Nat} {B : Nat} (hp : ∀ i, ok i → B ≤ p i) {a0 a1 φ} (h : Tm (fun k => B ≤ k) (fun k => Ys.t k a0 a1) φ) {G : ι → Bool → Option α} (hG : ∀ z0, φ z0 → Tm ok (fun i => G i z0) ψ) : Tm ok (fun i => Ys.f (p i) a0 a1 (G i)) ψ := ZK (t := fun k => Ys.t k a0 a1) hp h hG
theorem YL.tm {ι α : Type} {ok : ι → Prop} {ψ : α → Prop} {p : ι → Nat} {B : Nat} (hp : ∀ i, ok i → B ≤ p i) {aC aB aD aA aI bC bD bE bF bG φ} (h : Tm (fun k => B ≤ k) (fun k => YL.t k aC aB aD aA aI bC bD bE bF bG) φ) {G : ι → Bool → Option α} (hG : ∀ z0, φ z0 → Tm ok (fun i => G i z0) ψ) : Tm ok (fun i => YL.f (p i) aC aB aD aA aI bC bD bE bF bG (G i)) ψ := ZK (t := fun k => YL.t k aC aB aD aA aI bC bD bE bF bG) hp h hG
set_option maxRecDepth 100000 in
theorem eqVal {B : Nat} (hB : B ≤ 1099511627776) (n : Nat) : (∀ (a : List (List D)), a.length ≤ B → (∀ x ∈ a, YW B n x) → Tm (fun k => big + 2 * n + 1 ≤ k) (fun k => Ys.t k a a) (fun r => r = true)) ∧
    (∀ (c0 : Int) (c1 : ByteArray) (c2 : Int) (c3 c4 : List (List D)), c1.size ≤ B → Zi RS B c3 → c4.length ≤ B → (∀ x ∈ c4, YW B n x) → Tm (fun k => big + 2 * n + 2 ≤ k) (fun k => YL.t k c0 c1 c2 c3 c4 c0 c1 c2 c3 c4) (fun r => r = true)) := by
  have hb : big = 2 ^ 64 := rfl
  induction n using Nat.strongRecOn with
  | ind n ih =>
  have S : ∀ (a : List (List D)), a.length ≤ B → (∀ x ∈ a, YW B n x) → Tm (fun k => big + 2 * n + 1 ≤ k) (fun k => Ys.t k a a) (fun r => r = true) := by
    intro a hlen g
    refine Tm.succ (g := fun k => Ys.g k a a (fun z0 => some z0)) (fun k => Ys.t_succ k a a) ?_
    unfold Ys.g Ys.body
    refine Tm.ite (fun h3 => by simp at h3) (fun h3 => ?_)
    refine Tm.loop (okk := fun k => big + 2 * n ≤ k) (p := fun k => k) (fun i hi => by omega) (b := fun k => Ys.l0 k (Ys.f k) (YL.f k) a a (fun z0 => some z0)) (fun i => (((a.length : Int)) - i).toNat) (fun i => 0 ≤ i ∧ i ≤ (a.length : Int)) ?_ ?_ ?_
    · rintro i hI
      omega
    · omega
    · rintro i hI L hL
      obtain ⟨i0, i1⟩ := hI
      simp only [Ys.l0, atR, rdQ, Q.ask]
      refine Tm.ite (fun h4 => ?_) (fun h4 => ?_)
      · simp only [decide_eq_true_eq] at h4
        refine Tm.atRow (by omega) (by omega) (fun x5 hx6 hm7 => ?_)
        obtain ⟨n', hn', c0, c1, c2, c3, c4, rfl, w0, g1, w2, g3, l4, g4⟩ : ∃ n', n = n' + 1 ∧ ∃ c0 c1 c2 c3 c4, x5 = [.int .i64 c0, .str c1, .int .i64 c2, .sl c3, .sl c4] ∧ (Lit.int .i64 c0).wf = true ∧ c1.size ≤ B ∧ (Lit.int .i64 c2).wf = true ∧ Zi RS B c3 ∧ c4.length ≤ B ∧ ∀ x ∈ c4, YW B n' x := by
          have := g x5 hm7
          cases this with
          | mk c0 c1 c2 c3 c4 w0 g1 w2 g3 l4 g4 => exact ⟨_, rfl, _, _, _, _, _, rfl, w0, g1, w2, g3, l4, g4⟩
        refine Tm.uncons (Tm.dInt (Tm.uncons (Tm.dStr (Tm.uncons (Tm.dInt (Tm.uncons (Tm.dSl (Tm.uncons (Tm.dSl (Tm.atEnd ?_))))))))))
        refine Tm.atRow (by omega) (by omega) (fun x8 hx8 _ => ?_)
        rw [hx6] at hx8
        injection hx8 with hx8
        subst hx8
        refine Tm.uncons (Tm.dInt (Tm.uncons (Tm.dStr (Tm.uncons (Tm.dInt (Tm.uncons (Tm.dSl (Tm.uncons (Tm.dSl (Tm.atEnd ?_))))))))))
        refine YL.tm (B := big + 2 * n' + 2) (fun i hi => by have := hi.1; omega) ((ih n' (by omega)).2 c0 c1 c2 c3 c4 g1 g3 l4 g4) (fun y hy => ?_)
        subst hy
        refine Tm.ite (fun h => by simp at h) (fun _ => ?_)
        rw [Zj (x := i + 1) (by omega) (by omega)]
        exact hL (i + 1) ⟨by omega, by omega⟩ (by omega)
      · exact Tm.ret rfl
  refine ⟨S, ?_⟩
  intro c0 c1 c2 c3 c4 g1 g3 l4 g4
  refine Tm.succ (g := fun k => YL.g k c0 c1 c2 c3 c4 c0 c1 c2 c3 c4 (fun z0 => some z0)) (fun k => YL.t_succ k c0 c1 c2 c3 c4 c0 c1 c2 c3 c4) ?_
  unfold YL.g YL.body
  refine Tm.ite (fun h => by simp at h) (fun _ => ?_)
  refine Tm.ite (fun h => by simp [Zu] at h) (fun _ => ?_)
  refine Tm.ite (fun h => by simp at h) (fun _ => ?_)
  refine YC.tm (B := big) (fun i hi => by omega) (YC.T g3 hB) (fun y hy => ?_)
  subst hy
  refine Tm.ite (fun h => by simp at h) (fun _ => ?_)
  refine Ys.tm (B := big + 2 * n + 1) (fun i hi => hi) (S c4 l4 g4) (fun y' hy' => ?_)
  subst hy'
  exact Tm.ite (fun h => by simp at h) (fun _ => Tm.ret rfl)
theorem big_lv1e {n : Nat} (h : n ≤ 4398046511104) : big + n ≤ lv 1 := by
  have hb : big = 2 ^ 64 := rfl
  have : lv 1 = 2 ^ 65 := rfl
  omega
theorem YL.T {B : Nat} {aC : Int} {aB : ByteArray} {aD : Int} {aA aI : List (List D)} (g1 : aB.size ≤ B) (g3 : Zi RS B aA) (g4 : Zi Yp B aI) (hB : B ≤ 1099511627776) : Tm (ZF 1) (fun k => YL.t k aC aB aD aA aI aC aB aD aA aI) (fun r => r = true) := by
  have g' : ∀ x ∈ aI, YW B 1099511627776 x := fun x hx => by
    obtain ⟨h, hh, hx⟩ := g4.2 x hx
    exact hx.mono (hh hB)
  exact ((eqVal hB 1099511627776).2 aC aB aD aA aI g1 g3 g4.1 g').up (big_lv1e (n := 2 * 1099511627776 + 2) (by omega))
theorem Yah.tm {ι α : Type} {ok : ι → Prop} {ψ : α → Prop} {p : ι → Nat} {B : Nat} (hp : ∀ i, ok i → B ≤ p i) {aC aB aD aA aI aX aP aU aL aV aM aQ aT aN aW aO aR bC bD bE bF bG bM bN bO bP bQ bR bT bU bV bW bX bY φ} (h : Tm (fun k => B ≤ k) (fun k => Yah.t k aC aB aD aA aI aX aP aU aL aV aM aQ aT aN aW aO aR bC bD bE bF bG bM bN bO bP bQ bR bT bU bV bW bX bY) φ) {G : ι → Bool → Option α} (hG : ∀ z0, φ z0 → Tm ok (fun i => G i z0) ψ) : Tm ok (fun i => Yah.f (p i) aC aB aD aA aI aX aP aU aL aV aM aQ aT aN aW aO aR bC bD bE bF bG bM bN bO bP bQ bR bT bU bV bW bX bY (G i)) ψ := ZK (t := fun k => Yah.t k aC aB aD aA aI aX aP aU aL aV aM aQ aT aN aW aO aR bC bD bE bF bG bM bN bO bP bQ bR bT bU bV bW bX bY) hp h hG
theorem Yah.T {B : Nat} {aC : Int} {aB : ByteArray} {aD aA aI : Int} {aX : Bool} {aP : List (List D)} {aU : Int} {aL : ByteArray} {aV : Int} {aM aQ : List (List D)} {aT : Int} {aN : ByteArray} {aW : Int} {aO aR : List (List D)} (ga0_1 : aB.size ≤ B) (ga0_6 : Zi RS B aP) (ga0_8 : aL.size ≤ B) (ga0_10 : Zi RS B aM) (ga0_11 : Zi Yp B aQ) (ga0_13 : aN.size ≤ B) (ga0_15 : Zi RS B aO) (ga0_16 : Zi Yp B aR) (hB : B ≤ 1099511627776) : Tm (ZF 1) (fun k => Yah.t k aC aB aD aA aI aX aP aU aL aV aM aQ aT aN aW aO aR aC aB aD aA aI aX aP aU aL aV aM aQ aT aN aW aO aR) (fun r => r = true) := by
  unfold Yah.t Yah.g
  have hm := Zy
  have hlim : lim = 1048576 := rfl
  refine Tm.ite (fun h1 => ?_) (fun h1 => ?_)
  · try simp only [bz0, bz1, bz2, bz3, bz4, bz5, bz6, bz7, bz8, bz9, bza] at h1
    exact Tm.ret (by first | rfl | (exfalso; simp [Zu] at *))
  · try simp only [bz0, bz1, bz2, bz3, bz4, bz5, bz6, bz7, bz8, bz9, bza] at h1
    refine Tm.ite (fun h2 => ?_) (fun h2 => ?_)
    · try simp only [bz0, bz1, bz2, bz3, bz4, bz5, bz6, bz7, bz8, bz9, bza] at h2
      exact Tm.ret (by first | rfl | (exfalso; simp [Zu] at *))
    · try simp only [bz0, bz1, bz2, bz3, bz4, bz5, bz6, bz7, bz8, bz9, bza] at h2
      refine Tm.ite (fun h3 => ?_) (fun h3 => ?_)
      · try simp only [bz0, bz1, bz2, bz3, bz4, bz5, bz6, bz7, bz8, bz9, bza] at h3
        exact Tm.ret (by first | rfl | (exfalso; simp [Zu] at *))
      · try simp only [bz0, bz1, bz2, bz3, bz4, bz5, bz6, bz7, bz8, bz9, bza] at h3
        refine Tm.ite (fun h4 => ?_) (fun h4 => ?_)
        · try simp only [bz0, bz1, bz2, bz3, bz4, bz5, bz6, bz7, bz8, bz9, bza] at h4
          exact Tm.ret (by first | rfl | (exfalso; simp [Zu] at *))
        · try simp only [bz0, bz1, bz2, bz3, bz4, bz5, bz6, bz7, bz8, bz9, bza] at h4
          refine Tm.ite (fun h5 => ?_) (fun h5 => ?_)
          · try simp only [bz0, bz1, bz2, bz3, bz4, bz5, bz6, bz7, bz8, bz9, bza] at h5
            exact Tm.ret (by first | rfl | (exfalso; simp [Zu] at *))
          · try simp only [bz0, bz1, bz2, bz3, bz4, bz5, bz6, bz7, bz8, bz9, bza] at h5
            refine Tm.ite (fun h6 => ?_) (fun h6 => ?_)
            · try simp only [bz0, bz1, bz2, bz3, bz4, bz5, bz6, bz7, bz8, bz9, bza] at h6
              exact Tm.ret (by first | rfl | (exfalso; simp [Zu] at *))
            · try simp only [bz0, bz1, bz2, bz3, bz4, bz5, bz6, bz7, bz8, bz9, bza] at h6
              refine YC.tm (fun i hi => up0 hi) (YC.T (by first | assumption | omega) (by first | assumption | omega)) (fun y8 hy7 => ?_)
              subst hy7
              refine Tm.ite (fun h9 => ?_) (fun h9 => ?_)
              · try simp only [bz0, bz1, bz2, bz3, bz4, bz5, bz6, bz7, bz8, bz9, bza] at h9
                exact Tm.ret (by first | rfl | (exfalso; simp [Zu] at *))
              · try simp only [bz0, bz1, bz2, bz3, bz4, bz5, bz6, bz7, bz8, bz9, bza] at h9
                refine YL.tm (fun i hi => hi) (YL.T (by first | assumption | omega) (by first | assumption | omega) (by first | assumption | omega) (by first | assumption | omega)) (fun y11 hy10 => ?_)
                subst hy10
                refine Tm.ite (fun h12 => ?_) (fun h12 => ?_)
                · try simp only [bz0, bz1, bz2, bz3, bz4, bz5, bz6, bz7, bz8, bz9, bza] at h12
                  exact Tm.ret (by first | rfl | (exfalso; simp [Zu] at *))
                · try simp only [bz0, bz1, bz2, bz3, bz4, bz5, bz6, bz7, bz8, bz9, bza] at h12
                  refine YL.tm (fun i hi => hi) (YL.T (by first | assumption | omega) (by first | assumption | omega) (by first | assumption | omega) (by first | assumption | omega)) (fun y14 hy13 => ?_)
                  subst hy13
                  refine Tm.ite (fun h15 => ?_) (fun h15 => ?_)
                  · try simp only [bz0, bz1, bz2, bz3, bz4, bz5, bz6, bz7, bz8, bz9, bza] at h15
                    exact Tm.ret (by first | rfl | (exfalso; simp [Zu] at *))
                  · try simp only [bz0, bz1, bz2, bz3, bz4, bz5, bz6, bz7, bz8, bz9, bza] at h15
                    exact Tm.ret (by first | rfl | (exfalso; simp [Zu] at *))
theorem Yab.tm {ι α : Type} {ok : ι → Prop} {ψ : α → Prop} {p : ι → Nat} {B : Nat} (hp : ∀ i, ok i → B ≤ p i) {aC aB aD aA aI aX aP aU aL aV aM aQ aT aN aW aO aR bH bI bC bD bE bF bG bM bN bO bP bQ bR bT bU bV bW bX bY a1_17 a1_18 φ} (h : Tm (fun k => B ≤ k) (fun k => Yab.t k aC aB aD aA aI aX aP aU aL aV aM aQ aT aN aW aO aR bH bI bC bD bE bF bG bM bN bO bP bQ bR bT bU bV bW bX bY a1_17 a1_18) φ) {G : ι → Bool → Option α} (hG : ∀ z0, φ z0 → Tm ok (fun i => G i z0) ψ) : Tm ok (fun i => Yab.f (p i) aC aB aD aA aI aX aP aU aL aV aM aQ aT aN aW aO aR bH bI bC bD bE bF bG bM bN bO bP bQ bR bT bU bV bW bX bY a1_17 a1_18 (G i)) ψ := ZK (t := fun k => Yab.t k aC aB aD aA aI aX aP aU aL aV aM aQ aT aN aW aO aR bH bI bC bD bE bF bG bM bN bO bP bQ bR bT bU bV bW bX bY a1_17 a1_18) hp h hG
theorem Yab.T {B : Nat} {aC : Int} {aB : Bool} {aD : Int} {aA : ByteArray} {aI aX aP : Int} {aU : Bool} {aL : List (List D)} {aV : Int} {aM : ByteArray} {aQ : Int} {aT aN : List (List D)} {aW : Int} {aO : ByteArray} {aR : Int} {bH bI : List (List D)} (ga0_3 : aA.size ≤ B) (ga0_8 : Zi RS B aL) (ga0_10 : aM.size ≤ B) (ga0_12 : Zi RS B aT) (ga0_13 : Zi Yp B aN) (ga0_15 : aO.size ≤ B) (ga0_17 : Zi RS B bH) (ga0_18 : Zi Yp B bI) (hB : B ≤ 1099511627776) : Tm (ZF 1) (fun k => Yab.t k aC aB aD aA aI aX aP aU aL aV aM aQ aT aN aW aO aR bH bI aC aB aD aA aI aX aP aU aL aV aM aQ aT aN aW aO aR bH bI) (fun r => r = true) := by
  unfold Yab.t Yab.g
  have hm := Zy
  have hlim : lim = 1048576 := rfl
  refine Tm.ite (fun h1 => ?_) (fun h1 => ?_)
  · try simp only [bz0, bz1, bz2, bz3, bz4, bz5, bz6, bz7, bz8, bz9, bza] at h1
    exact Tm.ret (by first | rfl | (exfalso; simp [Zu] at *))
  · try simp only [bz0, bz1, bz2, bz3, bz4, bz5, bz6, bz7, bz8, bz9, bza] at h1
    refine Tm.ite (fun h2 => ?_) (fun h2 => ?_)
    · try simp only [bz0, bz1, bz2, bz3, bz4, bz5, bz6, bz7, bz8, bz9, bza] at h2
      exact Tm.ret (by first | rfl | (exfalso; simp [Zu] at *))
    · try simp only [bz0, bz1, bz2, bz3, bz4, bz5, bz6, bz7, bz8, bz9, bza] at h2
      refine Yah.tm (fun i hi => hi) (Yah.T (by first | assumption | omega) (by first | assumption | omega) (by first | assumption | omega) (by first | assumption | omega) (by first | assumption | omega) (by first | assumption | omega) (by first | assumption | omega) (by first | assumption | omega) (by first | assumption | omega)) (fun y4 hy3 => ?_)
      subst hy3
      refine Tm.ite (fun h5 => ?_) (fun h5 => ?_)
      · try simp only [bz0, bz1, bz2, bz3, bz4, bz5, bz6, bz7, bz8, bz9, bza] at h5
        exact Tm.ret (by first | rfl | (exfalso; simp [Zu] at *))
      · try simp only [bz0, bz1, bz2, bz3, bz4, bz5, bz6, bz7, bz8, bz9, bza] at h5
        exact Tm.ret (by first | rfl | (exfalso; simp [Zu] at *))
theorem Yx.tm {ι α : Type} {ok : ι → Prop} {ψ : α → Prop} {p : ι → Nat} {B : Nat} (hp : ∀ i, ok i → B ≤ p i) {a0 a1 φ} (h : Tm (fun k => B ≤ k) (fun k => Yx.t k a0 a1) φ) {G : ι → Bool → Option α} (hG : ∀ z0, φ z0 → Tm ok (fun i => G i z0) ψ) : Tm ok (fun i => Yx.f (p i) a0 a1 (G i)) ψ := ZK (t := fun k => Yx.t k a0 a1) hp h hG
set_option maxRecDepth 100000 in
theorem Yx.T {B : Nat} {a0 : List (List D)} (ga0 : Zi Ya B a0) (hB : B ≤ 1099511627776) : Tm (ZF 1) (fun k => Yx.t k a0 a0) (fun r => r = true) := by
  unfold Yx.t Yx.g
  have hm := Zy
  have hlim : lim = 1048576 := rfl
  have hlen := ga0.1
  refine Tm.ite (fun h1 => ?_) (fun h1 => ?_)
  · try simp only [bz0, bz1, bz2, bz3, bz4, bz5, bz6, bz7, bz8, bz9, bza] at h1
    exact Tm.ret (by first | rfl | (exfalso; simp [Zu] at *))
  · try simp only [bz0, bz1, bz2, bz3, bz4, bz5, bz6, bz7, bz8, bz9, bza] at h1
    refine Tm.loop (okk := (ZF 1)) (p := fun k => k) (fun i hi => up0 hi) (b := fun k => Yx.l0 k a0 a0 (fun z0 => some z0)) (fun i => (((a0.length : Int)) - i).toNat) (fun i => 0 ≤ i ∧ i ≤ (a0.length : Int)) ?_ ?_ ?_
    · rintro i hI
      try simp only [] at hI ⊢
      have : big = 2 ^ 64 := rfl
      have := ga0.1
      omega
    · ((try simp only []); omega)
    · rintro i hI L hL
      try simp only [] at hI
      obtain ⟨i0, i1⟩ := hI
      simp only [Yx.l0, atR, rdQ, Q.ask]
      refine Tm.ite (fun h2 => ?_) (fun h2 => ?_)
      · try simp only [bz0, bz1, bz2, bz3, bz4, bz5, bz6, bz7, bz8, bz9, bza] at h2
        refine Tm.atRow (by first | assumption | omega) (by first | assumption | omega) (fun x3 hx4 hm5 => ?_)
        obtain ⟨c6, c7, c8, c9, c10, c11, c12, c13, c14, c15, c16, c17, c18, c19, c20, c21, c22, c23, c24, rfl, g25, g26, g27, g28, g29, g30, g31, g32, g33, g34, g35, g36, g37, g38, g39, g40, g41, _⟩ := (ga0.2 x3 hm5).open
        refine Tm.uncons ?_
        refine Tm.dInt ?_
        refine Tm.uncons ?_
        refine Tm.dBool ?_
        refine Tm.uncons ?_
        refine Tm.dInt ?_
        refine Tm.uncons ?_
        refine Tm.dStr ?_
        refine Tm.uncons ?_
        refine Tm.dInt ?_
        refine Tm.uncons ?_
        refine Tm.dInt ?_
        refine Tm.uncons ?_
        refine Tm.dInt ?_
        refine Tm.uncons ?_
        refine Tm.dBool ?_
        refine Tm.uncons ?_
        refine Tm.dSl ?_
        refine Tm.uncons ?_
        refine Tm.dInt ?_
        refine Tm.uncons ?_
        refine Tm.dStr ?_
        refine Tm.uncons ?_
        refine Tm.dInt ?_
        refine Tm.uncons ?_
        refine Tm.dSl ?_
        refine Tm.uncons ?_
        refine Tm.dSl ?_
        refine Tm.uncons ?_
        refine Tm.dInt ?_
        refine Tm.uncons ?_
        refine Tm.dStr ?_
        refine Tm.uncons ?_
        refine Tm.dInt ?_
        refine Tm.uncons ?_
        refine Tm.dSl ?_
        refine Tm.uncons ?_
        refine Tm.dSl ?_
        refine Tm.atEnd ?_
        refine Tm.atRow (by first | assumption | omega) (by first | assumption | omega) (fun x42 hx43 hm44 => ?_)
        rw [hx4] at hx43
        injection hx43 with hx43
        subst hx43
        refine Tm.uncons ?_
        refine Tm.dInt ?_
        refine Tm.uncons ?_
        refine Tm.dBool ?_
        refine Tm.uncons ?_
        refine Tm.dInt ?_
        refine Tm.uncons ?_
        refine Tm.dStr ?_
        refine Tm.uncons ?_
        refine Tm.dInt ?_
        refine Tm.uncons ?_
        refine Tm.dInt ?_
        refine Tm.uncons ?_
        refine Tm.dInt ?_
        refine Tm.uncons ?_
        refine Tm.dBool ?_
        refine Tm.uncons ?_
        refine Tm.dSl ?_
        refine Tm.uncons ?_
        refine Tm.dInt ?_
        refine Tm.uncons ?_
        refine Tm.dStr ?_
        refine Tm.uncons ?_
        refine Tm.dInt ?_
        refine Tm.uncons ?_
        refine Tm.dSl ?_
        refine Tm.uncons ?_
        refine Tm.dSl ?_
        refine Tm.uncons ?_
        refine Tm.dInt ?_
        refine Tm.uncons ?_
        refine Tm.dStr ?_
        refine Tm.uncons ?_
        refine Tm.dInt ?_
        refine Tm.uncons ?_
        refine Tm.dSl ?_
        refine Tm.uncons ?_
        refine Tm.dSl ?_
        refine Tm.atEnd ?_
        refine Yab.tm (fun i hi => hi.1) (Yab.T (by first | assumption | omega) (by first | assumption | omega) (by first | assumption | omega) (by first | assumption | omega) (by first | assumption | omega) (by first | assumption | omega) (by first | assumption | omega) (by first | assumption | omega) (by first | assumption | omega)) (fun y65 hy64 => ?_)
        subst hy64
        refine Tm.ite (fun h66 => ?_) (fun h66 => ?_)
        · try simp only [bz0, bz1, bz2, bz3, bz4, bz5, bz6, bz7, bz8, bz9, bza] at h66
          exact Tm.ret (by first | rfl | (exfalso; simp [Zu] at *))
        · try simp only [bz0, bz1, bz2, bz3, bz4, bz5, bz6, bz7, bz8, bz9, bza] at h66
          try rw [Zj (x := i + 1) (by omega) (by omega)]
          exact hL _ (by (try simp only []); omega) (by (try simp only []); omega)
      · try simp only [bz0, bz1, bz2, bz3, bz4, bz5, bz6, bz7, bz8, bz9, bza] at h2
        exact Tm.ret (by first | rfl | (exfalso; simp [Zu] at *))
theorem YT.tm {ι α : Type} {ok : ι → Prop} {ψ : α → Prop} {p : ι → Nat} {B : Nat} (hp : ∀ i, ok i → B ≤ p i) {a0 a1 φ} (h : Tm (fun k => B ≤ k) (fun k => YT.t k a0 a1) φ) {G : ι → Bool → Option α} (hG : ∀ z0, φ z0 → Tm ok (fun i => G i z0) ψ) : Tm ok (fun i => YT.f (p i) a0 a1 (G i)) ψ := ZK (t := fun k => YT.t k a0 a1) hp h hG
set_option maxRecDepth 100000 in
theorem YT.T {B : Nat} {a0 : List (List D)} (ga0 : Zi Yb B a0) (hB : B ≤ 1099511627776) : Tm (ZF 1) (fun k => YT.t k a0 a0) (fun r => r = true) := by
  unfold YT.t YT.g
  have hm := Zy
  have hlim : lim = 1048576 := rfl
  have hlen := ga0.1
  refine Tm.ite (fun h1 => ?_) (fun h1 => ?_)
  · try simp only [bz0, bz1, bz2, bz3, bz4, bz5, bz6, bz7, bz8, bz9, bza] at h1
    exact Tm.ret (by first | rfl | (exfalso; simp [Zu] at *))
  · try simp only [bz0, bz1, bz2, bz3, bz4, bz5, bz6, bz7, bz8, bz9, bza] at h1
    refine Tm.loop (okk := (ZF 1)) (p := fun k => k) (fun i hi => up0 hi) (b := fun k => YT.l0 k a0 a0 (fun z0 => some z0)) (fun i => (((a0.length : Int)) - i).toNat) (fun i => 0 ≤ i ∧ i ≤ (a0.length : Int)) ?_ ?_ ?_
    · rintro i hI
      try simp only [] at hI ⊢
      have : big = 2 ^ 64 := rfl
      have := ga0.1
      omega
    · ((try simp only []); omega)
    · rintro i hI L hL
      try simp only [] at hI
      obtain ⟨i0, i1⟩ := hI
      simp only [YT.l0, atR, rdQ, Q.ask]
      refine Tm.ite (fun h2 => ?_) (fun h2 => ?_)
      · try simp only [bz0, bz1, bz2, bz3, bz4, bz5, bz6, bz7, bz8, bz9, bza] at h2
        refine Tm.atRow (by first | assumption | omega) (by first | assumption | omega) (fun x3 hx4 hm5 => ?_)
        obtain ⟨c6, c7, c8, c9, c10, c11, c12, c13, c14, c15, c16, c17, c18, c19, c20, c21, c22, rfl, g23, g24, g25, g26, g27, g28, g29, g30, g31, g32, g33, g34, g35, g36, g37, g38, _⟩ := (ga0.2 x3 hm5).open
        refine Tm.uncons ?_
        refine Tm.dInt ?_
        refine Tm.uncons ?_
        refine Tm.dStr ?_
        refine Tm.uncons ?_
        refine Tm.dInt ?_
        refine Tm.uncons ?_
        refine Tm.dInt ?_
        refine Tm.uncons ?_
        refine Tm.dInt ?_
        refine Tm.uncons ?_
        refine Tm.dBool ?_
        refine Tm.uncons ?_
        refine Tm.dSl ?_
        refine Tm.uncons ?_
        refine Tm.dInt ?_
        refine Tm.uncons ?_
        refine Tm.dStr ?_
        refine Tm.uncons ?_
        refine Tm.dInt ?_
        refine Tm.uncons ?_
        refine Tm.dSl ?_
        refine Tm.uncons ?_
        refine Tm.dSl ?_
        refine Tm.uncons ?_
        refine Tm.dInt ?_
        refine Tm.uncons ?_
        refine Tm.dStr ?_
        refine Tm.uncons ?_
        refine Tm.dInt ?_
        refine Tm.uncons ?_
        refine Tm.dSl ?_
        refine Tm.uncons ?_
        refine Tm.dSl ?_
        refine Tm.atEnd ?_
        refine Tm.atRow (by first | assumption | omega) (by first | assumption | omega) (fun x39 hx40 hm41 => ?_)
        rw [hx4] at hx40
        injection hx40 with hx40
        subst hx40
        refine Tm.uncons ?_
        refine Tm.dInt ?_
        refine Tm.uncons ?_
        refine Tm.dStr ?_
        refine Tm.uncons ?_
        refine Tm.dInt ?_
        refine Tm.uncons ?_
        refine Tm.dInt ?_
        refine Tm.uncons ?_
        refine Tm.dInt ?_
        refine Tm.uncons ?_
        refine Tm.dBool ?_
        refine Tm.uncons ?_
        refine Tm.dSl ?_
        refine Tm.uncons ?_
        refine Tm.dInt ?_
        refine Tm.uncons ?_
        refine Tm.dStr ?_
        refine Tm.uncons ?_
        refine Tm.dInt ?_
        refine Tm.uncons ?_
        refine Tm.dSl ?_
        refine Tm.uncons ?_
        refine Tm.dSl ?_
        refine Tm.uncons ?_
        refine Tm.dInt ?_
        refine Tm.uncons ?_
        refine Tm.dStr ?_
        refine Tm.uncons ?_
        refine Tm.dInt ?_
        refine Tm.uncons ?_
        refine Tm.dSl ?_
        refine Tm.uncons ?_
        refine Tm.dSl ?_
        refine Tm.atEnd ?_
        refine Yah.tm (fun i hi => hi.1) (Yah.T (by first | assumption | omega) (by first | assumption | omega) (by first | assumption | omega) (by first | assumption | omega) (by first | assumption | omega) (by first | assumption | omega) (by first | assumption | omega) (by first | assumption | omega) (by first | assumption | omega)) (fun y60 hy59 => ?_)
        subst hy59
        refine Tm.ite (fun h61 => ?_) (fun h61 => ?_)
        · try simp only [bz0, bz1, bz2, bz3, bz4, bz5, bz6, bz7, bz8, bz9, bza] at h61
          exact Tm.ret (by first | rfl | (exfalso; simp [Zu] at *))
        · try simp only [bz0, bz1, bz2, bz3, bz4, bz5, bz6, bz7, bz8, bz9, bza] at h61
          try rw [Zj (x := i + 1) (by omega) (by omega)]
          exact hL _ (by (try simp only []); omega) (by (try simp only []); omega)
      · try simp only [bz0, bz1, bz2, bz3, bz4, bz5, bz6, bz7, bz8, bz9, bza] at h2
        exact Tm.ret (by first | rfl | (exfalso; simp [Zu] at *))
theorem Yam.tm {ι α : Type} {ok : ι → Prop} {ψ : α → Prop} {p : ι → Nat} {B : Nat} (hp : ∀ i, ok i → B ≤ p i) {aC aB aD aA bC bD bE bF φ} (h : Tm (fun k => B ≤ k) (fun k => Yam.t k aC aB aD aA bC bD bE bF) φ) {G : ι → Bool → Option α} (hG : ∀ z0, φ z0 → Tm ok (fun i => G i z0) ψ) : Tm ok (fun i => Yam.f (p i) aC aB aD aA bC bD bE bF (G i)) ψ := ZK (t := fun k => Yam.t k aC aB aD aA bC bD bE bF) hp h hG
theorem Yam.T {B : Nat} {aC : List (List D)} {aB aD : Int} {aA : List (List D)} (ga0_0 : Zi Yb B aC) (ga0_3 : Zi Ya B aA) (hB : B ≤ 1099511627776) : Tm (ZF 1) (fun k => Yam.t k aC aB aD aA aC aB aD aA) (fun r => r = true) := by
  unfold Yam.t Yam.g
  have hm := Zy
  have hlim : lim = 1048576 := rfl
  refine YT.tm (fun i hi => hi) (YT.T (by first | assumption | omega) (by first | assumption | omega)) (fun y2 hy1 => ?_)
  subst hy1
  refine Tm.ite (fun h3 => ?_) (fun h3 => ?_)
  · try simp only [bz0, bz1, bz2, bz3, bz4, bz5, bz6, bz7, bz8, bz9, bza] at h3
    exact Tm.ret (by first | rfl | (exfalso; simp [Zu] at *))
  · try simp only [bz0, bz1, bz2, bz3, bz4, bz5, bz6, bz7, bz8, bz9, bza] at h3
    refine Tm.ite (fun h4 => ?_) (fun h4 => ?_)
    · try simp only [bz0, bz1, bz2, bz3, bz4, bz5, bz6, bz7, bz8, bz9, bza] at h4
      exact Tm.ret (by first | rfl | (exfalso; simp [Zu] at *))
    · try simp only [bz0, bz1, bz2, bz3, bz4, bz5, bz6, bz7, bz8, bz9, bza] at h4
      refine Tm.ite (fun h5 => ?_) (fun h5 => ?_)
      · try simp only [bz0, bz1, bz2, bz3, bz4, bz5, bz6, bz7, bz8, bz9, bza] at h5
        exact Tm.ret (by first | rfl | (exfalso; simp [Zu] at *))
      · try simp only [bz0, bz1, bz2, bz3, bz4, bz5, bz6, bz7, bz8, bz9, bza] at h5
        refine Yx.tm (fun i hi => hi) (Yx.T (by first | assumption | omega) (by first | assumption | omega)) (fun y7 hy6 => ?_)
        subst hy6
        refine Tm.ite (fun h8 => ?_) (fun h8 => ?_)
        · try simp only [bz0, bz1, bz2, bz3, bz4, bz5, bz6, bz7, bz8, bz9, bza] at h8
          exact Tm.ret (by first | rfl | (exfalso; simp [Zu] at *))
        · try simp only [bz0, bz1, bz2, bz3, bz4, bz5, bz6, bz7, bz8, bz9, bza] at h8
          exact Tm.ret (by first | rfl | (exfalso; simp [Zu] at *))
theorem Ye.f_of {β : Type} {k a0 z0} (h : Ye.t k a0 = some z0) (K : ByteArray → Option β) : Ye.f k a0 K = K z0 := by unfold Ye.f; rw [h]; rfl
theorem Ye.tm {ι α : Type} {ok : ι → Prop} {ψ : α → Prop} {p : ι → Nat} {B : Nat} (hp : ∀ i, ok i → B ≤ p i) {a0 φ} (h : Tm (fun k => B ≤ k) (fun k => Ye.t k a0) φ) {G : ι → ByteArray → Option α} (hG : ∀ z0, φ z0 → Tm ok (fun i => G i z0) ψ) : Tm ok (fun i => Ye.f (p i) a0 (G i)) ψ := ZK (t := fun k => Ye.t k a0) hp h hG
theorem Ye.T {a0 : Int} (h1 : a0 ≤ 4611686018427387904) : Tm Z3 (fun k => Ye.t k a0) (fun _ => True) := by
  unfold Ye.t Ye.g
  have hb : big = 2 ^ 64 := rfl
  refine Tm.ite (fun _ => Tm.ret trivial) (fun h => ?_)
  simp only [decide_eq_false_iff_not, Int.not_le] at h
  refine Tm.loop (okk := Z3) (p := fun k => k) (fun i hi => hi) (b := fun k => Ye.l0 k (fun z0 => some z0)) (fun v => match v with | (u, s) => u.toNat) (fun v => match v with | (u, s) => 0 ≤ u ∧ u + s.size ≤ a0) ?_ ?_ ?_
  · rintro ⟨u, s⟩ hI
    simp only [] at hI ⊢
    omega
  · simp only []
    have : (⟨#[]⟩ : ByteArray).size = 0 := rfl
    omega
  · rintro ⟨u, s⟩ hI L hL
    simp only [] at hI
    obtain ⟨u0, u1⟩ := hI
    simp only [Ye.l0]
    refine Tm.ite (fun h4 => ?_) (fun h4 => ?_)
    · simp only [decide_eq_true_eq] at h4
      have e1 : ∀ x : UInt8, (⟨#[x]⟩ : ByteArray).size = 1 := fun _ => rfl
      have ed : Int.tdiv u 10 = u / 10 := Int.tdiv_eq_ediv_of_nonneg (by omega)
      refine Tm.guard (by decide) (Tm.guard (by rw [e1]; omega) (Tm.guard (by decide) ?_))
      rw [ed, Zj (x := u / 10) (by omega) (by omega)]
      refine hL (_, _) ⟨by omega, ?_⟩ (by simp only []; omega)
      rw [ByteArray.size_append, e1]
      omega
    · have e1 : (⟨#[109]⟩ : ByteArray).size = 1 := rfl
      exact Tm.guard (by rw [e1]; omega) (Tm.ret trivial)
noncomputable def Ye.v (a0 : Int) : ByteArray := (Ye.t big a0).getD default
theorem Ye.tv {a0 : Int} (h1 : a0 ≤ 4611686018427387904) {k : Nat} (hk : Z3 k) : Ye.t k a0 = some (Ye.v a0) := (Ye.T h1).val hk
theorem Ye.fv {a0 : Int} (h1 : a0 ≤ 4611686018427387904) {k : Nat} (hk : Z3 k) {β : Type} (K : ByteArray → Option β) : Ye.f k a0 K = K (Ye.v a0) := Ye.f_of (Ye.tv h1 hk) K
theorem Yj.tm {ι α : Type} {ok : ι → Prop} {ψ : α → Prop} {p : ι → Nat} {B : Nat} (hp : ∀ i, ok i → B ≤ p i) {a0 a1 φ} (h : Tm (fun k => B ≤ k) (fun k => Yj.t k a0 a1) φ) {G : ι → Int → (List (List C)) → Option α} (hG : ∀ z0 z1, φ (z0, z1) → Tm ok (fun i => G i z0 z1) ψ) : Tm ok (fun i => Yj.f (p i) a0 a1 (G i)) ψ := bd2_tm (t := fun k => Yj.t k a0 a1) hp h hG
theorem Yg.tm {ι α : Type} {ok : ι → Prop} {ψ : α → Prop} {p : ι → Nat} {B : Nat} (hp : ∀ i, ok i → B ≤ p i) {a0 a1 φ} (h : Tm (fun k => B ≤ k) (fun k => Yg.t k a0 a1) φ) {G : ι → Int → (List (List C)) → Option α} (hG : ∀ z0 z1, φ (z0, z1) → Tm ok (fun i => G i z0 z1) ψ) : Tm ok (fun i => Yg.f (p i) a0 a1 (G i)) ψ := bd2_tm (t := fun k => Yg.t k a0 a1) hp h hG
theorem YI.tm {ι α : Type} {ok : ι → Prop} {ψ : α → Prop} {p : ι → Nat} {B : Nat} (hp : ∀ i, ok i → B ≤ p i) {a0 a1 φ} (h : Tm (fun k => B ≤ k) (fun k => YI.t k a0 a1) φ) {G : ι → Int → (List (List C)) → Option α} (hG : ∀ z0 z1, φ (z0, z1) → Tm ok (fun i => G i z0 z1) ψ) : Tm ok (fun i => YI.f (p i) a0 a1 (G i)) ψ := bd2_tm (t := fun k => YI.t k a0 a1) hp h hG
theorem Yu.tm {ι α : Type} {ok : ι → Prop} {ψ : α → Prop} {p : ι → Nat} {B : Nat} (hp : ∀ i, ok i → B ≤ p i) {a0 a1 φ} (h : Tm (fun k => B ≤ k) (fun k => Yu.t k a0 a1) φ) {G : ι → Int → (List (List C)) → Option α} (hG : ∀ z0 z1, φ (z0, z1) → Tm ok (fun i => G i z0 z1) ψ) : Tm ok (fun i => Yu.f (p i) a0 a1 (G i)) ψ := bd2_tm (t := fun k => Yu.t k a0 a1) hp h hG
theorem Yaa.tm {ι α : Type} {ok : ι → Prop} {ψ : α → Prop} {p : ι → Nat} {B : Nat} (hp : ∀ i, ok i → B ≤ p i) {aC aB aD aA a1 φ} (h : Tm (fun k => B ≤ k) (fun k => Yaa.t k aC aB aD aA a1) φ) {G : ι → Int → (List (List C)) → (List (List C)) → Option α} (hG : ∀ z0 z1 z2, φ (z0, z1, z2) → Tm ok (fun i => G i z0 z1 z2) ψ) : Tm ok (fun i => Yaa.f (p i) aC aB aD aA a1 (G i)) ψ := bd3_tm (t := fun k => Yaa.t k aC aB aD aA a1) hp h hG
theorem Yl.f_of {β : Type} {k a0 a1 z0} (h : Yl.t k a0 a1 = some z0) (K : Int → Option β) : Yl.f k a0 a1 K = K z0 := by unfold Yl.f; rw [h]; rfl
set_option maxRecDepth 100000 in
set_option maxHeartbeats 8000000 in
theorem Yl.step {u : Int}  (h0 : 0 ≤ u)  (h1 : u + 1 ≤ 4611686018427387904) {k : Nat} (hk : Z3 k) : HStep (fun xs L v => Yl.l0 k xs (fun z0 => some z0) L v) u [.str (Ye.v (u))] (u + 1) := by
  have hk0 : Z3 k := hk
  intro xs i i0 i1 hl hr L
  simp (maxSteps := 4000000) (disch := first | assumption | omega) only [Yl.l0, atR, rdQ, Q.ask, ZQ i1, cond_true, cond_false, Zbp i0 i1, hr, ZY, Zad, Zaj, ZaQ, Za7, Z6, Zj, Ye.fv, Zu, bne_self_eq_false, beq_self_eq_true, Bool.not_true]
end Go.Proofs.Ytppfencdbabmeaa
