/- Printed, and by hand: the functions that FnExactHubNew reaches come to their end; the program's answer as the reference's. -/
import Derived.Test.YtnlhhhkeigjnoaaXEHubNew1
import Derived.KernelRfl
set_option linter.unusedVariables false
set_option linter.unusedSimpArgs false
namespace Go.Proofs.Ytnlhhhkeigjnoaa
open Go Go.T Go.Proofs
theorem kinds (n : Int) : n = 1 ∨ n = 2 ∨ n = 3 ∨ n = 4 ∨ n = 5 ∨ ((n == 1) = false ∧ (n == 2) = false ∧ (n == 3) = false ∧ (n == 4) = false ∧ (n == 5) = false) := by
  simp only [beq_eq_false_iff_ne]
  omega
theorem spec_HubNew.f_of {β : Type} {k : Nat} {z0 : Int} {z1 : Int} {z2 : Int} {z3 : List (List C)} {z4 : List (List C)} {z5 : List (List C)} {z6 : List (List C)} (h : spec_HubNew.t k = some (z0, z1, z2, z3, z4, z5, z6)) (K : Int → Int → Int → (List (List C)) → (List (List C)) → (List (List C)) → (List (List C)) → Option β) : spec_HubNew.f k K = K z0 z1 z2 z3 z4 z5 z6 := by
  unfold spec_HubNew.f
  rw [h]
theorem spec_HubNew.tm {ι α : Type} {ok : ι → Prop} {ψ : α → Prop} {p : ι → Nat} {B : Nat} (hp : ∀ i, ok i → B ≤ p i) {φ : Int × Int × Int × (List (List C)) × (List (List C)) × (List (List C)) × (List (List C)) → Prop} (h : Tm (fun k => B ≤ k) (fun k => spec_HubNew.t k) φ) {G : ι → Int → Int → Int → (List (List C)) → (List (List C)) → (List (List C)) → (List (List C)) → Option α} (hG : ∀ z0 z1 z2 z3 z4 z5 z6, φ (z0, z1, z2, z3, z4, z5, z6) → Tm ok (fun i => G i z0 z1 z2 z3 z4 z5 z6) ψ) : Tm ok (fun i => spec_HubNew.f (p i) (G i)) ψ := by
  obtain ⟨⟨z0, z1, z2, z3, z4, z5, z6⟩, h1, h2⟩ := h
  exact (hG z0 z1 z2 z3 z4 z5 z6 h1).congr fun i hi => spec_HubNew.f_of (h2 (p i) (hp i hi)) _
theorem impl_HubNew.f_of {β : Type} {k : Nat} {z0 : Int} {z1 : Int} {z2 : Int} {z3 : List (List C)} {z4 : List (List C)} {z5 : List (List C)} {z6 : List (List C)} (h : impl_HubNew.t k = some (z0, z1, z2, z3, z4, z5, z6)) (K : Int → Int → Int → (List (List C)) → (List (List C)) → (List (List C)) → (List (List C)) → Option β) : impl_HubNew.f k K = K z0 z1 z2 z3 z4 z5 z6 := by
  unfold impl_HubNew.f
  rw [h]
theorem impl_HubNew.tm {ι α : Type} {ok : ι → Prop} {ψ : α → Prop} {p : ι → Nat} {B : Nat} (hp : ∀ i, ok i → B ≤ p i) {φ : Int × Int × Int × (List (List C)) × (List (List C)) × (List (List C)) × (List (List C)) → Prop} (h : Tm (fun k => B ≤ k) (fun k => impl_HubNew.t k) φ) {G : ι → Int → Int → Int → (List (List C)) → (List (List C)) → (List (List C)) → (List (List C)) → Option α} (hG : ∀ z0 z1 z2 z3 z4 z5 z6, φ (z0, z1, z2, z3, z4, z5, z6) → Tm ok (fun i => G i z0 z1 z2 z3 z4 z5 z6) ψ) : Tm ok (fun i => impl_HubNew.f (p i) (G i)) ψ := by
  obtain ⟨⟨z0, z1, z2, z3, z4, z5, z6⟩, h1, h2⟩ := h
  exact (hG z0 z1 z2 z3 z4 z5 z6 h1).congr fun i hi => impl_HubNew.f_of (h2 (p i) (hp i hi)) _
theorem laws_eqStringS.f_of {β : Type} {k : Nat} {a0 : List (List D)} {a1 : List (List D)} {z0 : Bool} (h : laws_eqStringS.t k a0 a1 = some z0) (K : Bool → Option β) : laws_eqStringS.f k a0 a1 K = K z0 := by
  unfold laws_eqStringS.f
  rw [h]
theorem laws_eqStringS.tm {ι α : Type} {ok : ι → Prop} {ψ : α → Prop} {p : ι → Nat} {B : Nat} (hp : ∀ i, ok i → B ≤ p i) {a0 : List (List D)} {a1 : List (List D)} {φ : Bool → Prop} (h : Tm (fun k => B ≤ k) (fun k => laws_eqStringS.t k a0 a1) φ) {G : ι → Bool → Option α} (hG : ∀ z0, φ z0 → Tm ok (fun i => G i z0) ψ) : Tm ok (fun i => laws_eqStringS.f (p i) a0 a1 (G i)) ψ := by
  obtain ⟨z0, h1, h2⟩ := h
  exact (hG z0 h1).congr fun i hi => laws_eqStringS.f_of (h2 (p i) (hp i hi)) _
def RS (B : Nat) (r : List D) : Prop := ∃ (c0 : ByteArray), r = [.str c0] ∧ c0.size ≤ B ∧ True
theorem RS.open {B : Nat} {r : List D} (h : RS B r) : ∃ (c0 : ByteArray), r = [.str c0] ∧ c0.size ≤ B ∧ True := h
theorem RS.mono {B B' : Nat} (hb : B ≤ B') {r : List D} (h : RS B r) : RS B' r := by
  obtain ⟨c0, rfl, k0, _⟩ := h
  exact ⟨_, rfl, (Nat.le_trans k0 hb), trivial⟩
theorem RS.wide {xs : List (List D)} (h : SlOk RS lim xs) : SlOk RS 2097152 xs := ⟨Nat.le_trans h.1 (by decide), fun r hr => (h.2 r hr).mono (by decide)⟩
theorem RS.len {B : Nat} {r : List D} (h : RS B r) : r.length = 1 := by
  obtain ⟨c0, rfl, _⟩ := h.open
  rfl
theorem RS.flat {B : Nat} {xs : List (List D)} (h : ∀ r ∈ xs, RS B r) : rowsFlat 1 xs := fun r hr => by
  obtain ⟨c0, rfl, _⟩ := (h r hr).open
  exact ⟨rfl, by simp [isScal]⟩
theorem RS.wt {B : Nat} {xs : List (List D)} (h : ∀ r ∈ xs, RS B r) : wtRows xs = 1 * xs.length := wt_flat (R := RS B) (fun r h => by obtain ⟨c0, rfl, _⟩ := h; rfl) xs h
theorem RS.deep {B : Nat} {xs : List (List D)} (h : ∀ r ∈ xs, RS B r) : deepRows xs = xs.map (·.map C.d) := deep_flat (R := RS B) (fun r h => by obtain ⟨c0, rfl, _⟩ := h; rfl) xs h
theorem RS.gets {B : Nat} {xs : List (List D)} (h : ∀ r ∈ xs, RS B r) {v : Int} (h0 : 0 ≤ v) (h1 : v < xs.length) : gR xs v = [.str (gS xs v 0)] ∧ (gS xs v 0).size ≤ B ∧ True := by
  obtain ⟨c0, e, k0, _⟩ := (h (gR xs v) (gR_mem h0 h1)).open
  unfold gS
  rw [e]
  exact ⟨rfl, k0, trivial⟩
theorem RS.rows {B : Nat} {xs : List (List D)} (h : ∀ r ∈ xs, RS B r) {v : Int} (h0 : 0 ≤ v) (h1 : v < xs.length) {β : Type} (F : List D → Option β) : atRow xs v F = F [.str (gS xs v 0)] := by
  rw [← (RS.gets h h0 h1).1]
  exact atRow_gR h0 h1 F
theorem RS.get {B : Nat} {xs : List (List D)} (h : SlOk RS B xs) {v : Int} (h0 : 0 ≤ v) (h1 : v < xs.length) : gR xs v = [.str (gS xs v 0)] ∧ (gS xs v 0).size ≤ B ∧ True := RS.gets h.2 h0 h1
theorem RS.row {B : Nat} {xs : List (List D)} (h : SlOk RS B xs) {v : Int} (h0 : 0 ≤ v) (h1 : v < xs.length) {β : Type} (F : List D → Option β) : atRow xs v F = F [.str (gS xs v 0)] := RS.rows h.2 h0 h1 F
theorem laws_eqStringS.T {B : Nat} {a0 : List (List D)} (ga0 : SlOk RS B a0) (hB : B ≤ 1099511627776) : Tm Fuel (fun k => laws_eqStringS.t k a0 a0) (fun r => r = true) := by
  unfold laws_eqStringS.t laws_eqStringS.g
  have hm := maxLen_eq
  have hlim : lim = 1048576 := rfl
  have hlen := ga0.1
  refine Tm.ite (fun h1 => ?_) (fun h1 => ?_)
  · try simp only [decide_eq_true_eq, decide_eq_false_iff_not, Int.not_lt, Int.not_le, bne_iff_ne, ne_eq, bne_eq_false_iff_eq, beq_iff_eq, beq_eq_false_iff_ne, Bool.not_eq_true', Bool.not_eq_false'] at h1
    exact Tm.ret (by first | rfl | (exfalso; simp [strEq_self] at *))
  · try simp only [decide_eq_true_eq, decide_eq_false_iff_not, Int.not_lt, Int.not_le, bne_iff_ne, ne_eq, bne_eq_false_iff_eq, beq_iff_eq, beq_eq_false_iff_ne, Bool.not_eq_true', Bool.not_eq_false'] at h1
    refine Tm.loop (okk := Fuel) (p := fun k => k) (fun i hi => hi) (b := fun k => laws_eqStringS.l0 k a0 a0 (fun z0 => some z0)) (fun i => (((a0.length : Int)) - i).toNat) (fun i => 0 ≤ i ∧ i ≤ (a0.length : Int)) ?_ ?_ ?_
    · rintro i hI
      try simp only [] at hI ⊢
      have : big = 2 ^ 64 := rfl
      have := ga0.1
      omega
    · ((try simp only []); omega)
    · rintro i hI L hL
      try simp only [] at hI
      obtain ⟨i0, i1⟩ := hI
      simp only [laws_eqStringS.l0]
      refine Tm.ite (fun h2 => ?_) (fun h2 => ?_)
      · try simp only [decide_eq_true_eq, decide_eq_false_iff_not, Int.not_lt, Int.not_le, bne_iff_ne, ne_eq, bne_eq_false_iff_eq, beq_iff_eq, beq_eq_false_iff_ne, Bool.not_eq_true', Bool.not_eq_false'] at h2
        refine Tm.atRow (by first | assumption | omega | (simp only [lim, maxLen_eq] at *; omega)) (by first | assumption | omega | (simp only [lim, maxLen_eq] at *; omega)) (fun x3 hx4 hm5 => ?_)
        obtain ⟨c6, rfl, g7, _⟩ := (ga0.2 x3 hm5).open
        refine Tm.uncons ?_
        refine Tm.dStr ?_
        refine Tm.atEnd ?_
        refine Tm.atRow (by first | assumption | omega | (simp only [lim, maxLen_eq] at *; omega)) (by first | assumption | omega | (simp only [lim, maxLen_eq] at *; omega)) (fun x8 hx9 hm10 => ?_)
        rw [hx4] at hx9
        injection hx9 with hx9
        subst hx9
        refine Tm.uncons ?_
        refine Tm.dStr ?_
        refine Tm.atEnd ?_
        refine Tm.ite (fun h12 => ?_) (fun h12 => ?_)
        · try simp only [decide_eq_true_eq, decide_eq_false_iff_not, Int.not_lt, Int.not_le, bne_iff_ne, ne_eq, bne_eq_false_iff_eq, beq_iff_eq, beq_eq_false_iff_ne, Bool.not_eq_true', Bool.not_eq_false'] at h12
          exact Tm.ret (by first | rfl | (exfalso; simp [strEq_self] at *))
        · try simp only [decide_eq_true_eq, decide_eq_false_iff_not, Int.not_lt, Int.not_le, bne_iff_ne, ne_eq, bne_eq_false_iff_eq, beq_iff_eq, beq_eq_false_iff_ne, Bool.not_eq_true', Bool.not_eq_false'] at h12
          try rw [wrap_i64 (x := i + 1) (by omega) (by omega)]
          exact hL _ (by (try simp only []); omega) (by (try simp only []); omega)
      · try simp only [decide_eq_true_eq, decide_eq_false_iff_not, Int.not_lt, Int.not_le, bne_iff_ne, ne_eq, bne_eq_false_iff_eq, beq_iff_eq, beq_eq_false_iff_ne, Bool.not_eq_true', Bool.not_eq_false'] at h2
        exact Tm.ret (by first | rfl | (exfalso; simp [strEq_self] at *))
theorem laws_eqTerm.f_of {β : Type} {k : Nat} {a0_0 : Int} {a0_1 : ByteArray} {a0_2 : List (List D)} {a1_0 : Int} {a1_1 : ByteArray} {a1_2 : List (List D)} {z0 : Bool} (h : laws_eqTerm.t k a0_0 a0_1 a0_2 a1_0 a1_1 a1_2 = some z0) (K : Bool → Option β) : laws_eqTerm.f k a0_0 a0_1 a0_2 a1_0 a1_1 a1_2 K = K z0 := by
  unfold laws_eqTerm.f
  rw [h]
theorem laws_eqTerm.tm {ι α : Type} {ok : ι → Prop} {ψ : α → Prop} {p : ι → Nat} {B : Nat} (hp : ∀ i, ok i → B ≤ p i) {a0_0 : Int} {a0_1 : ByteArray} {a0_2 : List (List D)} {a1_0 : Int} {a1_1 : ByteArray} {a1_2 : List (List D)} {φ : Bool → Prop} (h : Tm (fun k => B ≤ k) (fun k => laws_eqTerm.t k a0_0 a0_1 a0_2 a1_0 a1_1 a1_2) φ) {G : ι → Bool → Option α} (hG : ∀ z0, φ z0 → Tm ok (fun i => G i z0) ψ) : Tm ok (fun i => laws_eqTerm.f (p i) a0_0 a0_1 a0_2 a1_0 a1_1 a1_2 (G i)) ψ := by
  obtain ⟨z0, h1, h2⟩ := h
  exact (hG z0 h1).congr fun i hi => laws_eqTerm.f_of (h2 (p i) (hp i hi)) _
theorem laws_eqTerm.T {B : Nat} {a0_0 : Int} {a0_1 : ByteArray} {a0_2 : List (List D)} (ga0_1 : a0_1.size ≤ B) (ga0_2 : SlOk RS B a0_2) (hB : B ≤ 1099511627776) : Tm Fuel (fun k => laws_eqTerm.t k a0_0 a0_1 a0_2 a0_0 a0_1 a0_2) (fun r => r = true) := by
  unfold laws_eqTerm.t laws_eqTerm.g
  have hm := maxLen_eq
  have hlim : lim = 1048576 := rfl
  refine Tm.ite (fun h1 => ?_) (fun h1 => ?_)
  · try simp only [decide_eq_true_eq, decide_eq_false_iff_not, Int.not_lt, Int.not_le, bne_iff_ne, ne_eq, bne_eq_false_iff_eq, beq_iff_eq, beq_eq_false_iff_ne, Bool.not_eq_true', Bool.not_eq_false'] at h1
    exact Tm.ret (by first | rfl | (exfalso; simp [strEq_self] at *))
  · try simp only [decide_eq_true_eq, decide_eq_false_iff_not, Int.not_lt, Int.not_le, bne_iff_ne, ne_eq, bne_eq_false_iff_eq, beq_iff_eq, beq_eq_false_iff_ne, Bool.not_eq_true', Bool.not_eq_false'] at h1
    refine Tm.ite (fun h2 => ?_) (fun h2 => ?_)
    · try simp only [decide_eq_true_eq, decide_eq_false_iff_not, Int.not_lt, Int.not_le, bne_iff_ne, ne_eq, bne_eq_false_iff_eq, beq_iff_eq, beq_eq_false_iff_ne, Bool.not_eq_true', Bool.not_eq_false'] at h2
      exact Tm.ret (by first | rfl | (exfalso; simp [strEq_self] at *))
    · try simp only [decide_eq_true_eq, decide_eq_false_iff_not, Int.not_lt, Int.not_le, bne_iff_ne, ne_eq, bne_eq_false_iff_eq, beq_iff_eq, beq_eq_false_iff_ne, Bool.not_eq_true', Bool.not_eq_false'] at h2
      refine laws_eqStringS.tm (fun i hi => hi) (laws_eqStringS.T (by first | assumption | omega | (simp only [lim, maxLen_eq] at *; omega)) (by first | assumption | omega | (simp only [lim, maxLen_eq] at *; omega))) (fun y4 hy3 => ?_)
      subst hy3
      refine Tm.ite (fun h5 => ?_) (fun h5 => ?_)
      · try simp only [decide_eq_true_eq, decide_eq_false_iff_not, Int.not_lt, Int.not_le, bne_iff_ne, ne_eq, bne_eq_false_iff_eq, beq_iff_eq, beq_eq_false_iff_ne, Bool.not_eq_true', Bool.not_eq_false'] at h5
        exact Tm.ret (by first | rfl | (exfalso; simp [strEq_self] at *))
      · try simp only [decide_eq_true_eq, decide_eq_false_iff_not, Int.not_lt, Int.not_le, bne_iff_ne, ne_eq, bne_eq_false_iff_eq, beq_iff_eq, beq_eq_false_iff_ne, Bool.not_eq_true', Bool.not_eq_false'] at h5
        exact Tm.ret (by first | rfl | (exfalso; simp [strEq_self] at *))
theorem laws_eqTermS.f_of {β : Type} {k : Nat} {a0 : List (List D)} {a1 : List (List D)} {z0 : Bool} (h : laws_eqTermS.t k a0 a1 = some z0) (K : Bool → Option β) : laws_eqTermS.f k a0 a1 K = K z0 := by
  unfold laws_eqTermS.f
  rw [h]
theorem laws_eqTermS.tm {ι α : Type} {ok : ι → Prop} {ψ : α → Prop} {p : ι → Nat} {B : Nat} (hp : ∀ i, ok i → B ≤ p i) {a0 : List (List D)} {a1 : List (List D)} {φ : Bool → Prop} (h : Tm (fun k => B ≤ k) (fun k => laws_eqTermS.t k a0 a1) φ) {G : ι → Bool → Option α} (hG : ∀ z0, φ z0 → Tm ok (fun i => G i z0) ψ) : Tm ok (fun i => laws_eqTermS.f (p i) a0 a1 (G i)) ψ := by
  obtain ⟨z0, h1, h2⟩ := h
  exact (hG z0 h1).congr fun i hi => laws_eqTermS.f_of (h2 (p i) (hp i hi)) _
def RISLSE (B : Nat) (r : List D) : Prop := ∃ (c0 : Int) (c1 : ByteArray) (c2 : List (List D)), r = [.int .i64 c0, .str c1, .sl c2] ∧ (Lit.int .i64 c0).wf = true ∧ c1.size ≤ B ∧ SlOk RS B c2 ∧ True
theorem RISLSE.open {B : Nat} {r : List D} (h : RISLSE B r) : ∃ (c0 : Int) (c1 : ByteArray) (c2 : List (List D)), r = [.int .i64 c0, .str c1, .sl c2] ∧ (Lit.int .i64 c0).wf = true ∧ c1.size ≤ B ∧ SlOk RS B c2 ∧ True := h
theorem RISLSE.mono {B B' : Nat} (hb : B ≤ B') {r : List D} (h : RISLSE B r) : RISLSE B' r := by
  obtain ⟨c0, c1, c2, rfl, k0, k1, k2, _⟩ := h
  exact ⟨_, _, _, rfl, k0, (Nat.le_trans k1 hb), ⟨Nat.le_trans k2.1 hb, fun r hr => (k2.2 r hr).mono hb⟩, trivial⟩
theorem RISLSE.wide {xs : List (List D)} (h : SlOk RISLSE lim xs) : SlOk RISLSE 2097152 xs := ⟨Nat.le_trans h.1 (by decide), fun r hr => (h.2 r hr).mono (by decide)⟩
theorem RISLSE.len {B : Nat} {r : List D} (h : RISLSE B r) : r.length = 3 := by
  obtain ⟨c0, c1, c2, rfl, _⟩ := h.open
  rfl
theorem RISLSE.gets {B : Nat} {xs : List (List D)} (h : ∀ r ∈ xs, RISLSE B r) {v : Int} (h0 : 0 ≤ v) (h1 : v < xs.length) : gR xs v = [.int .i64 (gI xs v 0), .str (gS xs v 1), .sl (gL xs v 2)] ∧ (Lit.int .i64 (gI xs v 0)).wf = true ∧ (gS xs v 1).size ≤ B ∧ SlOk RS B (gL xs v 2) ∧ True := by
  obtain ⟨c0, c1, c2, e, k0, k1, k2, _⟩ := (h (gR xs v) (gR_mem h0 h1)).open
  unfold gI gL gS
  rw [e]
  exact ⟨rfl, k0, k1, k2, trivial⟩
theorem RISLSE.rows {B : Nat} {xs : List (List D)} (h : ∀ r ∈ xs, RISLSE B r) {v : Int} (h0 : 0 ≤ v) (h1 : v < xs.length) {β : Type} (F : List D → Option β) : atRow xs v F = F [.int .i64 (gI xs v 0), .str (gS xs v 1), .sl (gL xs v 2)] := by
  rw [← (RISLSE.gets h h0 h1).1]
  exact atRow_gR h0 h1 F
theorem RISLSE.get {B : Nat} {xs : List (List D)} (h : SlOk RISLSE B xs) {v : Int} (h0 : 0 ≤ v) (h1 : v < xs.length) : gR xs v = [.int .i64 (gI xs v 0), .str (gS xs v 1), .sl (gL xs v 2)] ∧ (Lit.int .i64 (gI xs v 0)).wf = true ∧ (gS xs v 1).size ≤ B ∧ SlOk RS B (gL xs v 2) ∧ True := RISLSE.gets h.2 h0 h1
theorem RISLSE.row {B : Nat} {xs : List (List D)} (h : SlOk RISLSE B xs) {v : Int} (h0 : 0 ≤ v) (h1 : v < xs.length) {β : Type} (F : List D → Option β) : atRow xs v F = F [.int .i64 (gI xs v 0), .str (gS xs v 1), .sl (gL xs v 2)] := RISLSE.rows h.2 h0 h1 F
theorem laws_eqTermS.T {B : Nat} {a0 : List (List D)} (ga0 : SlOk RISLSE B a0) (hB : B ≤ 1099511627776) : Tm Fuel (fun k => laws_eqTermS.t k a0 a0) (fun r => r = true) := by
  unfold laws_eqTermS.t laws_eqTermS.g
  have hm := maxLen_eq
  have hlim : lim = 1048576 := rfl
  have hlen := ga0.1
  refine Tm.ite (fun h1 => ?_) (fun h1 => ?_)
  · try simp only [decide_eq_true_eq, decide_eq_false_iff_not, Int.not_lt, Int.not_le, bne_iff_ne, ne_eq, bne_eq_false_iff_eq, beq_iff_eq, beq_eq_false_iff_ne, Bool.not_eq_true', Bool.not_eq_false'] at h1
    exact Tm.ret (by first | rfl | (exfalso; simp [strEq_self] at *))
  · try simp only [decide_eq_true_eq, decide_eq_false_iff_not, Int.not_lt, Int.not_le, bne_iff_ne, ne_eq, bne_eq_false_iff_eq, beq_iff_eq, beq_eq_false_iff_ne, Bool.not_eq_true', Bool.not_eq_false'] at h1
    refine Tm.loop (okk := Fuel) (p := fun k => k) (fun i hi => hi) (b := fun k => laws_eqTermS.l0 k a0 a0 (fun z0 => some z0)) (fun i => (((a0.length : Int)) - i).toNat) (fun i => 0 ≤ i ∧ i ≤ (a0.length : Int)) ?_ ?_ ?_
    · rintro i hI
      try simp only [] at hI ⊢
      have : big = 2 ^ 64 := rfl
      have := ga0.1
      omega
    · ((try simp only []); omega)
    · rintro i hI L hL
      try simp only [] at hI
      obtain ⟨i0, i1⟩ := hI
      simp only [laws_eqTermS.l0]
      refine Tm.ite (fun h2 => ?_) (fun h2 => ?_)
      · try simp only [decide_eq_true_eq, decide_eq_false_iff_not, Int.not_lt, Int.not_le, bne_iff_ne, ne_eq, bne_eq_false_iff_eq, beq_iff_eq, beq_eq_false_iff_ne, Bool.not_eq_true', Bool.not_eq_false'] at h2
        refine Tm.atRow (by first | assumption | omega | (simp only [lim, maxLen_eq] at *; omega)) (by first | assumption | omega | (simp only [lim, maxLen_eq] at *; omega)) (fun x3 hx4 hm5 => ?_)
        obtain ⟨c6, c7, c8, rfl, g9, g10, g11, _⟩ := (ga0.2 x3 hm5).open
        refine Tm.uncons ?_
        refine Tm.dInt ?_
        refine Tm.uncons ?_
        refine Tm.dStr ?_
        refine Tm.uncons ?_
        refine Tm.dSl ?_
        refine Tm.atEnd ?_
        refine Tm.atRow (by first | assumption | omega | (simp only [lim, maxLen_eq] at *; omega)) (by first | assumption | omega | (simp only [lim, maxLen_eq] at *; omega)) (fun x12 hx13 hm14 => ?_)
        rw [hx4] at hx13
        injection hx13 with hx13
        subst hx13
        refine Tm.uncons ?_
        refine Tm.dInt ?_
        refine Tm.uncons ?_
        refine Tm.dStr ?_
        refine Tm.uncons ?_
        refine Tm.dSl ?_
        refine Tm.atEnd ?_
        refine laws_eqTerm.tm (fun i hi => hi.1) (laws_eqTerm.T (by first | assumption | omega | (simp only [lim, maxLen_eq] at *; omega)) (by first | assumption | omega | (simp only [lim, maxLen_eq] at *; omega)) (by first | assumption | omega | (simp only [lim, maxLen_eq] at *; omega))) (fun y19 hy18 => ?_)
        subst hy18
        refine Tm.ite (fun h20 => ?_) (fun h20 => ?_)
        · try simp only [decide_eq_true_eq, decide_eq_false_iff_not, Int.not_lt, Int.not_le, bne_iff_ne, ne_eq, bne_eq_false_iff_eq, beq_iff_eq, beq_eq_false_iff_ne, Bool.not_eq_true', Bool.not_eq_false'] at h20
          exact Tm.ret (by first | rfl | (exfalso; simp [strEq_self] at *))
        · try simp only [decide_eq_true_eq, decide_eq_false_iff_not, Int.not_lt, Int.not_le, bne_iff_ne, ne_eq, bne_eq_false_iff_eq, beq_iff_eq, beq_eq_false_iff_ne, Bool.not_eq_true', Bool.not_eq_false'] at h20
          try rw [wrap_i64 (x := i + 1) (by omega) (by omega)]
          exact hL _ (by (try simp only []); omega) (by (try simp only []); omega)
      · try simp only [decide_eq_true_eq, decide_eq_false_iff_not, Int.not_lt, Int.not_le, bne_iff_ne, ne_eq, bne_eq_false_iff_eq, beq_iff_eq, beq_eq_false_iff_ne, Bool.not_eq_true', Bool.not_eq_false'] at h2
        exact Tm.ret (by first | rfl | (exfalso; simp [strEq_self] at *))
theorem laws_eqWeigh.f_of {β : Type} {k : Nat} {a0_0 : ByteArray} {a0_1 : Int} {a1_0 : ByteArray} {a1_1 : Int} {z0 : Bool} (h : laws_eqWeigh.t k a0_0 a0_1 a1_0 a1_1 = some z0) (K : Bool → Option β) : laws_eqWeigh.f k a0_0 a0_1 a1_0 a1_1 K = K z0 := by
  unfold laws_eqWeigh.f
  rw [h]
theorem laws_eqWeigh.tm {ι α : Type} {ok : ι → Prop} {ψ : α → Prop} {p : ι → Nat} {B : Nat} (hp : ∀ i, ok i → B ≤ p i) {a0_0 : ByteArray} {a0_1 : Int} {a1_0 : ByteArray} {a1_1 : Int} {φ : Bool → Prop} (h : Tm (fun k => B ≤ k) (fun k => laws_eqWeigh.t k a0_0 a0_1 a1_0 a1_1) φ) {G : ι → Bool → Option α} (hG : ∀ z0, φ z0 → Tm ok (fun i => G i z0) ψ) : Tm ok (fun i => laws_eqWeigh.f (p i) a0_0 a0_1 a1_0 a1_1 (G i)) ψ := by
  obtain ⟨z0, h1, h2⟩ := h
  exact (hG z0 h1).congr fun i hi => laws_eqWeigh.f_of (h2 (p i) (hp i hi)) _
theorem laws_eqWeigh.T {B : Nat} {a0_0 : ByteArray} {a0_1 : Int} (ga0_0 : a0_0.size ≤ B) (hB : B ≤ 1099511627776) : Tm Fuel (fun k => laws_eqWeigh.t k a0_0 a0_1 a0_0 a0_1) (fun r => r = true) := by
  unfold laws_eqWeigh.t laws_eqWeigh.g
  have hm := maxLen_eq
  have hlim : lim = 1048576 := rfl
  refine Tm.ite (fun h1 => ?_) (fun h1 => ?_)
  · try simp only [decide_eq_true_eq, decide_eq_false_iff_not, Int.not_lt, Int.not_le, bne_iff_ne, ne_eq, bne_eq_false_iff_eq, beq_iff_eq, beq_eq_false_iff_ne, Bool.not_eq_true', Bool.not_eq_false'] at h1
    exact Tm.ret (by first | rfl | (exfalso; simp [strEq_self] at *))
  · try simp only [decide_eq_true_eq, decide_eq_false_iff_not, Int.not_lt, Int.not_le, bne_iff_ne, ne_eq, bne_eq_false_iff_eq, beq_iff_eq, beq_eq_false_iff_ne, Bool.not_eq_true', Bool.not_eq_false'] at h1
    refine Tm.ite (fun h2 => ?_) (fun h2 => ?_)
    · try simp only [decide_eq_true_eq, decide_eq_false_iff_not, Int.not_lt, Int.not_le, bne_iff_ne, ne_eq, bne_eq_false_iff_eq, beq_iff_eq, beq_eq_false_iff_ne, Bool.not_eq_true', Bool.not_eq_false'] at h2
      exact Tm.ret (by first | rfl | (exfalso; simp [strEq_self] at *))
    · try simp only [decide_eq_true_eq, decide_eq_false_iff_not, Int.not_lt, Int.not_le, bne_iff_ne, ne_eq, bne_eq_false_iff_eq, beq_iff_eq, beq_eq_false_iff_ne, Bool.not_eq_true', Bool.not_eq_false'] at h2
      exact Tm.ret (by first | rfl | (exfalso; simp [strEq_self] at *))
theorem laws_eqWeighS.f_of {β : Type} {k : Nat} {a0 : List (List D)} {a1 : List (List D)} {z0 : Bool} (h : laws_eqWeighS.t k a0 a1 = some z0) (K : Bool → Option β) : laws_eqWeighS.f k a0 a1 K = K z0 := by
  unfold laws_eqWeighS.f
  rw [h]
theorem laws_eqWeighS.tm {ι α : Type} {ok : ι → Prop} {ψ : α → Prop} {p : ι → Nat} {B : Nat} (hp : ∀ i, ok i → B ≤ p i) {a0 : List (List D)} {a1 : List (List D)} {φ : Bool → Prop} (h : Tm (fun k => B ≤ k) (fun k => laws_eqWeighS.t k a0 a1) φ) {G : ι → Bool → Option α} (hG : ∀ z0, φ z0 → Tm ok (fun i => G i z0) ψ) : Tm ok (fun i => laws_eqWeighS.f (p i) a0 a1 (G i)) ψ := by
  obtain ⟨z0, h1, h2⟩ := h
  exact (hG z0 h1).congr fun i hi => laws_eqWeighS.f_of (h2 (p i) (hp i hi)) _
def RSI (B : Nat) (r : List D) : Prop := ∃ (c0 : ByteArray) (c1 : Int), r = [.str c0, .int .i64 c1] ∧ c0.size ≤ B ∧ (Lit.int .i64 c1).wf = true ∧ True
theorem RSI.open {B : Nat} {r : List D} (h : RSI B r) : ∃ (c0 : ByteArray) (c1 : Int), r = [.str c0, .int .i64 c1] ∧ c0.size ≤ B ∧ (Lit.int .i64 c1).wf = true ∧ True := h
theorem RSI.mono {B B' : Nat} (hb : B ≤ B') {r : List D} (h : RSI B r) : RSI B' r := by
  obtain ⟨c0, c1, rfl, k0, k1, _⟩ := h
  exact ⟨_, _, rfl, (Nat.le_trans k0 hb), k1, trivial⟩
theorem RSI.wide {xs : List (List D)} (h : SlOk RSI lim xs) : SlOk RSI 2097152 xs := ⟨Nat.le_trans h.1 (by decide), fun r hr => (h.2 r hr).mono (by decide)⟩
theorem RSI.len {B : Nat} {r : List D} (h : RSI B r) : r.length = 2 := by
  obtain ⟨c0, c1, rfl, _⟩ := h.open
  rfl
theorem RSI.flat {B : Nat} {xs : List (List D)} (h : ∀ r ∈ xs, RSI B r) : rowsFlat 2 xs := fun r hr => by
  obtain ⟨c0, c1, rfl, _⟩ := (h r hr).open
  exact ⟨rfl, by simp [isScal]⟩
theorem RSI.wt {B : Nat} {xs : List (List D)} (h : ∀ r ∈ xs, RSI B r) : wtRows xs = 2 * xs.length := wt_flat (R := RSI B) (fun r h => by obtain ⟨c0, c1, rfl, _⟩ := h; rfl) xs h
theorem RSI.deep {B : Nat} {xs : List (List D)} (h : ∀ r ∈ xs, RSI B r) : deepRows xs = xs.map (·.map C.d) := deep_flat (R := RSI B) (fun r h => by obtain ⟨c0, c1, rfl, _⟩ := h; rfl) xs h
theorem RSI.gets {B : Nat} {xs : List (List D)} (h : ∀ r ∈ xs, RSI B r) {v : Int} (h0 : 0 ≤ v) (h1 : v < xs.length) : gR xs v = [.str (gS xs v 0), .int .i64 (gI xs v 1)] ∧ (gS xs v 0).size ≤ B ∧ (Lit.int .i64 (gI xs v 1)).wf = true ∧ True := by
  obtain ⟨c0, c1, e, k0, k1, _⟩ := (h (gR xs v) (gR_mem h0 h1)).open
  unfold gI gS
  rw [e]
  exact ⟨rfl, k0, k1, trivial⟩
theorem RSI.rows {B : Nat} {xs : List (List D)} (h : ∀ r ∈ xs, RSI B r) {v : Int} (h0 : 0 ≤ v) (h1 : v < xs.length) {β : Type} (F : List D → Option β) : atRow xs v F = F [.str (gS xs v 0), .int .i64 (gI xs v 1)] := by
  rw [← (RSI.gets h h0 h1).1]
  exact atRow_gR h0 h1 F
theorem RSI.get {B : Nat} {xs : List (List D)} (h : SlOk RSI B xs) {v : Int} (h0 : 0 ≤ v) (h1 : v < xs.length) : gR xs v = [.str (gS xs v 0), .int .i64 (gI xs v 1)] ∧ (gS xs v 0).size ≤ B ∧ (Lit.int .i64 (gI xs v 1)).wf = true ∧ True := RSI.gets h.2 h0 h1
theorem RSI.row {B : Nat} {xs : List (List D)} (h : SlOk RSI B xs) {v : Int} (h0 : 0 ≤ v) (h1 : v < xs.length) {β : Type} (F : List D → Option β) : atRow xs v F = F [.str (gS xs v 0), .int .i64 (gI xs v 1)] := RSI.rows h.2 h0 h1 F
theorem laws_eqWeighS.T {B : Nat} {a0 : List (List D)} (ga0 : SlOk RSI B a0) (hB : B ≤ 1099511627776) : Tm Fuel (fun k => laws_eqWeighS.t k a0 a0) (fun r => r = true) := by
  unfold laws_eqWeighS.t laws_eqWeighS.g
  have hm := maxLen_eq
  have hlim : lim = 1048576 := rfl
  have hlen := ga0.1
  refine Tm.ite (fun h1 => ?_) (fun h1 => ?_)
  · try simp only [decide_eq_true_eq, decide_eq_false_iff_not, Int.not_lt, Int.not_le, bne_iff_ne, ne_eq, bne_eq_false_iff_eq, beq_iff_eq, beq_eq_false_iff_ne, Bool.not_eq_true', Bool.not_eq_false'] at h1
    exact Tm.ret (by first | rfl | (exfalso; simp [strEq_self] at *))
  · try simp only [decide_eq_true_eq, decide_eq_false_iff_not, Int.not_lt, Int.not_le, bne_iff_ne, ne_eq, bne_eq_false_iff_eq, beq_iff_eq, beq_eq_false_iff_ne, Bool.not_eq_true', Bool.not_eq_false'] at h1
    refine Tm.loop (okk := Fuel) (p := fun k => k) (fun i hi => hi) (b := fun k => laws_eqWeighS.l0 k a0 a0 (fun z0 => some z0)) (fun i => (((a0.length : Int)) - i).toNat) (fun i => 0 ≤ i ∧ i ≤ (a0.length : Int)) ?_ ?_ ?_
    · rintro i hI
      try simp only [] at hI ⊢
      have : big = 2 ^ 64 := rfl
      have := ga0.1
      omega
    · ((try simp only []); omega)
    · rintro i hI L hL
      try simp only [] at hI
      obtain ⟨i0, i1⟩ := hI
      simp only [laws_eqWeighS.l0]
      refine Tm.ite (fun h2 => ?_) (fun h2 => ?_)
      · try simp only [decide_eq_true_eq, decide_eq_false_iff_not, Int.not_lt, Int.not_le, bne_iff_ne, ne_eq, bne_eq_false_iff_eq, beq_iff_eq, beq_eq_false_iff_ne, Bool.not_eq_true', Bool.not_eq_false'] at h2
        refine Tm.atRow (by first | assumption | omega | (simp only [lim, maxLen_eq] at *; omega)) (by first | assumption | omega | (simp only [lim, maxLen_eq] at *; omega)) (fun x3 hx4 hm5 => ?_)
        obtain ⟨c6, c7, rfl, g8, g9, _⟩ := (ga0.2 x3 hm5).open
        refine Tm.uncons ?_
        refine Tm.dStr ?_
        refine Tm.uncons ?_
        refine Tm.dInt ?_
        refine Tm.atEnd ?_
        refine Tm.atRow (by first | assumption | omega | (simp only [lim, maxLen_eq] at *; omega)) (by first | assumption | omega | (simp only [lim, maxLen_eq] at *; omega)) (fun x10 hx11 hm12 => ?_)
        rw [hx4] at hx11
        injection hx11 with hx11
        subst hx11
        refine Tm.uncons ?_
        refine Tm.dStr ?_
        refine Tm.uncons ?_
        refine Tm.dInt ?_
        refine Tm.atEnd ?_
        refine laws_eqWeigh.tm (fun i hi => hi.1) (laws_eqWeigh.T (by first | assumption | omega | (simp only [lim, maxLen_eq] at *; omega)) (by first | assumption | omega | (simp only [lim, maxLen_eq] at *; omega))) (fun y16 hy15 => ?_)
        subst hy15
        refine Tm.ite (fun h17 => ?_) (fun h17 => ?_)
        · try simp only [decide_eq_true_eq, decide_eq_false_iff_not, Int.not_lt, Int.not_le, bne_iff_ne, ne_eq, bne_eq_false_iff_eq, beq_iff_eq, beq_eq_false_iff_ne, Bool.not_eq_true', Bool.not_eq_false'] at h17
          exact Tm.ret (by first | rfl | (exfalso; simp [strEq_self] at *))
        · try simp only [decide_eq_true_eq, decide_eq_false_iff_not, Int.not_lt, Int.not_le, bne_iff_ne, ne_eq, bne_eq_false_iff_eq, beq_iff_eq, beq_eq_false_iff_ne, Bool.not_eq_true', Bool.not_eq_false'] at h17
          try rw [wrap_i64 (x := i + 1) (by omega) (by omega)]
          exact hL _ (by (try simp only []); omega) (by (try simp only []); omega)
      · try simp only [decide_eq_true_eq, decide_eq_false_iff_not, Int.not_lt, Int.not_le, bne_iff_ne, ne_eq, bne_eq_false_iff_eq, beq_iff_eq, beq_eq_false_iff_ne, Bool.not_eq_true', Bool.not_eq_false'] at h2
        exact Tm.ret (by first | rfl | (exfalso; simp [strEq_self] at *))
theorem laws_eqWant.f_of {β : Type} {k : Nat} {a0_0 : Int} {a0_1 : List (List D)} {a0_2 : List (List D)} {a0_3 : List (List D)} {a1_0 : Int} {a1_1 : List (List D)} {a1_2 : List (List D)} {a1_3 : List (List D)} {z0 : Bool} (h : laws_eqWant.t k a0_0 a0_1 a0_2 a0_3 a1_0 a1_1 a1_2 a1_3 = some z0) (K : Bool → Option β) : laws_eqWant.f k a0_0 a0_1 a0_2 a0_3 a1_0 a1_1 a1_2 a1_3 K = K z0 := by
  unfold laws_eqWant.f
  rw [h]
theorem laws_eqWant.tm {ι α : Type} {ok : ι → Prop} {ψ : α → Prop} {p : ι → Nat} {B : Nat} (hp : ∀ i, ok i → B ≤ p i) {a0_0 : Int} {a0_1 : List (List D)} {a0_2 : List (List D)} {a0_3 : List (List D)} {a1_0 : Int} {a1_1 : List (List D)} {a1_2 : List (List D)} {a1_3 : List (List D)} {φ : Bool → Prop} (h : Tm (fun k => B ≤ k) (fun k => laws_eqWant.t k a0_0 a0_1 a0_2 a0_3 a1_0 a1_1 a1_2 a1_3) φ) {G : ι → Bool → Option α} (hG : ∀ z0, φ z0 → Tm ok (fun i => G i z0) ψ) : Tm ok (fun i => laws_eqWant.f (p i) a0_0 a0_1 a0_2 a0_3 a1_0 a1_1 a1_2 a1_3 (G i)) ψ := by
  obtain ⟨z0, h1, h2⟩ := h
  exact (hG z0 h1).congr fun i hi => laws_eqWant.f_of (h2 (p i) (hp i hi)) _
theorem laws_eqWant.T {B : Nat} {a0_0 : Int} {a0_1 : List (List D)} {a0_2 : List (List D)} {a0_3 : List (List D)} (ga0_1 : SlOk RISLSE B a0_1) (ga0_2 : SlOk RS B a0_2) (ga0_3 : SlOk RSI B a0_3) (hB : B ≤ 1099511627776) : Tm Fuel (fun k => laws_eqWant.t k a0_0 a0_1 a0_2 a0_3 a0_0 a0_1 a0_2 a0_3) (fun r => r = true) := by
  unfold laws_eqWant.t laws_eqWant.g
  have hm := maxLen_eq
  have hlim : lim = 1048576 := rfl
  refine Tm.ite (fun h1 => ?_) (fun h1 => ?_)
  · try simp only [decide_eq_true_eq, decide_eq_false_iff_not, Int.not_lt, Int.not_le, bne_iff_ne, ne_eq, bne_eq_false_iff_eq, beq_iff_eq, beq_eq_false_iff_ne, Bool.not_eq_true', Bool.not_eq_false'] at h1
    exact Tm.ret (by first | rfl | (exfalso; simp [strEq_self] at *))
  · try simp only [decide_eq_true_eq, decide_eq_false_iff_not, Int.not_lt, Int.not_le, bne_iff_ne, ne_eq, bne_eq_false_iff_eq, beq_iff_eq, beq_eq_false_iff_ne, Bool.not_eq_true', Bool.not_eq_false'] at h1
    refine laws_eqTermS.tm (fun i hi => hi) (laws_eqTermS.T (by first | assumption | omega | (simp only [lim, maxLen_eq] at *; omega)) (by first | assumption | omega | (simp only [lim, maxLen_eq] at *; omega))) (fun y3 hy2 => ?_)
    subst hy2
    refine Tm.ite (fun h4 => ?_) (fun h4 => ?_)
    · try simp only [decide_eq_true_eq, decide_eq_false_iff_not, Int.not_lt, Int.not_le, bne_iff_ne, ne_eq, bne_eq_false_iff_eq, beq_iff_eq, beq_eq_false_iff_ne, Bool.not_eq_true', Bool.not_eq_false'] at h4
      exact Tm.ret (by first | rfl | (exfalso; simp [strEq_self] at *))
    · try simp only [decide_eq_true_eq, decide_eq_false_iff_not, Int.not_lt, Int.not_le, bne_iff_ne, ne_eq, bne_eq_false_iff_eq, beq_iff_eq, beq_eq_false_iff_ne, Bool.not_eq_true', Bool.not_eq_false'] at h4
      refine laws_eqStringS.tm (fun i hi => hi) (laws_eqStringS.T (by first | assumption | omega | (simp only [lim, maxLen_eq] at *; omega)) (by first | assumption | omega | (simp only [lim, maxLen_eq] at *; omega))) (fun y6 hy5 => ?_)
      subst hy5
      refine Tm.ite (fun h7 => ?_) (fun h7 => ?_)
      · try simp only [decide_eq_true_eq, decide_eq_false_iff_not, Int.not_lt, Int.not_le, bne_iff_ne, ne_eq, bne_eq_false_iff_eq, beq_iff_eq, beq_eq_false_iff_ne, Bool.not_eq_true', Bool.not_eq_false'] at h7
        exact Tm.ret (by first | rfl | (exfalso; simp [strEq_self] at *))
      · try simp only [decide_eq_true_eq, decide_eq_false_iff_not, Int.not_lt, Int.not_le, bne_iff_ne, ne_eq, bne_eq_false_iff_eq, beq_iff_eq, beq_eq_false_iff_ne, Bool.not_eq_true', Bool.not_eq_false'] at h7
        refine laws_eqWeighS.tm (fun i hi => hi) (laws_eqWeighS.T (by first | assumption | omega | (simp only [lim, maxLen_eq] at *; omega)) (by first | assumption | omega | (simp only [lim, maxLen_eq] at *; omega))) (fun y9 hy8 => ?_)
        subst hy8
        refine Tm.ite (fun h10 => ?_) (fun h10 => ?_)
        · try simp only [decide_eq_true_eq, decide_eq_false_iff_not, Int.not_lt, Int.not_le, bne_iff_ne, ne_eq, bne_eq_false_iff_eq, beq_iff_eq, beq_eq_false_iff_ne, Bool.not_eq_true', Bool.not_eq_false'] at h10
          exact Tm.ret (by first | rfl | (exfalso; simp [strEq_self] at *))
        · try simp only [decide_eq_true_eq, decide_eq_false_iff_not, Int.not_lt, Int.not_le, bne_iff_ne, ne_eq, bne_eq_false_iff_eq, beq_iff_eq, beq_eq_false_iff_ne, Bool.not_eq_true', Bool.not_eq_false'] at h10
          exact Tm.ret (by first | rfl | (exfalso; simp [strEq_self] at *))
theorem laws_eqValueS.f_of {β : Type} {k : Nat} {a0 : List (List D)} {a1 : List (List D)} {z0 : Bool} (h : laws_eqValueS.t k a0 a1 = some z0) (K : Bool → Option β) : laws_eqValueS.f k a0 a1 K = K z0 := by
  unfold laws_eqValueS.f
  unfold laws_eqValueS.w
  rw [h]
theorem laws_eqValueS.tm {ι α : Type} {ok : ι → Prop} {ψ : α → Prop} {p : ι → Nat} {B : Nat} (hp : ∀ i, ok i → B ≤ p i) {a0 : List (List D)} {a1 : List (List D)} {φ : Bool → Prop} (h : Tm (fun k => B ≤ k) (fun k => laws_eqValueS.t k a0 a1) φ) {G : ι → Bool → Option α} (hG : ∀ z0, φ z0 → Tm ok (fun i => G i z0) ψ) : Tm ok (fun i => laws_eqValueS.f (p i) a0 a1 (G i)) ψ := by
  obtain ⟨z0, h1, h2⟩ := h
  exact (hG z0 h1).congr fun i hi => laws_eqValueS.f_of (h2 (p i) (hp i hi)) _
inductive RISILSELXE_h (B : Nat) : Nat → List D → Prop
  | mk {h : Nat} (c0 : Int) (c1 : ByteArray) (c2 : Int) (c3 : List (List D)) (c4 : List (List D)) (k0 : (Lit.int .i64 c0).wf = true) (k1 : c1.size ≤ B) (k2 : (Lit.int .i64 c2).wf = true) (k3 : SlOk RS B c3) (k4 : c4.length ≤ B) (m4 : ∀ r ∈ c4, RISILSELXE_h B h r) : RISILSELXE_h B (h + 1) [.int .i64 c0, .str c1, .int .i64 c2, .sl c3, .sl c4]
def RISILSELXE (B : Nat) (r : List D) : Prop := ∃ h, (B ≤ 1099511627776 → h ≤ 1099511627776) ∧ RISILSELXE_h B h r
theorem RISILSELXE.open {B : Nat} {r : List D} (h : RISILSELXE B r) : ∃ (c0 : Int) (c1 : ByteArray) (c2 : Int) (c3 : List (List D)) (c4 : List (List D)), r = [.int .i64 c0, .str c1, .int .i64 c2, .sl c3, .sl c4] ∧ (Lit.int .i64 c0).wf = true ∧ c1.size ≤ B ∧ (Lit.int .i64 c2).wf = true ∧ SlOk RS B c3 ∧ SlOk RISILSELXE B c4 ∧ True := by
  obtain ⟨h, hh, h1⟩ := h
  cases h1 with
  | mk c0 c1 c2 c3 c4 k0 k1 k2 k3 k4 m4 => exact ⟨c0, c1, c2, c3, c4, rfl, k0, k1, k2, k3, ⟨k4, fun r hr => ⟨_, fun hb => by have := hh hb; omega, m4 r hr⟩⟩, trivial⟩
theorem RISILSELXE_h.up {B B' : Nat} (hb : B ≤ B') : ∀ {h : Nat} {r : List D}, RISILSELXE_h B h r → RISILSELXE_h B' h r
  | _ + 1, _, .mk c0 c1 c2 c3 c4 k0 k1 k2 k3 k4 m4 => .mk c0 c1 c2 c3 c4 k0 (Nat.le_trans k1 hb) k2 ⟨Nat.le_trans k3.1 hb, fun r hr => (k3.2 r hr).mono hb⟩ (Nat.le_trans k4 hb) (fun r hr => RISILSELXE_h.up hb (m4 r hr))
theorem RISILSELXE.mono {B B' : Nat} (hb : B ≤ B') {r : List D} (h : RISILSELXE B r) : RISILSELXE B' r := by
  obtain ⟨h, hh, h1⟩ := h
  exact ⟨h, fun h2 => hh (Nat.le_trans hb h2), h1.up hb⟩
theorem RISILSELXE_h.mono {B : Nat} : ∀ {h h' : Nat} {r : List D}, h ≤ h' → RISILSELXE_h B h r → RISILSELXE_h B h' r
  | _, 0, _, hl, .mk .. => by omega
  | _ + 1, _ + 1, _, hl, .mk c0 c1 c2 c3 c4 k0 k1 k2 k3 k4 m4 => .mk c0 c1 c2 c3 c4 k0 k1 k2 k3 k4 (fun r hr => RISILSELXE_h.mono (by omega) (m4 r hr))
theorem RISILSELXE.wide {xs : List (List D)} (h : SlOk RISILSELXE lim xs) : SlOk RISILSELXE 2097152 xs := ⟨Nat.le_trans h.1 (by decide), fun r hr => (h.2 r hr).mono (by decide)⟩
theorem RISILSELXE.len {B : Nat} {r : List D} (h : RISILSELXE B r) : r.length = 5 := by
  obtain ⟨c0, c1, c2, c3, c4, rfl, _⟩ := h.open
  rfl
theorem RISILSELXE.gets {B : Nat} {xs : List (List D)} (h : ∀ r ∈ xs, RISILSELXE B r) {v : Int} (h0 : 0 ≤ v) (h1 : v < xs.length) : gR xs v = [.int .i64 (gI xs v 0), .str (gS xs v 1), .int .i64 (gI xs v 2), .sl (gL xs v 3), .sl (gL xs v 4)] ∧ (Lit.int .i64 (gI xs v 0)).wf = true ∧ (gS xs v 1).size ≤ B ∧ (Lit.int .i64 (gI xs v 2)).wf = true ∧ SlOk RS B (gL xs v 3) ∧ SlOk RISILSELXE B (gL xs v 4) ∧ True := by
  obtain ⟨c0, c1, c2, c3, c4, e, k0, k1, k2, k3, k4, _⟩ := (h (gR xs v) (gR_mem h0 h1)).open
  unfold gI gL gS
  rw [e]
  exact ⟨rfl, k0, k1, k2, k3, k4, trivial⟩
theorem RISILSELXE.rows {B : Nat} {xs : List (List D)} (h : ∀ r ∈ xs, RISILSELXE B r) {v : Int} (h0 : 0 ≤ v) (h1 : v < xs.length) {β : Type} (F : List D → Option β) : atRow xs v F = F [.int .i64 (gI xs v 0), .str (gS xs v 1), .int .i64 (gI xs v 2), .sl (gL xs v 3), .sl (gL xs v 4)] := by
  rw [← (RISILSELXE.gets h h0 h1).1]
  exact atRow_gR h0 h1 F
theorem RISILSELXE.get {B : Nat} {xs : List (List D)} (h : SlOk RISILSELXE B xs) {v : Int} (h0 : 0 ≤ v) (h1 : v < xs.length) : gR xs v = [.int .i64 (gI xs v 0), .str (gS xs v 1), .int .i64 (gI xs v 2), .sl (gL xs v 3), .sl (gL xs v 4)] ∧ (Lit.int .i64 (gI xs v 0)).wf = true ∧ (gS xs v 1).size ≤ B ∧ (Lit.int .i64 (gI xs v 2)).wf = true ∧ SlOk RS B (gL xs v 3) ∧ SlOk RISILSELXE B (gL xs v 4) ∧ True := RISILSELXE.gets h.2 h0 h1
theorem RISILSELXE.row {B : Nat} {xs : List (List D)} (h : SlOk RISILSELXE B xs) {v : Int} (h0 : 0 ≤ v) (h1 : v < xs.length) {β : Type} (F : List D → Option β) : atRow xs v F = F [.int .i64 (gI xs v 0), .str (gS xs v 1), .int .i64 (gI xs v 2), .sl (gL xs v 3), .sl (gL xs v 4)] := RISILSELXE.rows h.2 h0 h1 F
theorem laws_eqValue.f_of {β : Type} {k : Nat} {a0_0 : Int} {a0_1 : ByteArray} {a0_2 : Int} {a0_3 : List (List D)} {a0_4 : List (List D)} {a1_0 : Int} {a1_1 : ByteArray} {a1_2 : Int} {a1_3 : List (List D)} {a1_4 : List (List D)} {z0 : Bool} (h : laws_eqValue.t k a0_0 a0_1 a0_2 a0_3 a0_4 a1_0 a1_1 a1_2 a1_3 a1_4 = some z0) (K : Bool → Option β) : laws_eqValue.f k a0_0 a0_1 a0_2 a0_3 a0_4 a1_0 a1_1 a1_2 a1_3 a1_4 K = K z0 := by
  unfold laws_eqValue.f
  unfold laws_eqValue.w
  rw [h]
theorem laws_eqValue.tm {ι α : Type} {ok : ι → Prop} {ψ : α → Prop} {p : ι → Nat} {B : Nat} (hp : ∀ i, ok i → B ≤ p i) {a0_0 : Int} {a0_1 : ByteArray} {a0_2 : Int} {a0_3 : List (List D)} {a0_4 : List (List D)} {a1_0 : Int} {a1_1 : ByteArray} {a1_2 : Int} {a1_3 : List (List D)} {a1_4 : List (List D)} {φ : Bool → Prop} (h : Tm (fun k => B ≤ k) (fun k => laws_eqValue.t k a0_0 a0_1 a0_2 a0_3 a0_4 a1_0 a1_1 a1_2 a1_3 a1_4) φ) {G : ι → Bool → Option α} (hG : ∀ z0, φ z0 → Tm ok (fun i => G i z0) ψ) : Tm ok (fun i => laws_eqValue.f (p i) a0_0 a0_1 a0_2 a0_3 a0_4 a1_0 a1_1 a1_2 a1_3 a1_4 (G i)) ψ := by
  obtain ⟨z0, h1, h2⟩ := h
  exact (hG z0 h1).congr fun i hi => laws_eqValue.f_of (h2 (p i) (hp i hi)) _
theorem eqVal {B : Nat} (hB : B ≤ 1099511627776) (n : Nat) : (∀ (a : List (List D)), a.length ≤ B → (∀ x ∈ a, RISILSELXE_h B n x) → Tm (fun k => big + 2 * n + 1 ≤ k) (fun k => laws_eqValueS.t k a a) (fun r => r = true)) ∧
    (∀ (c0 : Int) (c1 : ByteArray) (c2 : Int) (c3 c4 : List (List D)), c1.size ≤ B → SlOk RS B c3 → c4.length ≤ B → (∀ x ∈ c4, RISILSELXE_h B n x) → Tm (fun k => big + 2 * n + 2 ≤ k) (fun k => laws_eqValue.t k c0 c1 c2 c3 c4 c0 c1 c2 c3 c4) (fun r => r = true)) := by
  have hb : big = 2 ^ 64 := rfl
  induction n using Nat.strongRecOn with
  | ind n ih =>
  have S : ∀ (a : List (List D)), a.length ≤ B → (∀ x ∈ a, RISILSELXE_h B n x) → Tm (fun k => big + 2 * n + 1 ≤ k) (fun k => laws_eqValueS.t k a a) (fun r => r = true) := by
    intro a hlen g
    refine Tm.succ (g := fun k => laws_eqValueS.g k a a (fun z0 => some z0)) (fun k => laws_eqValueS.t_succ k a a) ?_
    unfold laws_eqValueS.g laws_eqValueS.body
    refine Tm.ite (fun h3 => by simp at h3) (fun h3 => ?_)
    refine Tm.loop (okk := fun k => big + 2 * n ≤ k) (p := fun k => k) (fun i hi => by omega) (b := fun k => laws_eqValueS.l0 k (laws_eqValueS.f k) (laws_eqValue.f k) a a (fun z0 => some z0)) (fun i => (((a.length : Int)) - i).toNat) (fun i => 0 ≤ i ∧ i ≤ (a.length : Int)) ?_ ?_ ?_
    · rintro i hI
      omega
    · omega
    · rintro i hI L hL
      obtain ⟨i0, i1⟩ := hI
      simp only [laws_eqValueS.l0]
      refine Tm.ite (fun h4 => ?_) (fun h4 => ?_)
      · simp only [decide_eq_true_eq] at h4
        refine Tm.atRow (by omega) (by omega) (fun x5 hx6 hm7 => ?_)
        obtain ⟨n', hn', c0, c1, c2, c3, c4, rfl, w0, g1, w2, g3, l4, g4⟩ : ∃ n', n = n' + 1 ∧ ∃ c0 c1 c2 c3 c4, x5 = [.int .i64 c0, .str c1, .int .i64 c2, .sl c3, .sl c4] ∧ (Lit.int .i64 c0).wf = true ∧ c1.size ≤ B ∧ (Lit.int .i64 c2).wf = true ∧ SlOk RS B c3 ∧ c4.length ≤ B ∧ ∀ x ∈ c4, RISILSELXE_h B n' x := by
          have := g x5 hm7
          cases this with
          | mk c0 c1 c2 c3 c4 w0 g1 w2 g3 l4 g4 => exact ⟨_, rfl, _, _, _, _, _, rfl, w0, g1, w2, g3, l4, g4⟩
        refine Tm.uncons (Tm.dInt (Tm.uncons (Tm.dStr (Tm.uncons (Tm.dInt (Tm.uncons (Tm.dSl (Tm.uncons (Tm.dSl (Tm.atEnd ?_))))))))))
        refine Tm.atRow (by omega) (by omega) (fun x8 hx8 _ => ?_)
        rw [hx6] at hx8
        injection hx8 with hx8
        subst hx8
        refine Tm.uncons (Tm.dInt (Tm.uncons (Tm.dStr (Tm.uncons (Tm.dInt (Tm.uncons (Tm.dSl (Tm.uncons (Tm.dSl (Tm.atEnd ?_))))))))))
        refine laws_eqValue.tm (B := big + 2 * n' + 2) (fun i hi => by have := hi.1; omega) ((ih n' (by omega)).2 c0 c1 c2 c3 c4 g1 g3 l4 g4) (fun y hy => ?_)
        subst hy
        refine Tm.ite (fun h => by simp at h) (fun _ => ?_)
        rw [wrap_i64 (x := i + 1) (by omega) (by omega)]
        exact hL (i + 1) ⟨by omega, by omega⟩ (by omega)
      · exact Tm.ret rfl
  refine ⟨S, ?_⟩
  intro c0 c1 c2 c3 c4 g1 g3 l4 g4
  refine Tm.succ (g := fun k => laws_eqValue.g k c0 c1 c2 c3 c4 c0 c1 c2 c3 c4 (fun z0 => some z0)) (fun k => laws_eqValue.t_succ k c0 c1 c2 c3 c4 c0 c1 c2 c3 c4) ?_
  unfold laws_eqValue.g laws_eqValue.body
  refine Tm.ite (fun h => by simp at h) (fun _ => ?_)
  refine Tm.ite (fun h => by simp [strEq_self] at h) (fun _ => ?_)
  refine Tm.ite (fun h => by simp at h) (fun _ => ?_)
  refine laws_eqStringS.tm (B := big) (fun i hi => by omega) (laws_eqStringS.T g3 hB) (fun y hy => ?_)
  subst hy
  refine Tm.ite (fun h => by simp at h) (fun _ => ?_)
  refine laws_eqValueS.tm (B := big + 2 * n + 1) (fun i hi => hi) (S c4 l4 g4) (fun y' hy' => ?_)
  subst hy'
  exact Tm.ite (fun h => by simp at h) (fun _ => Tm.ret rfl)
theorem big_lv1e {n : Nat} (h : n ≤ 4398046511104) : big + n ≤ lv 1 := by
  have hb : big = 2 ^ 64 := rfl
  have : lv 1 = 2 ^ 65 := rfl
  omega
theorem laws_eqValueS.T {B : Nat} {a0 : List (List D)} (g : SlOk RISILSELXE B a0) (hB : B ≤ 1099511627776) : Tm (FuelN 1) (fun k => laws_eqValueS.t k a0 a0) (fun r => r = true) := by
  have g' : ∀ x ∈ a0, RISILSELXE_h B 1099511627776 x := fun x hx => by
    obtain ⟨h, hh, hx⟩ := g.2 x hx
    exact hx.mono (hh hB)
  exact ((eqVal hB 1099511627776).1 a0 g.1 g').up (big_lv1e (n := 2 * 1099511627776 + 1) (by omega))
theorem laws_eqValue.T {B : Nat} {a0_0 : Int} {a0_1 : ByteArray} {a0_2 : Int} {a0_3 a0_4 : List (List D)} (g1 : a0_1.size ≤ B) (g3 : SlOk RS B a0_3) (g4 : SlOk RISILSELXE B a0_4) (hB : B ≤ 1099511627776) : Tm (FuelN 1) (fun k => laws_eqValue.t k a0_0 a0_1 a0_2 a0_3 a0_4 a0_0 a0_1 a0_2 a0_3 a0_4) (fun r => r = true) := by
  have g' : ∀ x ∈ a0_4, RISILSELXE_h B 1099511627776 x := fun x hx => by
    obtain ⟨h, hh, hx⟩ := g4.2 x hx
    exact hx.mono (hh hB)
  exact ((eqVal hB 1099511627776).2 a0_0 a0_1 a0_2 a0_3 a0_4 g1 g3 g4.1 g').up (big_lv1e (n := 2 * 1099511627776 + 2) (by omega))
theorem laws_eqOp.f_of {β : Type} {k : Nat} {a0_0 : Int} {a0_1 : List (List D)} {a0_2 : Int} {a0_3 : ByteArray} {a0_4 : Int} {a0_5 : List (List D)} {a0_6 : List (List D)} {a1_0 : Int} {a1_1 : List (List D)} {a1_2 : Int} {a1_3 : ByteArray} {a1_4 : Int} {a1_5 : List (List D)} {a1_6 : List (List D)} {z0 : Bool} (h : laws_eqOp.t k a0_0 a0_1 a0_2 a0_3 a0_4 a0_5 a0_6 a1_0 a1_1 a1_2 a1_3 a1_4 a1_5 a1_6 = some z0) (K : Bool → Option β) : laws_eqOp.f k a0_0 a0_1 a0_2 a0_3 a0_4 a0_5 a0_6 a1_0 a1_1 a1_2 a1_3 a1_4 a1_5 a1_6 K = K z0 := by
  unfold laws_eqOp.f
  rw [h]
theorem laws_eqOp.tm {ι α : Type} {ok : ι → Prop} {ψ : α → Prop} {p : ι → Nat} {B : Nat} (hp : ∀ i, ok i → B ≤ p i) {a0_0 : Int} {a0_1 : List (List D)} {a0_2 : Int} {a0_3 : ByteArray} {a0_4 : Int} {a0_5 : List (List D)} {a0_6 : List (List D)} {a1_0 : Int} {a1_1 : List (List D)} {a1_2 : Int} {a1_3 : ByteArray} {a1_4 : Int} {a1_5 : List (List D)} {a1_6 : List (List D)} {φ : Bool → Prop} (h : Tm (fun k => B ≤ k) (fun k => laws_eqOp.t k a0_0 a0_1 a0_2 a0_3 a0_4 a0_5 a0_6 a1_0 a1_1 a1_2 a1_3 a1_4 a1_5 a1_6) φ) {G : ι → Bool → Option α} (hG : ∀ z0, φ z0 → Tm ok (fun i => G i z0) ψ) : Tm ok (fun i => laws_eqOp.f (p i) a0_0 a0_1 a0_2 a0_3 a0_4 a0_5 a0_6 a1_0 a1_1 a1_2 a1_3 a1_4 a1_5 a1_6 (G i)) ψ := by
  obtain ⟨z0, h1, h2⟩ := h
  exact (hG z0 h1).congr fun i hi => laws_eqOp.f_of (h2 (p i) (hp i hi)) _
theorem laws_eqOp.T {B : Nat} {a0_0 : Int} {a0_1 : List (List D)} {a0_2 : Int} {a0_3 : ByteArray} {a0_4 : Int} {a0_5 : List (List D)} {a0_6 : List (List D)} (ga0_1 : SlOk RS B a0_1) (ga0_3 : a0_3.size ≤ B) (ga0_5 : SlOk RS B a0_5) (ga0_6 : SlOk RISILSELXE B a0_6) (hB : B ≤ 1099511627776) : Tm (FuelN 1) (fun k => laws_eqOp.t k a0_0 a0_1 a0_2 a0_3 a0_4 a0_5 a0_6 a0_0 a0_1 a0_2 a0_3 a0_4 a0_5 a0_6) (fun r => r = true) := by
  unfold laws_eqOp.t laws_eqOp.g
  have hm := maxLen_eq
  have hlim : lim = 1048576 := rfl
  refine Tm.ite (fun h1 => ?_) (fun h1 => ?_)
  · try simp only [decide_eq_true_eq, decide_eq_false_iff_not, Int.not_lt, Int.not_le, bne_iff_ne, ne_eq, bne_eq_false_iff_eq, beq_iff_eq, beq_eq_false_iff_ne, Bool.not_eq_true', Bool.not_eq_false'] at h1
    exact Tm.ret (by first | rfl | (exfalso; simp [strEq_self] at *))
  · try simp only [decide_eq_true_eq, decide_eq_false_iff_not, Int.not_lt, Int.not_le, bne_iff_ne, ne_eq, bne_eq_false_iff_eq, beq_iff_eq, beq_eq_false_iff_ne, Bool.not_eq_true', Bool.not_eq_false'] at h1
    refine laws_eqStringS.tm (fun i hi => up0 hi) (laws_eqStringS.T (by first | assumption | omega | (simp only [lim, maxLen_eq] at *; omega)) (by first | assumption | omega | (simp only [lim, maxLen_eq] at *; omega))) (fun y3 hy2 => ?_)
    subst hy2
    refine Tm.ite (fun h4 => ?_) (fun h4 => ?_)
    · try simp only [decide_eq_true_eq, decide_eq_false_iff_not, Int.not_lt, Int.not_le, bne_iff_ne, ne_eq, bne_eq_false_iff_eq, beq_iff_eq, beq_eq_false_iff_ne, Bool.not_eq_true', Bool.not_eq_false'] at h4
      exact Tm.ret (by first | rfl | (exfalso; simp [strEq_self] at *))
    · try simp only [decide_eq_true_eq, decide_eq_false_iff_not, Int.not_lt, Int.not_le, bne_iff_ne, ne_eq, bne_eq_false_iff_eq, beq_iff_eq, beq_eq_false_iff_ne, Bool.not_eq_true', Bool.not_eq_false'] at h4
      refine laws_eqValue.tm (fun i hi => hi) (laws_eqValue.T (by first | assumption | omega | (simp only [lim, maxLen_eq] at *; omega)) (by first | assumption | omega | (simp only [lim, maxLen_eq] at *; omega)) (by first | assumption | omega | (simp only [lim, maxLen_eq] at *; omega)) (by first | assumption | omega | (simp only [lim, maxLen_eq] at *; omega))) (fun y6 hy5 => ?_)
      subst hy5
      refine Tm.ite (fun h7 => ?_) (fun h7 => ?_)
      · try simp only [decide_eq_true_eq, decide_eq_false_iff_not, Int.not_lt, Int.not_le, bne_iff_ne, ne_eq, bne_eq_false_iff_eq, beq_iff_eq, beq_eq_false_iff_ne, Bool.not_eq_true', Bool.not_eq_false'] at h7
        exact Tm.ret (by first | rfl | (exfalso; simp [strEq_self] at *))
      · try simp only [decide_eq_true_eq, decide_eq_false_iff_not, Int.not_lt, Int.not_le, bne_iff_ne, ne_eq, bne_eq_false_iff_eq, beq_iff_eq, beq_eq_false_iff_ne, Bool.not_eq_true', Bool.not_eq_false'] at h7
        exact Tm.ret (by first | rfl | (exfalso; simp [strEq_self] at *))
theorem laws_eqOpS.f_of {β : Type} {k : Nat} {a0 : List (List D)} {a1 : List (List D)} {z0 : Bool} (h : laws_eqOpS.t k a0 a1 = some z0) (K : Bool → Option β) : laws_eqOpS.f k a0 a1 K = K z0 := by
  unfold laws_eqOpS.f
  rw [h]
theorem laws_eqOpS.tm {ι α : Type} {ok : ι → Prop} {ψ : α → Prop} {p : ι → Nat} {B : Nat} (hp : ∀ i, ok i → B ≤ p i) {a0 : List (List D)} {a1 : List (List D)} {φ : Bool → Prop} (h : Tm (fun k => B ≤ k) (fun k => laws_eqOpS.t k a0 a1) φ) {G : ι → Bool → Option α} (hG : ∀ z0, φ z0 → Tm ok (fun i => G i z0) ψ) : Tm ok (fun i => laws_eqOpS.f (p i) a0 a1 (G i)) ψ := by
  obtain ⟨z0, h1, h2⟩ := h
  exact (hG z0 h1).congr fun i hi => laws_eqOpS.f_of (h2 (p i) (hp i hi)) _
def RILSEISILSELISILSELXEE (B : Nat) (r : List D) : Prop := ∃ (c0 : Int) (c1 : List (List D)) (c2 : Int) (c3 : ByteArray) (c4 : Int) (c5 : List (List D)) (c6 : List (List D)), r = [.int .i64 c0, .sl c1, .int .i64 c2, .str c3, .int .i64 c4, .sl c5, .sl c6] ∧ (Lit.int .i64 c0).wf = true ∧ SlOk RS B c1 ∧ (Lit.int .i64 c2).wf = true ∧ c3.size ≤ B ∧ (Lit.int .i64 c4).wf = true ∧ SlOk RS B c5 ∧ SlOk RISILSELXE B c6 ∧ True
theorem RILSEISILSELISILSELXEE.open {B : Nat} {r : List D} (h : RILSEISILSELISILSELXEE B r) : ∃ (c0 : Int) (c1 : List (List D)) (c2 : Int) (c3 : ByteArray) (c4 : Int) (c5 : List (List D)) (c6 : List (List D)), r = [.int .i64 c0, .sl c1, .int .i64 c2, .str c3, .int .i64 c4, .sl c5, .sl c6] ∧ (Lit.int .i64 c0).wf = true ∧ SlOk RS B c1 ∧ (Lit.int .i64 c2).wf = true ∧ c3.size ≤ B ∧ (Lit.int .i64 c4).wf = true ∧ SlOk RS B c5 ∧ SlOk RISILSELXE B c6 ∧ True := h
theorem RILSEISILSELISILSELXEE.mono {B B' : Nat} (hb : B ≤ B') {r : List D} (h : RILSEISILSELISILSELXEE B r) : RILSEISILSELISILSELXEE B' r := by
  obtain ⟨c0, c1, c2, c3, c4, c5, c6, rfl, k0, k1, k2, k3, k4, k5, k6, _⟩ := h
  exact ⟨_, _, _, _, _, _, _, rfl, k0, ⟨Nat.le_trans k1.1 hb, fun r hr => (k1.2 r hr).mono hb⟩, k2, (Nat.le_trans k3 hb), k4, ⟨Nat.le_trans k5.1 hb, fun r hr => (k5.2 r hr).mono hb⟩, ⟨Nat.le_trans k6.1 hb, fun r hr => (k6.2 r hr).mono hb⟩, trivial⟩
theorem RILSEISILSELISILSELXEE.wide {xs : List (List D)} (h : SlOk RILSEISILSELISILSELXEE lim xs) : SlOk RILSEISILSELISILSELXEE 2097152 xs := ⟨Nat.le_trans h.1 (by decide), fun r hr => (h.2 r hr).mono (by decide)⟩
theorem RILSEISILSELISILSELXEE.len {B : Nat} {r : List D} (h : RILSEISILSELISILSELXEE B r) : r.length = 7 := by
  obtain ⟨c0, c1, c2, c3, c4, c5, c6, rfl, _⟩ := h.open
  rfl
theorem RILSEISILSELISILSELXEE.gets {B : Nat} {xs : List (List D)} (h : ∀ r ∈ xs, RILSEISILSELISILSELXEE B r) {v : Int} (h0 : 0 ≤ v) (h1 : v < xs.length) : gR xs v = [.int .i64 (gI xs v 0), .sl (gL xs v 1), .int .i64 (gI xs v 2), .str (gS xs v 3), .int .i64 (gI xs v 4), .sl (gL xs v 5), .sl (gL xs v 6)] ∧ (Lit.int .i64 (gI xs v 0)).wf = true ∧ SlOk RS B (gL xs v 1) ∧ (Lit.int .i64 (gI xs v 2)).wf = true ∧ (gS xs v 3).size ≤ B ∧ (Lit.int .i64 (gI xs v 4)).wf = true ∧ SlOk RS B (gL xs v 5) ∧ SlOk RISILSELXE B (gL xs v 6) ∧ True := by
  obtain ⟨c0, c1, c2, c3, c4, c5, c6, e, k0, k1, k2, k3, k4, k5, k6, _⟩ := (h (gR xs v) (gR_mem h0 h1)).open
  unfold gI gL gS
  rw [e]
  exact ⟨rfl, k0, k1, k2, k3, k4, k5, k6, trivial⟩
theorem RILSEISILSELISILSELXEE.rows {B : Nat} {xs : List (List D)} (h : ∀ r ∈ xs, RILSEISILSELISILSELXEE B r) {v : Int} (h0 : 0 ≤ v) (h1 : v < xs.length) {β : Type} (F : List D → Option β) : atRow xs v F = F [.int .i64 (gI xs v 0), .sl (gL xs v 1), .int .i64 (gI xs v 2), .str (gS xs v 3), .int .i64 (gI xs v 4), .sl (gL xs v 5), .sl (gL xs v 6)] := by
  rw [← (RILSEISILSELISILSELXEE.gets h h0 h1).1]
  exact atRow_gR h0 h1 F
theorem RILSEISILSELISILSELXEE.get {B : Nat} {xs : List (List D)} (h : SlOk RILSEISILSELISILSELXEE B xs) {v : Int} (h0 : 0 ≤ v) (h1 : v < xs.length) : gR xs v = [.int .i64 (gI xs v 0), .sl (gL xs v 1), .int .i64 (gI xs v 2), .str (gS xs v 3), .int .i64 (gI xs v 4), .sl (gL xs v 5), .sl (gL xs v 6)] ∧ (Lit.int .i64 (gI xs v 0)).wf = true ∧ SlOk RS B (gL xs v 1) ∧ (Lit.int .i64 (gI xs v 2)).wf = true ∧ (gS xs v 3).size ≤ B ∧ (Lit.int .i64 (gI xs v 4)).wf = true ∧ SlOk RS B (gL xs v 5) ∧ SlOk RISILSELXE B (gL xs v 6) ∧ True := RILSEISILSELISILSELXEE.gets h.2 h0 h1
theorem RILSEISILSELISILSELXEE.row {B : Nat} {xs : List (List D)} (h : SlOk RILSEISILSELISILSELXEE B xs) {v : Int} (h0 : 0 ≤ v) (h1 : v < xs.length) {β : Type} (F : List D → Option β) : atRow xs v F = F [.int .i64 (gI xs v 0), .sl (gL xs v 1), .int .i64 (gI xs v 2), .str (gS xs v 3), .int .i64 (gI xs v 4), .sl (gL xs v 5), .sl (gL xs v 6)] := RILSEISILSELISILSELXEE.rows h.2 h0 h1 F
theorem laws_eqOpS.T {B : Nat} {a0 : List (List D)} (ga0 : SlOk RILSEISILSELISILSELXEE B a0) (hB : B ≤ 1099511627776) : Tm (FuelN 1) (fun k => laws_eqOpS.t k a0 a0) (fun r => r = true) := by
  unfold laws_eqOpS.t laws_eqOpS.g
  have hm := maxLen_eq
  have hlim : lim = 1048576 := rfl
  have hlen := ga0.1
  refine Tm.ite (fun h1 => ?_) (fun h1 => ?_)
  · try simp only [decide_eq_true_eq, decide_eq_false_iff_not, Int.not_lt, Int.not_le, bne_iff_ne, ne_eq, bne_eq_false_iff_eq, beq_iff_eq, beq_eq_false_iff_ne, Bool.not_eq_true', Bool.not_eq_false'] at h1
    exact Tm.ret (by first | rfl | (exfalso; simp [strEq_self] at *))
  · try simp only [decide_eq_true_eq, decide_eq_false_iff_not, Int.not_lt, Int.not_le, bne_iff_ne, ne_eq, bne_eq_false_iff_eq, beq_iff_eq, beq_eq_false_iff_ne, Bool.not_eq_true', Bool.not_eq_false'] at h1
    refine Tm.loop (okk := (FuelN 1)) (p := fun k => k) (fun i hi => up0 hi) (b := fun k => laws_eqOpS.l0 k a0 a0 (fun z0 => some z0)) (fun i => (((a0.length : Int)) - i).toNat) (fun i => 0 ≤ i ∧ i ≤ (a0.length : Int)) ?_ ?_ ?_
    · rintro i hI
      try simp only [] at hI ⊢
      have : big = 2 ^ 64 := rfl
      have := ga0.1
      omega
    · ((try simp only []); omega)
    · rintro i hI L hL
      try simp only [] at hI
      obtain ⟨i0, i1⟩ := hI
      simp only [laws_eqOpS.l0]
      refine Tm.ite (fun h2 => ?_) (fun h2 => ?_)
      · try simp only [decide_eq_true_eq, decide_eq_false_iff_not, Int.not_lt, Int.not_le, bne_iff_ne, ne_eq, bne_eq_false_iff_eq, beq_iff_eq, beq_eq_false_iff_ne, Bool.not_eq_true', Bool.not_eq_false'] at h2
        refine Tm.atRow (by first | assumption | omega | (simp only [lim, maxLen_eq] at *; omega)) (by first | assumption | omega | (simp only [lim, maxLen_eq] at *; omega)) (fun x3 hx4 hm5 => ?_)
        obtain ⟨c6, c7, c8, c9, c10, c11, c12, rfl, g13, g14, g15, g16, g17, g18, g19, _⟩ := (ga0.2 x3 hm5).open
        refine Tm.uncons ?_
        refine Tm.dInt ?_
        refine Tm.uncons ?_
        refine Tm.dSl ?_
        refine Tm.uncons ?_
        refine Tm.dInt ?_
        refine Tm.uncons ?_
        refine Tm.dStr ?_
        refine Tm.uncons ?_
        refine Tm.dInt ?_
        refine Tm.uncons ?_
        refine Tm.dSl ?_
        refine Tm.uncons ?_
        refine Tm.dSl ?_
        refine Tm.atEnd ?_
        refine Tm.atRow (by first | assumption | omega | (simp only [lim, maxLen_eq] at *; omega)) (by first | assumption | omega | (simp only [lim, maxLen_eq] at *; omega)) (fun x20 hx21 hm22 => ?_)
        rw [hx4] at hx21
        injection hx21 with hx21
        subst hx21
        refine Tm.uncons ?_
        refine Tm.dInt ?_
        refine Tm.uncons ?_
        refine Tm.dSl ?_
        refine Tm.uncons ?_
        refine Tm.dInt ?_
        refine Tm.uncons ?_
        refine Tm.dStr ?_
        refine Tm.uncons ?_
        refine Tm.dInt ?_
        refine Tm.uncons ?_
        refine Tm.dSl ?_
        refine Tm.uncons ?_
        refine Tm.dSl ?_
        refine Tm.atEnd ?_
        refine laws_eqOp.tm (fun i hi => hi.1) (laws_eqOp.T (by first | assumption | omega | (simp only [lim, maxLen_eq] at *; omega)) (by first | assumption | omega | (simp only [lim, maxLen_eq] at *; omega)) (by first | assumption | omega | (simp only [lim, maxLen_eq] at *; omega)) (by first | assumption | omega | (simp only [lim, maxLen_eq] at *; omega)) (by first | assumption | omega | (simp only [lim, maxLen_eq] at *; omega))) (fun y31 hy30 => ?_)
        subst hy30
        refine Tm.ite (fun h32 => ?_) (fun h32 => ?_)
        · try simp only [decide_eq_true_eq, decide_eq_false_iff_not, Int.not_lt, Int.not_le, bne_iff_ne, ne_eq, bne_eq_false_iff_eq, beq_iff_eq, beq_eq_false_iff_ne, Bool.not_eq_true', Bool.not_eq_false'] at h32
          exact Tm.ret (by first | rfl | (exfalso; simp [strEq_self] at *))
        · try simp only [decide_eq_true_eq, decide_eq_false_iff_not, Int.not_lt, Int.not_le, bne_iff_ne, ne_eq, bne_eq_false_iff_eq, beq_iff_eq, beq_eq_false_iff_ne, Bool.not_eq_true', Bool.not_eq_false'] at h32
          try rw [wrap_i64 (x := i + 1) (by omega) (by omega)]
          exact hL _ (by (try simp only []); omega) (by (try simp only []); omega)
      · try simp only [decide_eq_true_eq, decide_eq_false_iff_not, Int.not_lt, Int.not_le, bne_iff_ne, ne_eq, bne_eq_false_iff_eq, beq_iff_eq, beq_eq_false_iff_ne, Bool.not_eq_true', Bool.not_eq_false'] at h2
        exact Tm.ret (by first | rfl | (exfalso; simp [strEq_self] at *))
theorem laws_eqOver.f_of {β : Type} {k : Nat} {a0_0 : ByteArray} {a0_1 : List (List D)} {a1_0 : ByteArray} {a1_1 : List (List D)} {z0 : Bool} (h : laws_eqOver.t k a0_0 a0_1 a1_0 a1_1 = some z0) (K : Bool → Option β) : laws_eqOver.f k a0_0 a0_1 a1_0 a1_1 K = K z0 := by
  unfold laws_eqOver.f
  rw [h]
theorem laws_eqOver.tm {ι α : Type} {ok : ι → Prop} {ψ : α → Prop} {p : ι → Nat} {B : Nat} (hp : ∀ i, ok i → B ≤ p i) {a0_0 : ByteArray} {a0_1 : List (List D)} {a1_0 : ByteArray} {a1_1 : List (List D)} {φ : Bool → Prop} (h : Tm (fun k => B ≤ k) (fun k => laws_eqOver.t k a0_0 a0_1 a1_0 a1_1) φ) {G : ι → Bool → Option α} (hG : ∀ z0, φ z0 → Tm ok (fun i => G i z0) ψ) : Tm ok (fun i => laws_eqOver.f (p i) a0_0 a0_1 a1_0 a1_1 (G i)) ψ := by
  obtain ⟨z0, h1, h2⟩ := h
  exact (hG z0 h1).congr fun i hi => laws_eqOver.f_of (h2 (p i) (hp i hi)) _
theorem laws_eqOver.T {B : Nat} {a0_0 : ByteArray} {a0_1 : List (List D)} (ga0_0 : a0_0.size ≤ B) (ga0_1 : SlOk RILSEISILSELISILSELXEE B a0_1) (hB : B ≤ 1099511627776) : Tm (FuelN 1) (fun k => laws_eqOver.t k a0_0 a0_1 a0_0 a0_1) (fun r => r = true) := by
  unfold laws_eqOver.t laws_eqOver.g
  have hm := maxLen_eq
  have hlim : lim = 1048576 := rfl
  refine Tm.ite (fun h1 => ?_) (fun h1 => ?_)
  · try simp only [decide_eq_true_eq, decide_eq_false_iff_not, Int.not_lt, Int.not_le, bne_iff_ne, ne_eq, bne_eq_false_iff_eq, beq_iff_eq, beq_eq_false_iff_ne, Bool.not_eq_true', Bool.not_eq_false'] at h1
    exact Tm.ret (by first | rfl | (exfalso; simp [strEq_self] at *))
  · try simp only [decide_eq_true_eq, decide_eq_false_iff_not, Int.not_lt, Int.not_le, bne_iff_ne, ne_eq, bne_eq_false_iff_eq, beq_iff_eq, beq_eq_false_iff_ne, Bool.not_eq_true', Bool.not_eq_false'] at h1
    refine laws_eqOpS.tm (fun i hi => hi) (laws_eqOpS.T (by first | assumption | omega | (simp only [lim, maxLen_eq] at *; omega)) (by first | assumption | omega | (simp only [lim, maxLen_eq] at *; omega))) (fun y3 hy2 => ?_)
    subst hy2
    refine Tm.ite (fun h4 => ?_) (fun h4 => ?_)
    · try simp only [decide_eq_true_eq, decide_eq_false_iff_not, Int.not_lt, Int.not_le, bne_iff_ne, ne_eq, bne_eq_false_iff_eq, beq_iff_eq, beq_eq_false_iff_ne, Bool.not_eq_true', Bool.not_eq_false'] at h4
      exact Tm.ret (by first | rfl | (exfalso; simp [strEq_self] at *))
    · try simp only [decide_eq_true_eq, decide_eq_false_iff_not, Int.not_lt, Int.not_le, bne_iff_ne, ne_eq, bne_eq_false_iff_eq, beq_iff_eq, beq_eq_false_iff_ne, Bool.not_eq_true', Bool.not_eq_false'] at h4
      exact Tm.ret (by first | rfl | (exfalso; simp [strEq_self] at *))
theorem laws_eqOverS.f_of {β : Type} {k : Nat} {a0 : List (List D)} {a1 : List (List D)} {z0 : Bool} (h : laws_eqOverS.t k a0 a1 = some z0) (K : Bool → Option β) : laws_eqOverS.f k a0 a1 K = K z0 := by
  unfold laws_eqOverS.f
  rw [h]
theorem laws_eqOverS.tm {ι α : Type} {ok : ι → Prop} {ψ : α → Prop} {p : ι → Nat} {B : Nat} (hp : ∀ i, ok i → B ≤ p i) {a0 : List (List D)} {a1 : List (List D)} {φ : Bool → Prop} (h : Tm (fun k => B ≤ k) (fun k => laws_eqOverS.t k a0 a1) φ) {G : ι → Bool → Option α} (hG : ∀ z0, φ z0 → Tm ok (fun i => G i z0) ψ) : Tm ok (fun i => laws_eqOverS.f (p i) a0 a1 (G i)) ψ := by
  obtain ⟨z0, h1, h2⟩ := h
  exact (hG z0 h1).congr fun i hi => laws_eqOverS.f_of (h2 (p i) (hp i hi)) _
def RSLILSEISILSELISILSELXEEE (B : Nat) (r : List D) : Prop := ∃ (c0 : ByteArray) (c1 : List (List D)), r = [.str c0, .sl c1] ∧ c0.size ≤ B ∧ SlOk RILSEISILSELISILSELXEE B c1 ∧ True
theorem RSLILSEISILSELISILSELXEEE.open {B : Nat} {r : List D} (h : RSLILSEISILSELISILSELXEEE B r) : ∃ (c0 : ByteArray) (c1 : List (List D)), r = [.str c0, .sl c1] ∧ c0.size ≤ B ∧ SlOk RILSEISILSELISILSELXEE B c1 ∧ True := h
theorem RSLILSEISILSELISILSELXEEE.mono {B B' : Nat} (hb : B ≤ B') {r : List D} (h : RSLILSEISILSELISILSELXEEE B r) : RSLILSEISILSELISILSELXEEE B' r := by
  obtain ⟨c0, c1, rfl, k0, k1, _⟩ := h
  exact ⟨_, _, rfl, (Nat.le_trans k0 hb), ⟨Nat.le_trans k1.1 hb, fun r hr => (k1.2 r hr).mono hb⟩, trivial⟩
theorem RSLILSEISILSELISILSELXEEE.wide {xs : List (List D)} (h : SlOk RSLILSEISILSELISILSELXEEE lim xs) : SlOk RSLILSEISILSELISILSELXEEE 2097152 xs := ⟨Nat.le_trans h.1 (by decide), fun r hr => (h.2 r hr).mono (by decide)⟩
theorem RSLILSEISILSELISILSELXEEE.len {B : Nat} {r : List D} (h : RSLILSEISILSELISILSELXEEE B r) : r.length = 2 := by
  obtain ⟨c0, c1, rfl, _⟩ := h.open
  rfl
theorem RSLILSEISILSELISILSELXEEE.gets {B : Nat} {xs : List (List D)} (h : ∀ r ∈ xs, RSLILSEISILSELISILSELXEEE B r) {v : Int} (h0 : 0 ≤ v) (h1 : v < xs.length) : gR xs v = [.str (gS xs v 0), .sl (gL xs v 1)] ∧ (gS xs v 0).size ≤ B ∧ SlOk RILSEISILSELISILSELXEE B (gL xs v 1) ∧ True := by
  obtain ⟨c0, c1, e, k0, k1, _⟩ := (h (gR xs v) (gR_mem h0 h1)).open
  unfold gL gS
  rw [e]
  exact ⟨rfl, k0, k1, trivial⟩
theorem RSLILSEISILSELISILSELXEEE.rows {B : Nat} {xs : List (List D)} (h : ∀ r ∈ xs, RSLILSEISILSELISILSELXEEE B r) {v : Int} (h0 : 0 ≤ v) (h1 : v < xs.length) {β : Type} (F : List D → Option β) : atRow xs v F = F [.str (gS xs v 0), .sl (gL xs v 1)] := by
  rw [← (RSLILSEISILSELISILSELXEEE.gets h h0 h1).1]
  exact atRow_gR h0 h1 F
theorem RSLILSEISILSELISILSELXEEE.get {B : Nat} {xs : List (List D)} (h : SlOk RSLILSEISILSELISILSELXEEE B xs) {v : Int} (h0 : 0 ≤ v) (h1 : v < xs.length) : gR xs v = [.str (gS xs v 0), .sl (gL xs v 1)] ∧ (gS xs v 0).size ≤ B ∧ SlOk RILSEISILSELISILSELXEE B (gL xs v 1) ∧ True := RSLILSEISILSELISILSELXEEE.gets h.2 h0 h1
theorem RSLILSEISILSELISILSELXEEE.row {B : Nat} {xs : List (List D)} (h : SlOk RSLILSEISILSELISILSELXEEE B xs) {v : Int} (h0 : 0 ≤ v) (h1 : v < xs.length) {β : Type} (F : List D → Option β) : atRow xs v F = F [.str (gS xs v 0), .sl (gL xs v 1)] := RSLILSEISILSELISILSELXEEE.rows h.2 h0 h1 F
theorem laws_eqOverS.T {B : Nat} {a0 : List (List D)} (ga0 : SlOk RSLILSEISILSELISILSELXEEE B a0) (hB : B ≤ 1099511627776) : Tm (FuelN 1) (fun k => laws_eqOverS.t k a0 a0) (fun r => r = true) := by
  unfold laws_eqOverS.t laws_eqOverS.g
  have hm := maxLen_eq
  have hlim : lim = 1048576 := rfl
  have hlen := ga0.1
  refine Tm.ite (fun h1 => ?_) (fun h1 => ?_)
  · try simp only [decide_eq_true_eq, decide_eq_false_iff_not, Int.not_lt, Int.not_le, bne_iff_ne, ne_eq, bne_eq_false_iff_eq, beq_iff_eq, beq_eq_false_iff_ne, Bool.not_eq_true', Bool.not_eq_false'] at h1
    exact Tm.ret (by first | rfl | (exfalso; simp [strEq_self] at *))
  · try simp only [decide_eq_true_eq, decide_eq_false_iff_not, Int.not_lt, Int.not_le, bne_iff_ne, ne_eq, bne_eq_false_iff_eq, beq_iff_eq, beq_eq_false_iff_ne, Bool.not_eq_true', Bool.not_eq_false'] at h1
    refine Tm.loop (okk := (FuelN 1)) (p := fun k => k) (fun i hi => up0 hi) (b := fun k => laws_eqOverS.l0 k a0 a0 (fun z0 => some z0)) (fun i => (((a0.length : Int)) - i).toNat) (fun i => 0 ≤ i ∧ i ≤ (a0.length : Int)) ?_ ?_ ?_
    · rintro i hI
      try simp only [] at hI ⊢
      have : big = 2 ^ 64 := rfl
      have := ga0.1
      omega
    · ((try simp only []); omega)
    · rintro i hI L hL
      try simp only [] at hI
      obtain ⟨i0, i1⟩ := hI
      simp only [laws_eqOverS.l0]
      refine Tm.ite (fun h2 => ?_) (fun h2 => ?_)
      · try simp only [decide_eq_true_eq, decide_eq_false_iff_not, Int.not_lt, Int.not_le, bne_iff_ne, ne_eq, bne_eq_false_iff_eq, beq_iff_eq, beq_eq_false_iff_ne, Bool.not_eq_true', Bool.not_eq_false'] at h2
        refine Tm.atRow (by first | assumption | omega | (simp only [lim, maxLen_eq] at *; omega)) (by first | assumption | omega | (simp only [lim, maxLen_eq] at *; omega)) (fun x3 hx4 hm5 => ?_)
        obtain ⟨c6, c7, rfl, g8, g9, _⟩ := (ga0.2 x3 hm5).open
        refine Tm.uncons ?_
        refine Tm.dStr ?_
        refine Tm.uncons ?_
        refine Tm.dSl ?_
        refine Tm.atEnd ?_
        refine Tm.atRow (by first | assumption | omega | (simp only [lim, maxLen_eq] at *; omega)) (by first | assumption | omega | (simp only [lim, maxLen_eq] at *; omega)) (fun x10 hx11 hm12 => ?_)
        rw [hx4] at hx11
        injection hx11 with hx11
        subst hx11
        refine Tm.uncons ?_
        refine Tm.dStr ?_
        refine Tm.uncons ?_
        refine Tm.dSl ?_
        refine Tm.atEnd ?_
        refine laws_eqOver.tm (fun i hi => hi.1) (laws_eqOver.T (by first | assumption | omega | (simp only [lim, maxLen_eq] at *; omega)) (by first | assumption | omega | (simp only [lim, maxLen_eq] at *; omega)) (by first | assumption | omega | (simp only [lim, maxLen_eq] at *; omega))) (fun y16 hy15 => ?_)
        subst hy15
        refine Tm.ite (fun h17 => ?_) (fun h17 => ?_)
        · try simp only [decide_eq_true_eq, decide_eq_false_iff_not, Int.not_lt, Int.not_le, bne_iff_ne, ne_eq, bne_eq_false_iff_eq, beq_iff_eq, beq_eq_false_iff_ne, Bool.not_eq_true', Bool.not_eq_false'] at h17
          exact Tm.ret (by first | rfl | (exfalso; simp [strEq_self] at *))
        · try simp only [decide_eq_true_eq, decide_eq_false_iff_not, Int.not_lt, Int.not_le, bne_iff_ne, ne_eq, bne_eq_false_iff_eq, beq_iff_eq, beq_eq_false_iff_ne, Bool.not_eq_true', Bool.not_eq_false'] at h17
          try rw [wrap_i64 (x := i + 1) (by omega) (by omega)]
          exact hL _ (by (try simp only []); omega) (by (try simp only []); omega)
      · try simp only [decide_eq_true_eq, decide_eq_false_iff_not, Int.not_lt, Int.not_le, bne_iff_ne, ne_eq, bne_eq_false_iff_eq, beq_iff_eq, beq_eq_false_iff_ne, Bool.not_eq_true', Bool.not_eq_false'] at h2
        exact Tm.ret (by first | rfl | (exfalso; simp [strEq_self] at *))
theorem laws_eqJob.f_of {β : Type} {k : Nat} {a0_0 : Int} {a0_1 : ByteArray} {a0_2 : Int} {a0_3 : List (List D)} {a0_4 : List (List D)} {a0_5 : List (List D)} {a0_6 : Int} {a0_7 : ByteArray} {a0_8 : Int} {a0_9 : List (List D)} {a0_10 : List (List D)} {a0_11 : List (List D)} {a0_12 : Bool} {a1_0 : Int} {a1_1 : ByteArray} {a1_2 : Int} {a1_3 : List (List D)} {a1_4 : List (List D)} {a1_5 : List (List D)} {a1_6 : Int} {a1_7 : ByteArray} {a1_8 : Int} {a1_9 : List (List D)} {a1_10 : List (List D)} {a1_11 : List (List D)} {a1_12 : Bool} {z0 : Bool} (h : laws_eqJob.t k a0_0 a0_1 a0_2 a0_3 a0_4 a0_5 a0_6 a0_7 a0_8 a0_9 a0_10 a0_11 a0_12 a1_0 a1_1 a1_2 a1_3 a1_4 a1_5 a1_6 a1_7 a1_8 a1_9 a1_10 a1_11 a1_12 = some z0) (K : Bool → Option β) : laws_eqJob.f k a0_0 a0_1 a0_2 a0_3 a0_4 a0_5 a0_6 a0_7 a0_8 a0_9 a0_10 a0_11 a0_12 a1_0 a1_1 a1_2 a1_3 a1_4 a1_5 a1_6 a1_7 a1_8 a1_9 a1_10 a1_11 a1_12 K = K z0 := by
  unfold laws_eqJob.f
  rw [h]
theorem laws_eqJob.tm {ι α : Type} {ok : ι → Prop} {ψ : α → Prop} {p : ι → Nat} {B : Nat} (hp : ∀ i, ok i → B ≤ p i) {a0_0 : Int} {a0_1 : ByteArray} {a0_2 : Int} {a0_3 : List (List D)} {a0_4 : List (List D)} {a0_5 : List (List D)} {a0_6 : Int} {a0_7 : ByteArray} {a0_8 : Int} {a0_9 : List (List D)} {a0_10 : List (List D)} {a0_11 : List (List D)} {a0_12 : Bool} {a1_0 : Int} {a1_1 : ByteArray} {a1_2 : Int} {a1_3 : List (List D)} {a1_4 : List (List D)} {a1_5 : List (List D)} {a1_6 : Int} {a1_7 : ByteArray} {a1_8 : Int} {a1_9 : List (List D)} {a1_10 : List (List D)} {a1_11 : List (List D)} {a1_12 : Bool} {φ : Bool → Prop} (h : Tm (fun k => B ≤ k) (fun k => laws_eqJob.t k a0_0 a0_1 a0_2 a0_3 a0_4 a0_5 a0_6 a0_7 a0_8 a0_9 a0_10 a0_11 a0_12 a1_0 a1_1 a1_2 a1_3 a1_4 a1_5 a1_6 a1_7 a1_8 a1_9 a1_10 a1_11 a1_12) φ) {G : ι → Bool → Option α} (hG : ∀ z0, φ z0 → Tm ok (fun i => G i z0) ψ) : Tm ok (fun i => laws_eqJob.f (p i) a0_0 a0_1 a0_2 a0_3 a0_4 a0_5 a0_6 a0_7 a0_8 a0_9 a0_10 a0_11 a0_12 a1_0 a1_1 a1_2 a1_3 a1_4 a1_5 a1_6 a1_7 a1_8 a1_9 a1_10 a1_11 a1_12 (G i)) ψ := by
  obtain ⟨z0, h1, h2⟩ := h
  exact (hG z0 h1).congr fun i hi => laws_eqJob.f_of (h2 (p i) (hp i hi)) _
theorem laws_eqJob.T {B : Nat} {a0_0 : Int} {a0_1 : ByteArray} {a0_2 : Int} {a0_3 : List (List D)} {a0_4 : List (List D)} {a0_5 : List (List D)} {a0_6 : Int} {a0_7 : ByteArray} {a0_8 : Int} {a0_9 : List (List D)} {a0_10 : List (List D)} {a0_11 : List (List D)} {a0_12 : Bool} (ga0_1 : a0_1.size ≤ B) (ga0_3 : SlOk RISLSE B a0_3) (ga0_4 : SlOk RS B a0_4) (ga0_5 : SlOk RSI B a0_5) (ga0_7 : a0_7.size ≤ B) (ga0_9 : SlOk RS B a0_9) (ga0_10 : SlOk RISILSELXE B a0_10) (ga0_11 : SlOk RSLILSEISILSELISILSELXEEE B a0_11) (hB : B ≤ 1099511627776) : Tm (FuelN 1) (fun k => laws_eqJob.t k a0_0 a0_1 a0_2 a0_3 a0_4 a0_5 a0_6 a0_7 a0_8 a0_9 a0_10 a0_11 a0_12 a0_0 a0_1 a0_2 a0_3 a0_4 a0_5 a0_6 a0_7 a0_8 a0_9 a0_10 a0_11 a0_12) (fun r => r = true) := by
  unfold laws_eqJob.t laws_eqJob.g
  have hm := maxLen_eq
  have hlim : lim = 1048576 := rfl
  refine Tm.ite (fun h1 => ?_) (fun h1 => ?_)
  · try simp only [decide_eq_true_eq, decide_eq_false_iff_not, Int.not_lt, Int.not_le, bne_iff_ne, ne_eq, bne_eq_false_iff_eq, beq_iff_eq, beq_eq_false_iff_ne, Bool.not_eq_true', Bool.not_eq_false'] at h1
    exact Tm.ret (by first | rfl | (exfalso; simp [strEq_self] at *))
  · try simp only [decide_eq_true_eq, decide_eq_false_iff_not, Int.not_lt, Int.not_le, bne_iff_ne, ne_eq, bne_eq_false_iff_eq, beq_iff_eq, beq_eq_false_iff_ne, Bool.not_eq_true', Bool.not_eq_false'] at h1
    refine Tm.ite (fun h2 => ?_) (fun h2 => ?_)
    · try simp only [decide_eq_true_eq, decide_eq_false_iff_not, Int.not_lt, Int.not_le, bne_iff_ne, ne_eq, bne_eq_false_iff_eq, beq_iff_eq, beq_eq_false_iff_ne, Bool.not_eq_true', Bool.not_eq_false'] at h2
      exact Tm.ret (by first | rfl | (exfalso; simp [strEq_self] at *))
    · try simp only [decide_eq_true_eq, decide_eq_false_iff_not, Int.not_lt, Int.not_le, bne_iff_ne, ne_eq, bne_eq_false_iff_eq, beq_iff_eq, beq_eq_false_iff_ne, Bool.not_eq_true', Bool.not_eq_false'] at h2
      refine laws_eqWant.tm (fun i hi => up0 hi) (laws_eqWant.T (by first | assumption | omega | (simp only [lim, maxLen_eq] at *; omega)) (by first | assumption | omega | (simp only [lim, maxLen_eq] at *; omega)) (by first | assumption | omega | (simp only [lim, maxLen_eq] at *; omega)) (by first | assumption | omega | (simp only [lim, maxLen_eq] at *; omega))) (fun y4 hy3 => ?_)
      subst hy3
      refine Tm.ite (fun h5 => ?_) (fun h5 => ?_)
      · try simp only [decide_eq_true_eq, decide_eq_false_iff_not, Int.not_lt, Int.not_le, bne_iff_ne, ne_eq, bne_eq_false_iff_eq, beq_iff_eq, beq_eq_false_iff_ne, Bool.not_eq_true', Bool.not_eq_false'] at h5
        exact Tm.ret (by first | rfl | (exfalso; simp [strEq_self] at *))
      · try simp only [decide_eq_true_eq, decide_eq_false_iff_not, Int.not_lt, Int.not_le, bne_iff_ne, ne_eq, bne_eq_false_iff_eq, beq_iff_eq, beq_eq_false_iff_ne, Bool.not_eq_true', Bool.not_eq_false'] at h5
        refine laws_eqValue.tm (fun i hi => hi) (laws_eqValue.T (by first | assumption | omega | (simp only [lim, maxLen_eq] at *; omega)) (by first | assumption | omega | (simp only [lim, maxLen_eq] at *; omega)) (by first | assumption | omega | (simp only [lim, maxLen_eq] at *; omega)) (by first | assumption | omega | (simp only [lim, maxLen_eq] at *; omega))) (fun y7 hy6 => ?_)
        subst hy6
        refine Tm.ite (fun h8 => ?_) (fun h8 => ?_)
        · try simp only [decide_eq_true_eq, decide_eq_false_iff_not, Int.not_lt, Int.not_le, bne_iff_ne, ne_eq, bne_eq_false_iff_eq, beq_iff_eq, beq_eq_false_iff_ne, Bool.not_eq_true', Bool.not_eq_false'] at h8
          exact Tm.ret (by first | rfl | (exfalso; simp [strEq_self] at *))
        · try simp only [decide_eq_true_eq, decide_eq_false_iff_not, Int.not_lt, Int.not_le, bne_iff_ne, ne_eq, bne_eq_false_iff_eq, beq_iff_eq, beq_eq_false_iff_ne, Bool.not_eq_true', Bool.not_eq_false'] at h8
          refine laws_eqOverS.tm (fun i hi => hi) (laws_eqOverS.T (by first | assumption | omega | (simp only [lim, maxLen_eq] at *; omega)) (by first | assumption | omega | (simp only [lim, maxLen_eq] at *; omega))) (fun y10 hy9 => ?_)
          subst hy9
          refine Tm.ite (fun h11 => ?_) (fun h11 => ?_)
          · try simp only [decide_eq_true_eq, decide_eq_false_iff_not, Int.not_lt, Int.not_le, bne_iff_ne, ne_eq, bne_eq_false_iff_eq, beq_iff_eq, beq_eq_false_iff_ne, Bool.not_eq_true', Bool.not_eq_false'] at h11
            exact Tm.ret (by first | rfl | (exfalso; simp [strEq_self] at *))
          · try simp only [decide_eq_true_eq, decide_eq_false_iff_not, Int.not_lt, Int.not_le, bne_iff_ne, ne_eq, bne_eq_false_iff_eq, beq_iff_eq, beq_eq_false_iff_ne, Bool.not_eq_true', Bool.not_eq_false'] at h11
            refine Tm.ite (fun h12 => ?_) (fun h12 => ?_)
            · try simp only [decide_eq_true_eq, decide_eq_false_iff_not, Int.not_lt, Int.not_le, bne_iff_ne, ne_eq, bne_eq_false_iff_eq, beq_iff_eq, beq_eq_false_iff_ne, Bool.not_eq_true', Bool.not_eq_false'] at h12
              exact Tm.ret (by first | rfl | (exfalso; simp [strEq_self] at *))
            · try simp only [decide_eq_true_eq, decide_eq_false_iff_not, Int.not_lt, Int.not_le, bne_iff_ne, ne_eq, bne_eq_false_iff_eq, beq_iff_eq, beq_eq_false_iff_ne, Bool.not_eq_true', Bool.not_eq_false'] at h12
              exact Tm.ret (by first | rfl | (exfalso; simp [strEq_self] at *))
theorem laws_eqJobS.f_of {β : Type} {k : Nat} {a0 : List (List D)} {a1 : List (List D)} {z0 : Bool} (h : laws_eqJobS.t k a0 a1 = some z0) (K : Bool → Option β) : laws_eqJobS.f k a0 a1 K = K z0 := by
  unfold laws_eqJobS.f
  rw [h]
theorem laws_eqJobS.tm {ι α : Type} {ok : ι → Prop} {ψ : α → Prop} {p : ι → Nat} {B : Nat} (hp : ∀ i, ok i → B ≤ p i) {a0 : List (List D)} {a1 : List (List D)} {φ : Bool → Prop} (h : Tm (fun k => B ≤ k) (fun k => laws_eqJobS.t k a0 a1) φ) {G : ι → Bool → Option α} (hG : ∀ z0, φ z0 → Tm ok (fun i => G i z0) ψ) : Tm ok (fun i => laws_eqJobS.f (p i) a0 a1 (G i)) ψ := by
  obtain ⟨z0, h1, h2⟩ := h
  exact (hG z0 h1).congr fun i hi => laws_eqJobS.f_of (h2 (p i) (hp i hi)) _
def RISILISLSEELSELSIEISILSELISILSELXEELSLILSEISILSELISILSELXEEEEB (B : Nat) (r : List D) : Prop := ∃ (c0 : Int) (c1 : ByteArray) (c2 : Int) (c3 : List (List D)) (c4 : List (List D)) (c5 : List (List D)) (c6 : Int) (c7 : ByteArray) (c8 : Int) (c9 : List (List D)) (c10 : List (List D)) (c11 : List (List D)) (c12 : Bool), r = [.int .i64 c0, .str c1, .int .i64 c2, .sl c3, .sl c4, .sl c5, .int .i64 c6, .str c7, .int .i64 c8, .sl c9, .sl c10, .sl c11, .bool c12] ∧ (Lit.int .i64 c0).wf = true ∧ c1.size ≤ B ∧ (Lit.int .i64 c2).wf = true ∧ SlOk RISLSE B c3 ∧ SlOk RS B c4 ∧ SlOk RSI B c5 ∧ (Lit.int .i64 c6).wf = true ∧ c7.size ≤ B ∧ (Lit.int .i64 c8).wf = true ∧ SlOk RS B c9 ∧ SlOk RISILSELXE B c10 ∧ SlOk RSLILSEISILSELISILSELXEEE B c11 ∧ True
theorem RISILISLSEELSELSIEISILSELISILSELXEELSLILSEISILSELISILSELXEEEEB.open {B : Nat} {r : List D} (h : RISILISLSEELSELSIEISILSELISILSELXEELSLILSEISILSELISILSELXEEEEB B r) : ∃ (c0 : Int) (c1 : ByteArray) (c2 : Int) (c3 : List (List D)) (c4 : List (List D)) (c5 : List (List D)) (c6 : Int) (c7 : ByteArray) (c8 : Int) (c9 : List (List D)) (c10 : List (List D)) (c11 : List (List D)) (c12 : Bool), r = [.int .i64 c0, .str c1, .int .i64 c2, .sl c3, .sl c4, .sl c5, .int .i64 c6, .str c7, .int .i64 c8, .sl c9, .sl c10, .sl c11, .bool c12] ∧ (Lit.int .i64 c0).wf = true ∧ c1.size ≤ B ∧ (Lit.int .i64 c2).wf = true ∧ SlOk RISLSE B c3 ∧ SlOk RS B c4 ∧ SlOk RSI B c5 ∧ (Lit.int .i64 c6).wf = true ∧ c7.size ≤ B ∧ (Lit.int .i64 c8).wf = true ∧ SlOk RS B c9 ∧ SlOk RISILSELXE B c10 ∧ SlOk RSLILSEISILSELISILSELXEEE B c11 ∧ True := h
theorem RISILISLSEELSELSIEISILSELISILSELXEELSLILSEISILSELISILSELXEEEEB.mono {B B' : Nat} (hb : B ≤ B') {r : List D} (h : RISILISLSEELSELSIEISILSELISILSELXEELSLILSEISILSELISILSELXEEEEB B r) : RISILISLSEELSELSIEISILSELISILSELXEELSLILSEISILSELISILSELXEEEEB B' r := by
  obtain ⟨c0, c1, c2, c3, c4, c5, c6, c7, c8, c9, c10, c11, c12, rfl, k0, k1, k2, k3, k4, k5, k6, k7, k8, k9, k10, k11, _⟩ := h
  exact ⟨_, _, _, _, _, _, _, _, _, _, _, _, _, rfl, k0, (Nat.le_trans k1 hb), k2, ⟨Nat.le_trans k3.1 hb, fun r hr => (k3.2 r hr).mono hb⟩, ⟨Nat.le_trans k4.1 hb, fun r hr => (k4.2 r hr).mono hb⟩, ⟨Nat.le_trans k5.1 hb, fun r hr => (k5.2 r hr).mono hb⟩, k6, (Nat.le_trans k7 hb), k8, ⟨Nat.le_trans k9.1 hb, fun r hr => (k9.2 r hr).mono hb⟩, ⟨Nat.le_trans k10.1 hb, fun r hr => (k10.2 r hr).mono hb⟩, ⟨Nat.le_trans k11.1 hb, fun r hr => (k11.2 r hr).mono hb⟩, trivial⟩
theorem RISILISLSEELSELSIEISILSELISILSELXEELSLILSEISILSELISILSELXEEEEB.wide {xs : List (List D)} (h : SlOk RISILISLSEELSELSIEISILSELISILSELXEELSLILSEISILSELISILSELXEEEEB lim xs) : SlOk RISILISLSEELSELSIEISILSELISILSELXEELSLILSEISILSELISILSELXEEEEB 2097152 xs := ⟨Nat.le_trans h.1 (by decide), fun r hr => (h.2 r hr).mono (by decide)⟩
theorem RISILISLSEELSELSIEISILSELISILSELXEELSLILSEISILSELISILSELXEEEEB.len {B : Nat} {r : List D} (h : RISILISLSEELSELSIEISILSELISILSELXEELSLILSEISILSELISILSELXEEEEB B r) : r.length = 13 := by
  obtain ⟨c0, c1, c2, c3, c4, c5, c6, c7, c8, c9, c10, c11, c12, rfl, _⟩ := h.open
  rfl
theorem RISILISLSEELSELSIEISILSELISILSELXEELSLILSEISILSELISILSELXEEEEB.gets {B : Nat} {xs : List (List D)} (h : ∀ r ∈ xs, RISILISLSEELSELSIEISILSELISILSELXEELSLILSEISILSELISILSELXEEEEB B r) {v : Int} (h0 : 0 ≤ v) (h1 : v < xs.length) : gR xs v = [.int .i64 (gI xs v 0), .str (gS xs v 1), .int .i64 (gI xs v 2), .sl (gL xs v 3), .sl (gL xs v 4), .sl (gL xs v 5), .int .i64 (gI xs v 6), .str (gS xs v 7), .int .i64 (gI xs v 8), .sl (gL xs v 9), .sl (gL xs v 10), .sl (gL xs v 11), .bool (gB xs v 12)] ∧ (Lit.int .i64 (gI xs v 0)).wf = true ∧ (gS xs v 1).size ≤ B ∧ (Lit.int .i64 (gI xs v 2)).wf = true ∧ SlOk RISLSE B (gL xs v 3) ∧ SlOk RS B (gL xs v 4) ∧ SlOk RSI B (gL xs v 5) ∧ (Lit.int .i64 (gI xs v 6)).wf = true ∧ (gS xs v 7).size ≤ B ∧ (Lit.int .i64 (gI xs v 8)).wf = true ∧ SlOk RS B (gL xs v 9) ∧ SlOk RISILSELXE B (gL xs v 10) ∧ SlOk RSLILSEISILSELISILSELXEEE B (gL xs v 11) ∧ True := by
  obtain ⟨c0, c1, c2, c3, c4, c5, c6, c7, c8, c9, c10, c11, c12, e, k0, k1, k2, k3, k4, k5, k6, k7, k8, k9, k10, k11, _⟩ := (h (gR xs v) (gR_mem h0 h1)).open
  unfold gB gI gL gS
  rw [e]
  exact ⟨rfl, k0, k1, k2, k3, k4, k5, k6, k7, k8, k9, k10, k11, trivial⟩
theorem RISILISLSEELSELSIEISILSELISILSELXEELSLILSEISILSELISILSELXEEEEB.rows {B : Nat} {xs : List (List D)} (h : ∀ r ∈ xs, RISILISLSEELSELSIEISILSELISILSELXEELSLILSEISILSELISILSELXEEEEB B r) {v : Int} (h0 : 0 ≤ v) (h1 : v < xs.length) {β : Type} (F : List D → Option β) : atRow xs v F = F [.int .i64 (gI xs v 0), .str (gS xs v 1), .int .i64 (gI xs v 2), .sl (gL xs v 3), .sl (gL xs v 4), .sl (gL xs v 5), .int .i64 (gI xs v 6), .str (gS xs v 7), .int .i64 (gI xs v 8), .sl (gL xs v 9), .sl (gL xs v 10), .sl (gL xs v 11), .bool (gB xs v 12)] := by
  rw [← (RISILISLSEELSELSIEISILSELISILSELXEELSLILSEISILSELISILSELXEEEEB.gets h h0 h1).1]
  exact atRow_gR h0 h1 F
theorem RISILISLSEELSELSIEISILSELISILSELXEELSLILSEISILSELISILSELXEEEEB.get {B : Nat} {xs : List (List D)} (h : SlOk RISILISLSEELSELSIEISILSELISILSELXEELSLILSEISILSELISILSELXEEEEB B xs) {v : Int} (h0 : 0 ≤ v) (h1 : v < xs.length) : gR xs v = [.int .i64 (gI xs v 0), .str (gS xs v 1), .int .i64 (gI xs v 2), .sl (gL xs v 3), .sl (gL xs v 4), .sl (gL xs v 5), .int .i64 (gI xs v 6), .str (gS xs v 7), .int .i64 (gI xs v 8), .sl (gL xs v 9), .sl (gL xs v 10), .sl (gL xs v 11), .bool (gB xs v 12)] ∧ (Lit.int .i64 (gI xs v 0)).wf = true ∧ (gS xs v 1).size ≤ B ∧ (Lit.int .i64 (gI xs v 2)).wf = true ∧ SlOk RISLSE B (gL xs v 3) ∧ SlOk RS B (gL xs v 4) ∧ SlOk RSI B (gL xs v 5) ∧ (Lit.int .i64 (gI xs v 6)).wf = true ∧ (gS xs v 7).size ≤ B ∧ (Lit.int .i64 (gI xs v 8)).wf = true ∧ SlOk RS B (gL xs v 9) ∧ SlOk RISILSELXE B (gL xs v 10) ∧ SlOk RSLILSEISILSELISILSELXEEE B (gL xs v 11) ∧ True := RISILISLSEELSELSIEISILSELISILSELXEELSLILSEISILSELISILSELXEEEEB.gets h.2 h0 h1
theorem RISILISLSEELSELSIEISILSELISILSELXEELSLILSEISILSELISILSELXEEEEB.row {B : Nat} {xs : List (List D)} (h : SlOk RISILISLSEELSELSIEISILSELISILSELXEELSLILSEISILSELISILSELXEEEEB B xs) {v : Int} (h0 : 0 ≤ v) (h1 : v < xs.length) {β : Type} (F : List D → Option β) : atRow xs v F = F [.int .i64 (gI xs v 0), .str (gS xs v 1), .int .i64 (gI xs v 2), .sl (gL xs v 3), .sl (gL xs v 4), .sl (gL xs v 5), .int .i64 (gI xs v 6), .str (gS xs v 7), .int .i64 (gI xs v 8), .sl (gL xs v 9), .sl (gL xs v 10), .sl (gL xs v 11), .bool (gB xs v 12)] := RISILISLSEELSELSIEISILSELISILSELXEELSLILSEISILSELISILSELXEEEEB.rows h.2 h0 h1 F
theorem laws_eqJobS.T {B : Nat} {a0 : List (List D)} (ga0 : SlOk RISILISLSEELSELSIEISILSELISILSELXEELSLILSEISILSELISILSELXEEEEB B a0) (hB : B ≤ 1099511627776) : Tm (FuelN 1) (fun k => laws_eqJobS.t k a0 a0) (fun r => r = true) := by
  unfold laws_eqJobS.t laws_eqJobS.g
  have hm := maxLen_eq
  have hlim : lim = 1048576 := rfl
  have hlen := ga0.1
  refine Tm.ite (fun h1 => ?_) (fun h1 => ?_)
  · try simp only [decide_eq_true_eq, decide_eq_false_iff_not, Int.not_lt, Int.not_le, bne_iff_ne, ne_eq, bne_eq_false_iff_eq, beq_iff_eq, beq_eq_false_iff_ne, Bool.not_eq_true', Bool.not_eq_false'] at h1
    exact Tm.ret (by first | rfl | (exfalso; simp [strEq_self] at *))
  · try simp only [decide_eq_true_eq, decide_eq_false_iff_not, Int.not_lt, Int.not_le, bne_iff_ne, ne_eq, bne_eq_false_iff_eq, beq_iff_eq, beq_eq_false_iff_ne, Bool.not_eq_true', Bool.not_eq_false'] at h1
    refine Tm.loop (okk := (FuelN 1)) (p := fun k => k) (fun i hi => up0 hi) (b := fun k => laws_eqJobS.l0 k a0 a0 (fun z0 => some z0)) (fun i => (((a0.length : Int)) - i).toNat) (fun i => 0 ≤ i ∧ i ≤ (a0.length : Int)) ?_ ?_ ?_
    · rintro i hI
      try simp only [] at hI ⊢
      have : big = 2 ^ 64 := rfl
      have := ga0.1
      omega
    · ((try simp only []); omega)
    · rintro i hI L hL
      try simp only [] at hI
      obtain ⟨i0, i1⟩ := hI
      simp only [laws_eqJobS.l0]
      refine Tm.ite (fun h2 => ?_) (fun h2 => ?_)
      · try simp only [decide_eq_true_eq, decide_eq_false_iff_not, Int.not_lt, Int.not_le, bne_iff_ne, ne_eq, bne_eq_false_iff_eq, beq_iff_eq, beq_eq_false_iff_ne, Bool.not_eq_true', Bool.not_eq_false'] at h2
        refine Tm.atRow (by first | assumption | omega | (simp only [lim, maxLen_eq] at *; omega)) (by first | assumption | omega | (simp only [lim, maxLen_eq] at *; omega)) (fun x3 hx4 hm5 => ?_)
        obtain ⟨c6, c7, c8, c9, c10, c11, c12, c13, c14, c15, c16, c17, c18, rfl, g19, g20, g21, g22, g23, g24, g25, g26, g27, g28, g29, g30, _⟩ := (ga0.2 x3 hm5).open
        refine Tm.uncons ?_
        refine Tm.dInt ?_
        refine Tm.uncons ?_
        refine Tm.dStr ?_
        refine Tm.uncons ?_
        refine Tm.dInt ?_
        refine Tm.uncons ?_
        refine Tm.dSl ?_
        refine Tm.uncons ?_
        refine Tm.dSl ?_
        refine Tm.uncons ?_
        refine Tm.dSl ?_
        refine Tm.uncons ?_
        refine Tm.dInt ?_
        refine Tm.uncons ?_
        refine Tm.dStr ?_
        refine Tm.uncons ?_
        refine Tm.dInt ?_
        refine Tm.uncons ?_
        refine Tm.dSl ?_
        refine Tm.uncons ?_
        refine Tm.dSl ?_
        refine Tm.uncons ?_
        refine Tm.dSl ?_
        refine Tm.uncons ?_
        refine Tm.dBool ?_
        refine Tm.atEnd ?_
        refine Tm.atRow (by first | assumption | omega | (simp only [lim, maxLen_eq] at *; omega)) (by first | assumption | omega | (simp only [lim, maxLen_eq] at *; omega)) (fun x31 hx32 hm33 => ?_)
        rw [hx4] at hx32
        injection hx32 with hx32
        subst hx32
        refine Tm.uncons ?_
        refine Tm.dInt ?_
        refine Tm.uncons ?_
        refine Tm.dStr ?_
        refine Tm.uncons ?_
        refine Tm.dInt ?_
        refine Tm.uncons ?_
        refine Tm.dSl ?_
        refine Tm.uncons ?_
        refine Tm.dSl ?_
        refine Tm.uncons ?_
        refine Tm.dSl ?_
        refine Tm.uncons ?_
        refine Tm.dInt ?_
        refine Tm.uncons ?_
        refine Tm.dStr ?_
        refine Tm.uncons ?_
        refine Tm.dInt ?_
        refine Tm.uncons ?_
        refine Tm.dSl ?_
        refine Tm.uncons ?_
        refine Tm.dSl ?_
        refine Tm.uncons ?_
        refine Tm.dSl ?_
        refine Tm.uncons ?_
        refine Tm.dBool ?_
        refine Tm.atEnd ?_
        refine laws_eqJob.tm (fun i hi => hi.1) (laws_eqJob.T (by first | assumption | omega | (simp only [lim, maxLen_eq] at *; omega)) (by first | assumption | omega | (simp only [lim, maxLen_eq] at *; omega)) (by first | assumption | omega | (simp only [lim, maxLen_eq] at *; omega)) (by first | assumption | omega | (simp only [lim, maxLen_eq] at *; omega)) (by first | assumption | omega | (simp only [lim, maxLen_eq] at *; omega)) (by first | assumption | omega | (simp only [lim, maxLen_eq] at *; omega)) (by first | assumption | omega | (simp only [lim, maxLen_eq] at *; omega)) (by first | assumption | omega | (simp only [lim, maxLen_eq] at *; omega)) (by first | assumption | omega | (simp only [lim, maxLen_eq] at *; omega))) (fun y48 hy47 => ?_)
        subst hy47
        refine Tm.ite (fun h49 => ?_) (fun h49 => ?_)
        · try simp only [decide_eq_true_eq, decide_eq_false_iff_not, Int.not_lt, Int.not_le, bne_iff_ne, ne_eq, bne_eq_false_iff_eq, beq_iff_eq, beq_eq_false_iff_ne, Bool.not_eq_true', Bool.not_eq_false'] at h49
          exact Tm.ret (by first | rfl | (exfalso; simp [strEq_self] at *))
        · try simp only [decide_eq_true_eq, decide_eq_false_iff_not, Int.not_lt, Int.not_le, bne_iff_ne, ne_eq, bne_eq_false_iff_eq, beq_iff_eq, beq_eq_false_iff_ne, Bool.not_eq_true', Bool.not_eq_false'] at h49
          try rw [wrap_i64 (x := i + 1) (by omega) (by omega)]
          exact hL _ (by (try simp only []); omega) (by (try simp only []); omega)
      · try simp only [decide_eq_true_eq, decide_eq_false_iff_not, Int.not_lt, Int.not_le, bne_iff_ne, ne_eq, bne_eq_false_iff_eq, beq_iff_eq, beq_eq_false_iff_ne, Bool.not_eq_true', Bool.not_eq_false'] at h2
        exact Tm.ret (by first | rfl | (exfalso; simp [strEq_self] at *))
theorem laws_eqLabel.f_of {β : Type} {k : Nat} {a0_0 : ByteArray} {a0_1 : ByteArray} {a1_0 : ByteArray} {a1_1 : ByteArray} {z0 : Bool} (h : laws_eqLabel.t k a0_0 a0_1 a1_0 a1_1 = some z0) (K : Bool → Option β) : laws_eqLabel.f k a0_0 a0_1 a1_0 a1_1 K = K z0 := by
  unfold laws_eqLabel.f
  rw [h]
theorem laws_eqLabel.tm {ι α : Type} {ok : ι → Prop} {ψ : α → Prop} {p : ι → Nat} {B : Nat} (hp : ∀ i, ok i → B ≤ p i) {a0_0 : ByteArray} {a0_1 : ByteArray} {a1_0 : ByteArray} {a1_1 : ByteArray} {φ : Bool → Prop} (h : Tm (fun k => B ≤ k) (fun k => laws_eqLabel.t k a0_0 a0_1 a1_0 a1_1) φ) {G : ι → Bool → Option α} (hG : ∀ z0, φ z0 → Tm ok (fun i => G i z0) ψ) : Tm ok (fun i => laws_eqLabel.f (p i) a0_0 a0_1 a1_0 a1_1 (G i)) ψ := by
  obtain ⟨z0, h1, h2⟩ := h
  exact (hG z0 h1).congr fun i hi => laws_eqLabel.f_of (h2 (p i) (hp i hi)) _
theorem laws_eqLabel.T {B : Nat} {a0_0 : ByteArray} {a0_1 : ByteArray} (ga0_0 : a0_0.size ≤ B) (ga0_1 : a0_1.size ≤ B) (hB : B ≤ 1099511627776) : Tm Fuel (fun k => laws_eqLabel.t k a0_0 a0_1 a0_0 a0_1) (fun r => r = true) := by
  unfold laws_eqLabel.t laws_eqLabel.g
  have hm := maxLen_eq
  have hlim : lim = 1048576 := rfl
  refine Tm.ite (fun h1 => ?_) (fun h1 => ?_)
  · try simp only [decide_eq_true_eq, decide_eq_false_iff_not, Int.not_lt, Int.not_le, bne_iff_ne, ne_eq, bne_eq_false_iff_eq, beq_iff_eq, beq_eq_false_iff_ne, Bool.not_eq_true', Bool.not_eq_false'] at h1
    exact Tm.ret (by first | rfl | (exfalso; simp [strEq_self] at *))
  · try simp only [decide_eq_true_eq, decide_eq_false_iff_not, Int.not_lt, Int.not_le, bne_iff_ne, ne_eq, bne_eq_false_iff_eq, beq_iff_eq, beq_eq_false_iff_ne, Bool.not_eq_true', Bool.not_eq_false'] at h1
    refine Tm.ite (fun h2 => ?_) (fun h2 => ?_)
    · try simp only [decide_eq_true_eq, decide_eq_false_iff_not, Int.not_lt, Int.not_le, bne_iff_ne, ne_eq, bne_eq_false_iff_eq, beq_iff_eq, beq_eq_false_iff_ne, Bool.not_eq_true', Bool.not_eq_false'] at h2
      exact Tm.ret (by first | rfl | (exfalso; simp [strEq_self] at *))
    · try simp only [decide_eq_true_eq, decide_eq_false_iff_not, Int.not_lt, Int.not_le, bne_iff_ne, ne_eq, bne_eq_false_iff_eq, beq_iff_eq, beq_eq_false_iff_ne, Bool.not_eq_true', Bool.not_eq_false'] at h2
      exact Tm.ret (by first | rfl | (exfalso; simp [strEq_self] at *))
theorem laws_eqLabelS.f_of {β : Type} {k : Nat} {a0 : List (List D)} {a1 : List (List D)} {z0 : Bool} (h : laws_eqLabelS.t k a0 a1 = some z0) (K : Bool → Option β) : laws_eqLabelS.f k a0 a1 K = K z0 := by
  unfold laws_eqLabelS.f
  rw [h]
theorem laws_eqLabelS.tm {ι α : Type} {ok : ι → Prop} {ψ : α → Prop} {p : ι → Nat} {B : Nat} (hp : ∀ i, ok i → B ≤ p i) {a0 : List (List D)} {a1 : List (List D)} {φ : Bool → Prop} (h : Tm (fun k => B ≤ k) (fun k => laws_eqLabelS.t k a0 a1) φ) {G : ι → Bool → Option α} (hG : ∀ z0, φ z0 → Tm ok (fun i => G i z0) ψ) : Tm ok (fun i => laws_eqLabelS.f (p i) a0 a1 (G i)) ψ := by
  obtain ⟨z0, h1, h2⟩ := h
  exact (hG z0 h1).congr fun i hi => laws_eqLabelS.f_of (h2 (p i) (hp i hi)) _
def RSS (B : Nat) (r : List D) : Prop := ∃ (c0 : ByteArray) (c1 : ByteArray), r = [.str c0, .str c1] ∧ c0.size ≤ B ∧ c1.size ≤ B ∧ True
theorem RSS.open {B : Nat} {r : List D} (h : RSS B r) : ∃ (c0 : ByteArray) (c1 : ByteArray), r = [.str c0, .str c1] ∧ c0.size ≤ B ∧ c1.size ≤ B ∧ True := h
theorem RSS.mono {B B' : Nat} (hb : B ≤ B') {r : List D} (h : RSS B r) : RSS B' r := by
  obtain ⟨c0, c1, rfl, k0, k1, _⟩ := h
  exact ⟨_, _, rfl, (Nat.le_trans k0 hb), (Nat.le_trans k1 hb), trivial⟩
theorem RSS.wide {xs : List (List D)} (h : SlOk RSS lim xs) : SlOk RSS 2097152 xs := ⟨Nat.le_trans h.1 (by decide), fun r hr => (h.2 r hr).mono (by decide)⟩
theorem RSS.len {B : Nat} {r : List D} (h : RSS B r) : r.length = 2 := by
  obtain ⟨c0, c1, rfl, _⟩ := h.open
  rfl
theorem RSS.flat {B : Nat} {xs : List (List D)} (h : ∀ r ∈ xs, RSS B r) : rowsFlat 2 xs := fun r hr => by
  obtain ⟨c0, c1, rfl, _⟩ := (h r hr).open
  exact ⟨rfl, by simp [isScal]⟩
theorem RSS.wt {B : Nat} {xs : List (List D)} (h : ∀ r ∈ xs, RSS B r) : wtRows xs = 2 * xs.length := wt_flat (R := RSS B) (fun r h => by obtain ⟨c0, c1, rfl, _⟩ := h; rfl) xs h
theorem RSS.deep {B : Nat} {xs : List (List D)} (h : ∀ r ∈ xs, RSS B r) : deepRows xs = xs.map (·.map C.d) := deep_flat (R := RSS B) (fun r h => by obtain ⟨c0, c1, rfl, _⟩ := h; rfl) xs h
theorem RSS.gets {B : Nat} {xs : List (List D)} (h : ∀ r ∈ xs, RSS B r) {v : Int} (h0 : 0 ≤ v) (h1 : v < xs.length) : gR xs v = [.str (gS xs v 0), .str (gS xs v 1)] ∧ (gS xs v 0).size ≤ B ∧ (gS xs v 1).size ≤ B ∧ True := by
  obtain ⟨c0, c1, e, k0, k1, _⟩ := (h (gR xs v) (gR_mem h0 h1)).open
  unfold gS
  rw [e]
  exact ⟨rfl, k0, k1, trivial⟩
theorem RSS.rows {B : Nat} {xs : List (List D)} (h : ∀ r ∈ xs, RSS B r) {v : Int} (h0 : 0 ≤ v) (h1 : v < xs.length) {β : Type} (F : List D → Option β) : atRow xs v F = F [.str (gS xs v 0), .str (gS xs v 1)] := by
  rw [← (RSS.gets h h0 h1).1]
  exact atRow_gR h0 h1 F
theorem RSS.get {B : Nat} {xs : List (List D)} (h : SlOk RSS B xs) {v : Int} (h0 : 0 ≤ v) (h1 : v < xs.length) : gR xs v = [.str (gS xs v 0), .str (gS xs v 1)] ∧ (gS xs v 0).size ≤ B ∧ (gS xs v 1).size ≤ B ∧ True := RSS.gets h.2 h0 h1
theorem RSS.row {B : Nat} {xs : List (List D)} (h : SlOk RSS B xs) {v : Int} (h0 : 0 ≤ v) (h1 : v < xs.length) {β : Type} (F : List D → Option β) : atRow xs v F = F [.str (gS xs v 0), .str (gS xs v 1)] := RSS.rows h.2 h0 h1 F
theorem laws_eqLabelS.T {B : Nat} {a0 : List (List D)} (ga0 : SlOk RSS B a0) (hB : B ≤ 1099511627776) : Tm Fuel (fun k => laws_eqLabelS.t k a0 a0) (fun r => r = true) := by
  unfold laws_eqLabelS.t laws_eqLabelS.g
  have hm := maxLen_eq
  have hlim : lim = 1048576 := rfl
  have hlen := ga0.1
  refine Tm.ite (fun h1 => ?_) (fun h1 => ?_)
  · try simp only [decide_eq_true_eq, decide_eq_false_iff_not, Int.not_lt, Int.not_le, bne_iff_ne, ne_eq, bne_eq_false_iff_eq, beq_iff_eq, beq_eq_false_iff_ne, Bool.not_eq_true', Bool.not_eq_false'] at h1
    exact Tm.ret (by first | rfl | (exfalso; simp [strEq_self] at *))
  · try simp only [decide_eq_true_eq, decide_eq_false_iff_not, Int.not_lt, Int.not_le, bne_iff_ne, ne_eq, bne_eq_false_iff_eq, beq_iff_eq, beq_eq_false_iff_ne, Bool.not_eq_true', Bool.not_eq_false'] at h1
    refine Tm.loop (okk := Fuel) (p := fun k => k) (fun i hi => hi) (b := fun k => laws_eqLabelS.l0 k a0 a0 (fun z0 => some z0)) (fun i => (((a0.length : Int)) - i).toNat) (fun i => 0 ≤ i ∧ i ≤ (a0.length : Int)) ?_ ?_ ?_
    · rintro i hI
      try simp only [] at hI ⊢
      have : big = 2 ^ 64 := rfl
      have := ga0.1
      omega
    · ((try simp only []); omega)
    · rintro i hI L hL
      try simp only [] at hI
      obtain ⟨i0, i1⟩ := hI
      simp only [laws_eqLabelS.l0]
      refine Tm.ite (fun h2 => ?_) (fun h2 => ?_)
      · try simp only [decide_eq_true_eq, decide_eq_false_iff_not, Int.not_lt, Int.not_le, bne_iff_ne, ne_eq, bne_eq_false_iff_eq, beq_iff_eq, beq_eq_false_iff_ne, Bool.not_eq_true', Bool.not_eq_false'] at h2
        refine Tm.atRow (by first | assumption | omega | (simp only [lim, maxLen_eq] at *; omega)) (by first | assumption | omega | (simp only [lim, maxLen_eq] at *; omega)) (fun x3 hx4 hm5 => ?_)
        obtain ⟨c6, c7, rfl, g8, g9, _⟩ := (ga0.2 x3 hm5).open
        refine Tm.uncons ?_
        refine Tm.dStr ?_
        refine Tm.uncons ?_
        refine Tm.dStr ?_
        refine Tm.atEnd ?_
        refine Tm.atRow (by first | assumption | omega | (simp only [lim, maxLen_eq] at *; omega)) (by first | assumption | omega | (simp only [lim, maxLen_eq] at *; omega)) (fun x10 hx11 hm12 => ?_)
        rw [hx4] at hx11
        injection hx11 with hx11
        subst hx11
        refine Tm.uncons ?_
        refine Tm.dStr ?_
        refine Tm.uncons ?_
        refine Tm.dStr ?_
        refine Tm.atEnd ?_
        refine laws_eqLabel.tm (fun i hi => hi.1) (laws_eqLabel.T (by first | assumption | omega | (simp only [lim, maxLen_eq] at *; omega)) (by first | assumption | omega | (simp only [lim, maxLen_eq] at *; omega)) (by first | assumption | omega | (simp only [lim, maxLen_eq] at *; omega))) (fun y16 hy15 => ?_)
        subst hy15
        refine Tm.ite (fun h17 => ?_) (fun h17 => ?_)
        · try simp only [decide_eq_true_eq, decide_eq_false_iff_not, Int.not_lt, Int.not_le, bne_iff_ne, ne_eq, bne_eq_false_iff_eq, beq_iff_eq, beq_eq_false_iff_ne, Bool.not_eq_true', Bool.not_eq_false'] at h17
          exact Tm.ret (by first | rfl | (exfalso; simp [strEq_self] at *))
        · try simp only [decide_eq_true_eq, decide_eq_false_iff_not, Int.not_lt, Int.not_le, bne_iff_ne, ne_eq, bne_eq_false_iff_eq, beq_iff_eq, beq_eq_false_iff_ne, Bool.not_eq_true', Bool.not_eq_false'] at h17
          try rw [wrap_i64 (x := i + 1) (by omega) (by omega)]
          exact hL _ (by (try simp only []); omega) (by (try simp only []); omega)
      · try simp only [decide_eq_true_eq, decide_eq_false_iff_not, Int.not_lt, Int.not_le, bne_iff_ne, ne_eq, bne_eq_false_iff_eq, beq_iff_eq, beq_eq_false_iff_ne, Bool.not_eq_true', Bool.not_eq_false'] at h2
        exact Tm.ret (by first | rfl | (exfalso; simp [strEq_self] at *))
theorem laws_eqIsland.f_of {β : Type} {k : Nat} {a0_0 : ByteArray} {a0_1 : List (List D)} {a0_2 : List (List D)} {a0_3 : Int} {a1_0 : ByteArray} {a1_1 : List (List D)} {a1_2 : List (List D)} {a1_3 : Int} {z0 : Bool} (h : laws_eqIsland.t k a0_0 a0_1 a0_2 a0_3 a1_0 a1_1 a1_2 a1_3 = some z0) (K : Bool → Option β) : laws_eqIsland.f k a0_0 a0_1 a0_2 a0_3 a1_0 a1_1 a1_2 a1_3 K = K z0 := by
  unfold laws_eqIsland.f
  rw [h]
theorem laws_eqIsland.tm {ι α : Type} {ok : ι → Prop} {ψ : α → Prop} {p : ι → Nat} {B : Nat} (hp : ∀ i, ok i → B ≤ p i) {a0_0 : ByteArray} {a0_1 : List (List D)} {a0_2 : List (List D)} {a0_3 : Int} {a1_0 : ByteArray} {a1_1 : List (List D)} {a1_2 : List (List D)} {a1_3 : Int} {φ : Bool → Prop} (h : Tm (fun k => B ≤ k) (fun k => laws_eqIsland.t k a0_0 a0_1 a0_2 a0_3 a1_0 a1_1 a1_2 a1_3) φ) {G : ι → Bool → Option α} (hG : ∀ z0, φ z0 → Tm ok (fun i => G i z0) ψ) : Tm ok (fun i => laws_eqIsland.f (p i) a0_0 a0_1 a0_2 a0_3 a1_0 a1_1 a1_2 a1_3 (G i)) ψ := by
  obtain ⟨z0, h1, h2⟩ := h
  exact (hG z0 h1).congr fun i hi => laws_eqIsland.f_of (h2 (p i) (hp i hi)) _
theorem laws_eqIsland.T {B : Nat} {a0_0 : ByteArray} {a0_1 : List (List D)} {a0_2 : List (List D)} {a0_3 : Int} (ga0_0 : a0_0.size ≤ B) (ga0_1 : SlOk RSS B a0_1) (ga0_2 : SlOk RS B a0_2) (hB : B ≤ 1099511627776) : Tm Fuel (fun k => laws_eqIsland.t k a0_0 a0_1 a0_2 a0_3 a0_0 a0_1 a0_2 a0_3) (fun r => r = true) := by
  unfold laws_eqIsland.t laws_eqIsland.g
  have hm := maxLen_eq
  have hlim : lim = 1048576 := rfl
  refine Tm.ite (fun h1 => ?_) (fun h1 => ?_)
  · try simp only [decide_eq_true_eq, decide_eq_false_iff_not, Int.not_lt, Int.not_le, bne_iff_ne, ne_eq, bne_eq_false_iff_eq, beq_iff_eq, beq_eq_false_iff_ne, Bool.not_eq_true', Bool.not_eq_false'] at h1
    exact Tm.ret (by first | rfl | (exfalso; simp [strEq_self] at *))
  · try simp only [decide_eq_true_eq, decide_eq_false_iff_not, Int.not_lt, Int.not_le, bne_iff_ne, ne_eq, bne_eq_false_iff_eq, beq_iff_eq, beq_eq_false_iff_ne, Bool.not_eq_true', Bool.not_eq_false'] at h1
    refine laws_eqLabelS.tm (fun i hi => hi) (laws_eqLabelS.T (by first | assumption | omega | (simp only [lim, maxLen_eq] at *; omega)) (by first | assumption | omega | (simp only [lim, maxLen_eq] at *; omega))) (fun y3 hy2 => ?_)
    subst hy2
    refine Tm.ite (fun h4 => ?_) (fun h4 => ?_)
    · try simp only [decide_eq_true_eq, decide_eq_false_iff_not, Int.not_lt, Int.not_le, bne_iff_ne, ne_eq, bne_eq_false_iff_eq, beq_iff_eq, beq_eq_false_iff_ne, Bool.not_eq_true', Bool.not_eq_false'] at h4
      exact Tm.ret (by first | rfl | (exfalso; simp [strEq_self] at *))
    · try simp only [decide_eq_true_eq, decide_eq_false_iff_not, Int.not_lt, Int.not_le, bne_iff_ne, ne_eq, bne_eq_false_iff_eq, beq_iff_eq, beq_eq_false_iff_ne, Bool.not_eq_true', Bool.not_eq_false'] at h4
      refine laws_eqStringS.tm (fun i hi => hi) (laws_eqStringS.T (by first | assumption | omega | (simp only [lim, maxLen_eq] at *; omega)) (by first | assumption | omega | (simp only [lim, maxLen_eq] at *; omega))) (fun y6 hy5 => ?_)
      subst hy5
      refine Tm.ite (fun h7 => ?_) (fun h7 => ?_)
      · try simp only [decide_eq_true_eq, decide_eq_false_iff_not, Int.not_lt, Int.not_le, bne_iff_ne, ne_eq, bne_eq_false_iff_eq, beq_iff_eq, beq_eq_false_iff_ne, Bool.not_eq_true', Bool.not_eq_false'] at h7
        exact Tm.ret (by first | rfl | (exfalso; simp [strEq_self] at *))
      · try simp only [decide_eq_true_eq, decide_eq_false_iff_not, Int.not_lt, Int.not_le, bne_iff_ne, ne_eq, bne_eq_false_iff_eq, beq_iff_eq, beq_eq_false_iff_ne, Bool.not_eq_true', Bool.not_eq_false'] at h7
        refine Tm.ite (fun h8 => ?_) (fun h8 => ?_)
        · try simp only [decide_eq_true_eq, decide_eq_false_iff_not, Int.not_lt, Int.not_le, bne_iff_ne, ne_eq, bne_eq_false_iff_eq, beq_iff_eq, beq_eq_false_iff_ne, Bool.not_eq_true', Bool.not_eq_false'] at h8
          exact Tm.ret (by first | rfl | (exfalso; simp [strEq_self] at *))
        · try simp only [decide_eq_true_eq, decide_eq_false_iff_not, Int.not_lt, Int.not_le, bne_iff_ne, ne_eq, bne_eq_false_iff_eq, beq_iff_eq, beq_eq_false_iff_ne, Bool.not_eq_true', Bool.not_eq_false'] at h8
          exact Tm.ret (by first | rfl | (exfalso; simp [strEq_self] at *))
theorem laws_eqPost.f_of {β : Type} {k : Nat} {a0_0 : ByteArray} {a0_1 : List (List D)} {a0_2 : List (List D)} {a0_3 : Int} {a0_4 : Int} {a0_5 : Int} {a1_0 : ByteArray} {a1_1 : List (List D)} {a1_2 : List (List D)} {a1_3 : Int} {a1_4 : Int} {a1_5 : Int} {z0 : Bool} (h : laws_eqPost.t k a0_0 a0_1 a0_2 a0_3 a0_4 a0_5 a1_0 a1_1 a1_2 a1_3 a1_4 a1_5 = some z0) (K : Bool → Option β) : laws_eqPost.f k a0_0 a0_1 a0_2 a0_3 a0_4 a0_5 a1_0 a1_1 a1_2 a1_3 a1_4 a1_5 K = K z0 := by
  unfold laws_eqPost.f
  rw [h]
theorem laws_eqPost.tm {ι α : Type} {ok : ι → Prop} {ψ : α → Prop} {p : ι → Nat} {B : Nat} (hp : ∀ i, ok i → B ≤ p i) {a0_0 : ByteArray} {a0_1 : List (List D)} {a0_2 : List (List D)} {a0_3 : Int} {a0_4 : Int} {a0_5 : Int} {a1_0 : ByteArray} {a1_1 : List (List D)} {a1_2 : List (List D)} {a1_3 : Int} {a1_4 : Int} {a1_5 : Int} {φ : Bool → Prop} (h : Tm (fun k => B ≤ k) (fun k => laws_eqPost.t k a0_0 a0_1 a0_2 a0_3 a0_4 a0_5 a1_0 a1_1 a1_2 a1_3 a1_4 a1_5) φ) {G : ι → Bool → Option α} (hG : ∀ z0, φ z0 → Tm ok (fun i => G i z0) ψ) : Tm ok (fun i => laws_eqPost.f (p i) a0_0 a0_1 a0_2 a0_3 a0_4 a0_5 a1_0 a1_1 a1_2 a1_3 a1_4 a1_5 (G i)) ψ := by
  obtain ⟨z0, h1, h2⟩ := h
  exact (hG z0 h1).congr fun i hi => laws_eqPost.f_of (h2 (p i) (hp i hi)) _
theorem laws_eqPost.T {B : Nat} {a0_0 : ByteArray} {a0_1 : List (List D)} {a0_2 : List (List D)} {a0_3 : Int} {a0_4 : Int} {a0_5 : Int} (ga0_0 : a0_0.size ≤ B) (ga0_1 : SlOk RSS B a0_1) (ga0_2 : SlOk RS B a0_2) (hB : B ≤ 1099511627776) : Tm Fuel (fun k => laws_eqPost.t k a0_0 a0_1 a0_2 a0_3 a0_4 a0_5 a0_0 a0_1 a0_2 a0_3 a0_4 a0_5) (fun r => r = true) := by
  unfold laws_eqPost.t laws_eqPost.g
  have hm := maxLen_eq
  have hlim : lim = 1048576 := rfl
  refine laws_eqIsland.tm (fun i hi => hi) (laws_eqIsland.T (by first | assumption | omega | (simp only [lim, maxLen_eq] at *; omega)) (by first | assumption | omega | (simp only [lim, maxLen_eq] at *; omega)) (by first | assumption | omega | (simp only [lim, maxLen_eq] at *; omega)) (by first | assumption | omega | (simp only [lim, maxLen_eq] at *; omega))) (fun y2 hy1 => ?_)
  subst hy1
  refine Tm.ite (fun h3 => ?_) (fun h3 => ?_)
  · try simp only [decide_eq_true_eq, decide_eq_false_iff_not, Int.not_lt, Int.not_le, bne_iff_ne, ne_eq, bne_eq_false_iff_eq, beq_iff_eq, beq_eq_false_iff_ne, Bool.not_eq_true', Bool.not_eq_false'] at h3
    exact Tm.ret (by first | rfl | (exfalso; simp [strEq_self] at *))
  · try simp only [decide_eq_true_eq, decide_eq_false_iff_not, Int.not_lt, Int.not_le, bne_iff_ne, ne_eq, bne_eq_false_iff_eq, beq_iff_eq, beq_eq_false_iff_ne, Bool.not_eq_true', Bool.not_eq_false'] at h3
    refine Tm.ite (fun h4 => ?_) (fun h4 => ?_)
    · try simp only [decide_eq_true_eq, decide_eq_false_iff_not, Int.not_lt, Int.not_le, bne_iff_ne, ne_eq, bne_eq_false_iff_eq, beq_iff_eq, beq_eq_false_iff_ne, Bool.not_eq_true', Bool.not_eq_false'] at h4
      exact Tm.ret (by first | rfl | (exfalso; simp [strEq_self] at *))
    · try simp only [decide_eq_true_eq, decide_eq_false_iff_not, Int.not_lt, Int.not_le, bne_iff_ne, ne_eq, bne_eq_false_iff_eq, beq_iff_eq, beq_eq_false_iff_ne, Bool.not_eq_true', Bool.not_eq_false'] at h4
      refine Tm.ite (fun h5 => ?_) (fun h5 => ?_)
      · try simp only [decide_eq_true_eq, decide_eq_false_iff_not, Int.not_lt, Int.not_le, bne_iff_ne, ne_eq, bne_eq_false_iff_eq, beq_iff_eq, beq_eq_false_iff_ne, Bool.not_eq_true', Bool.not_eq_false'] at h5
        exact Tm.ret (by first | rfl | (exfalso; simp [strEq_self] at *))
      · try simp only [decide_eq_true_eq, decide_eq_false_iff_not, Int.not_lt, Int.not_le, bne_iff_ne, ne_eq, bne_eq_false_iff_eq, beq_iff_eq, beq_eq_false_iff_ne, Bool.not_eq_true', Bool.not_eq_false'] at h5
        exact Tm.ret (by first | rfl | (exfalso; simp [strEq_self] at *))
theorem laws_eqPostS.f_of {β : Type} {k : Nat} {a0 : List (List D)} {a1 : List (List D)} {z0 : Bool} (h : laws_eqPostS.t k a0 a1 = some z0) (K : Bool → Option β) : laws_eqPostS.f k a0 a1 K = K z0 := by
  unfold laws_eqPostS.f
  rw [h]
theorem laws_eqPostS.tm {ι α : Type} {ok : ι → Prop} {ψ : α → Prop} {p : ι → Nat} {B : Nat} (hp : ∀ i, ok i → B ≤ p i) {a0 : List (List D)} {a1 : List (List D)} {φ : Bool → Prop} (h : Tm (fun k => B ≤ k) (fun k => laws_eqPostS.t k a0 a1) φ) {G : ι → Bool → Option α} (hG : ∀ z0, φ z0 → Tm ok (fun i => G i z0) ψ) : Tm ok (fun i => laws_eqPostS.f (p i) a0 a1 (G i)) ψ := by
  obtain ⟨z0, h1, h2⟩ := h
  exact (hG z0 h1).congr fun i hi => laws_eqPostS.f_of (h2 (p i) (hp i hi)) _
def RSLSSELSEIII (B : Nat) (r : List D) : Prop := ∃ (c0 : ByteArray) (c1 : List (List D)) (c2 : List (List D)) (c3 : Int) (c4 : Int) (c5 : Int), r = [.str c0, .sl c1, .sl c2, .int .i64 c3, .int .i64 c4, .int .i64 c5] ∧ c0.size ≤ B ∧ SlOk RSS B c1 ∧ SlOk RS B c2 ∧ (Lit.int .i64 c3).wf = true ∧ (Lit.int .i64 c4).wf = true ∧ (Lit.int .i64 c5).wf = true ∧ True
theorem RSLSSELSEIII.open {B : Nat} {r : List D} (h : RSLSSELSEIII B r) : ∃ (c0 : ByteArray) (c1 : List (List D)) (c2 : List (List D)) (c3 : Int) (c4 : Int) (c5 : Int), r = [.str c0, .sl c1, .sl c2, .int .i64 c3, .int .i64 c4, .int .i64 c5] ∧ c0.size ≤ B ∧ SlOk RSS B c1 ∧ SlOk RS B c2 ∧ (Lit.int .i64 c3).wf = true ∧ (Lit.int .i64 c4).wf = true ∧ (Lit.int .i64 c5).wf = true ∧ True := h
theorem RSLSSELSEIII.mono {B B' : Nat} (hb : B ≤ B') {r : List D} (h : RSLSSELSEIII B r) : RSLSSELSEIII B' r := by
  obtain ⟨c0, c1, c2, c3, c4, c5, rfl, k0, k1, k2, k3, k4, k5, _⟩ := h
  exact ⟨_, _, _, _, _, _, rfl, (Nat.le_trans k0 hb), ⟨Nat.le_trans k1.1 hb, fun r hr => (k1.2 r hr).mono hb⟩, ⟨Nat.le_trans k2.1 hb, fun r hr => (k2.2 r hr).mono hb⟩, k3, k4, k5, trivial⟩
theorem RSLSSELSEIII.wide {xs : List (List D)} (h : SlOk RSLSSELSEIII lim xs) : SlOk RSLSSELSEIII 2097152 xs := ⟨Nat.le_trans h.1 (by decide), fun r hr => (h.2 r hr).mono (by decide)⟩
theorem RSLSSELSEIII.len {B : Nat} {r : List D} (h : RSLSSELSEIII B r) : r.length = 6 := by
  obtain ⟨c0, c1, c2, c3, c4, c5, rfl, _⟩ := h.open
  rfl
theorem RSLSSELSEIII.gets {B : Nat} {xs : List (List D)} (h : ∀ r ∈ xs, RSLSSELSEIII B r) {v : Int} (h0 : 0 ≤ v) (h1 : v < xs.length) : gR xs v = [.str (gS xs v 0), .sl (gL xs v 1), .sl (gL xs v 2), .int .i64 (gI xs v 3), .int .i64 (gI xs v 4), .int .i64 (gI xs v 5)] ∧ (gS xs v 0).size ≤ B ∧ SlOk RSS B (gL xs v 1) ∧ SlOk RS B (gL xs v 2) ∧ (Lit.int .i64 (gI xs v 3)).wf = true ∧ (Lit.int .i64 (gI xs v 4)).wf = true ∧ (Lit.int .i64 (gI xs v 5)).wf = true ∧ True := by
  obtain ⟨c0, c1, c2, c3, c4, c5, e, k0, k1, k2, k3, k4, k5, _⟩ := (h (gR xs v) (gR_mem h0 h1)).open
  unfold gI gL gS
  rw [e]
  exact ⟨rfl, k0, k1, k2, k3, k4, k5, trivial⟩
theorem RSLSSELSEIII.rows {B : Nat} {xs : List (List D)} (h : ∀ r ∈ xs, RSLSSELSEIII B r) {v : Int} (h0 : 0 ≤ v) (h1 : v < xs.length) {β : Type} (F : List D → Option β) : atRow xs v F = F [.str (gS xs v 0), .sl (gL xs v 1), .sl (gL xs v 2), .int .i64 (gI xs v 3), .int .i64 (gI xs v 4), .int .i64 (gI xs v 5)] := by
  rw [← (RSLSSELSEIII.gets h h0 h1).1]
  exact atRow_gR h0 h1 F
theorem RSLSSELSEIII.get {B : Nat} {xs : List (List D)} (h : SlOk RSLSSELSEIII B xs) {v : Int} (h0 : 0 ≤ v) (h1 : v < xs.length) : gR xs v = [.str (gS xs v 0), .sl (gL xs v 1), .sl (gL xs v 2), .int .i64 (gI xs v 3), .int .i64 (gI xs v 4), .int .i64 (gI xs v 5)] ∧ (gS xs v 0).size ≤ B ∧ SlOk RSS B (gL xs v 1) ∧ SlOk RS B (gL xs v 2) ∧ (Lit.int .i64 (gI xs v 3)).wf = true ∧ (Lit.int .i64 (gI xs v 4)).wf = true ∧ (Lit.int .i64 (gI xs v 5)).wf = true ∧ True := RSLSSELSEIII.gets h.2 h0 h1
theorem RSLSSELSEIII.row {B : Nat} {xs : List (List D)} (h : SlOk RSLSSELSEIII B xs) {v : Int} (h0 : 0 ≤ v) (h1 : v < xs.length) {β : Type} (F : List D → Option β) : atRow xs v F = F [.str (gS xs v 0), .sl (gL xs v 1), .sl (gL xs v 2), .int .i64 (gI xs v 3), .int .i64 (gI xs v 4), .int .i64 (gI xs v 5)] := RSLSSELSEIII.rows h.2 h0 h1 F
theorem laws_eqPostS.T {B : Nat} {a0 : List (List D)} (ga0 : SlOk RSLSSELSEIII B a0) (hB : B ≤ 1099511627776) : Tm Fuel (fun k => laws_eqPostS.t k a0 a0) (fun r => r = true) := by
  unfold laws_eqPostS.t laws_eqPostS.g
  have hm := maxLen_eq
  have hlim : lim = 1048576 := rfl
  have hlen := ga0.1
  refine Tm.ite (fun h1 => ?_) (fun h1 => ?_)
  · try simp only [decide_eq_true_eq, decide_eq_false_iff_not, Int.not_lt, Int.not_le, bne_iff_ne, ne_eq, bne_eq_false_iff_eq, beq_iff_eq, beq_eq_false_iff_ne, Bool.not_eq_true', Bool.not_eq_false'] at h1
    exact Tm.ret (by first | rfl | (exfalso; simp [strEq_self] at *))
  · try simp only [decide_eq_true_eq, decide_eq_false_iff_not, Int.not_lt, Int.not_le, bne_iff_ne, ne_eq, bne_eq_false_iff_eq, beq_iff_eq, beq_eq_false_iff_ne, Bool.not_eq_true', Bool.not_eq_false'] at h1
    refine Tm.loop (okk := Fuel) (p := fun k => k) (fun i hi => hi) (b := fun k => laws_eqPostS.l0 k a0 a0 (fun z0 => some z0)) (fun i => (((a0.length : Int)) - i).toNat) (fun i => 0 ≤ i ∧ i ≤ (a0.length : Int)) ?_ ?_ ?_
    · rintro i hI
      try simp only [] at hI ⊢
      have : big = 2 ^ 64 := rfl
      have := ga0.1
      omega
    · ((try simp only []); omega)
    · rintro i hI L hL
      try simp only [] at hI
      obtain ⟨i0, i1⟩ := hI
      simp only [laws_eqPostS.l0]
      refine Tm.ite (fun h2 => ?_) (fun h2 => ?_)
      · try simp only [decide_eq_true_eq, decide_eq_false_iff_not, Int.not_lt, Int.not_le, bne_iff_ne, ne_eq, bne_eq_false_iff_eq, beq_iff_eq, beq_eq_false_iff_ne, Bool.not_eq_true', Bool.not_eq_false'] at h2
        refine Tm.atRow (by first | assumption | omega | (simp only [lim, maxLen_eq] at *; omega)) (by first | assumption | omega | (simp only [lim, maxLen_eq] at *; omega)) (fun x3 hx4 hm5 => ?_)
        obtain ⟨c6, c7, c8, c9, c10, c11, rfl, g12, g13, g14, g15, g16, g17, _⟩ := (ga0.2 x3 hm5).open
        refine Tm.uncons ?_
        refine Tm.dStr ?_
        refine Tm.uncons ?_
        refine Tm.dSl ?_
        refine Tm.uncons ?_
        refine Tm.dSl ?_
        refine Tm.uncons ?_
        refine Tm.dInt ?_
        refine Tm.uncons ?_
        refine Tm.dInt ?_
        refine Tm.uncons ?_
        refine Tm.dInt ?_
        refine Tm.atEnd ?_
        refine Tm.atRow (by first | assumption | omega | (simp only [lim, maxLen_eq] at *; omega)) (by first | assumption | omega | (simp only [lim, maxLen_eq] at *; omega)) (fun x18 hx19 hm20 => ?_)
        rw [hx4] at hx19
        injection hx19 with hx19
        subst hx19
        refine Tm.uncons ?_
        refine Tm.dStr ?_
        refine Tm.uncons ?_
        refine Tm.dSl ?_
        refine Tm.uncons ?_
        refine Tm.dSl ?_
        refine Tm.uncons ?_
        refine Tm.dInt ?_
        refine Tm.uncons ?_
        refine Tm.dInt ?_
        refine Tm.uncons ?_
        refine Tm.dInt ?_
        refine Tm.atEnd ?_
        refine laws_eqPost.tm (fun i hi => hi.1) (laws_eqPost.T (by first | assumption | omega | (simp only [lim, maxLen_eq] at *; omega)) (by first | assumption | omega | (simp only [lim, maxLen_eq] at *; omega)) (by first | assumption | omega | (simp only [lim, maxLen_eq] at *; omega)) (by first | assumption | omega | (simp only [lim, maxLen_eq] at *; omega))) (fun y28 hy27 => ?_)
        subst hy27
        refine Tm.ite (fun h29 => ?_) (fun h29 => ?_)
        · try simp only [decide_eq_true_eq, decide_eq_false_iff_not, Int.not_lt, Int.not_le, bne_iff_ne, ne_eq, bne_eq_false_iff_eq, beq_iff_eq, beq_eq_false_iff_ne, Bool.not_eq_true', Bool.not_eq_false'] at h29
          exact Tm.ret (by first | rfl | (exfalso; simp [strEq_self] at *))
        · try simp only [decide_eq_true_eq, decide_eq_false_iff_not, Int.not_lt, Int.not_le, bne_iff_ne, ne_eq, bne_eq_false_iff_eq, beq_iff_eq, beq_eq_false_iff_ne, Bool.not_eq_true', Bool.not_eq_false'] at h29
          try rw [wrap_i64 (x := i + 1) (by omega) (by omega)]
          exact hL _ (by (try simp only []); omega) (by (try simp only []); omega)
      · try simp only [decide_eq_true_eq, decide_eq_false_iff_not, Int.not_lt, Int.not_le, bne_iff_ne, ne_eq, bne_eq_false_iff_eq, beq_iff_eq, beq_eq_false_iff_ne, Bool.not_eq_true', Bool.not_eq_false'] at h2
        exact Tm.ret (by first | rfl | (exfalso; simp [strEq_self] at *))
theorem laws_eqHold.f_of {β : Type} {k : Nat} {a0_0 : Int} {a0_1 : ByteArray} {a0_2 : Int} {a0_3 : Int} {a0_4 : Int} {a1_0 : Int} {a1_1 : ByteArray} {a1_2 : Int} {a1_3 : Int} {a1_4 : Int} {z0 : Bool} (h : laws_eqHold.t k a0_0 a0_1 a0_2 a0_3 a0_4 a1_0 a1_1 a1_2 a1_3 a1_4 = some z0) (K : Bool → Option β) : laws_eqHold.f k a0_0 a0_1 a0_2 a0_3 a0_4 a1_0 a1_1 a1_2 a1_3 a1_4 K = K z0 := by
  unfold laws_eqHold.f
  rw [h]
theorem laws_eqHold.tm {ι α : Type} {ok : ι → Prop} {ψ : α → Prop} {p : ι → Nat} {B : Nat} (hp : ∀ i, ok i → B ≤ p i) {a0_0 : Int} {a0_1 : ByteArray} {a0_2 : Int} {a0_3 : Int} {a0_4 : Int} {a1_0 : Int} {a1_1 : ByteArray} {a1_2 : Int} {a1_3 : Int} {a1_4 : Int} {φ : Bool → Prop} (h : Tm (fun k => B ≤ k) (fun k => laws_eqHold.t k a0_0 a0_1 a0_2 a0_3 a0_4 a1_0 a1_1 a1_2 a1_3 a1_4) φ) {G : ι → Bool → Option α} (hG : ∀ z0, φ z0 → Tm ok (fun i => G i z0) ψ) : Tm ok (fun i => laws_eqHold.f (p i) a0_0 a0_1 a0_2 a0_3 a0_4 a1_0 a1_1 a1_2 a1_3 a1_4 (G i)) ψ := by
  obtain ⟨z0, h1, h2⟩ := h
  exact (hG z0 h1).congr fun i hi => laws_eqHold.f_of (h2 (p i) (hp i hi)) _
theorem laws_eqHold.T {B : Nat} {a0_0 : Int} {a0_1 : ByteArray} {a0_2 : Int} {a0_3 : Int} {a0_4 : Int} (ga0_1 : a0_1.size ≤ B) (hB : B ≤ 1099511627776) : Tm Fuel (fun k => laws_eqHold.t k a0_0 a0_1 a0_2 a0_3 a0_4 a0_0 a0_1 a0_2 a0_3 a0_4) (fun r => r = true) := by
  unfold laws_eqHold.t laws_eqHold.g
  have hm := maxLen_eq
  have hlim : lim = 1048576 := rfl
  refine Tm.ite (fun h1 => ?_) (fun h1 => ?_)
  · try simp only [decide_eq_true_eq, decide_eq_false_iff_not, Int.not_lt, Int.not_le, bne_iff_ne, ne_eq, bne_eq_false_iff_eq, beq_iff_eq, beq_eq_false_iff_ne, Bool.not_eq_true', Bool.not_eq_false'] at h1
    exact Tm.ret (by first | rfl | (exfalso; simp [strEq_self] at *))
  · try simp only [decide_eq_true_eq, decide_eq_false_iff_not, Int.not_lt, Int.not_le, bne_iff_ne, ne_eq, bne_eq_false_iff_eq, beq_iff_eq, beq_eq_false_iff_ne, Bool.not_eq_true', Bool.not_eq_false'] at h1
    refine Tm.ite (fun h2 => ?_) (fun h2 => ?_)
    · try simp only [decide_eq_true_eq, decide_eq_false_iff_not, Int.not_lt, Int.not_le, bne_iff_ne, ne_eq, bne_eq_false_iff_eq, beq_iff_eq, beq_eq_false_iff_ne, Bool.not_eq_true', Bool.not_eq_false'] at h2
      exact Tm.ret (by first | rfl | (exfalso; simp [strEq_self] at *))
    · try simp only [decide_eq_true_eq, decide_eq_false_iff_not, Int.not_lt, Int.not_le, bne_iff_ne, ne_eq, bne_eq_false_iff_eq, beq_iff_eq, beq_eq_false_iff_ne, Bool.not_eq_true', Bool.not_eq_false'] at h2
      refine Tm.ite (fun h3 => ?_) (fun h3 => ?_)
      · try simp only [decide_eq_true_eq, decide_eq_false_iff_not, Int.not_lt, Int.not_le, bne_iff_ne, ne_eq, bne_eq_false_iff_eq, beq_iff_eq, beq_eq_false_iff_ne, Bool.not_eq_true', Bool.not_eq_false'] at h3
        exact Tm.ret (by first | rfl | (exfalso; simp [strEq_self] at *))
      · try simp only [decide_eq_true_eq, decide_eq_false_iff_not, Int.not_lt, Int.not_le, bne_iff_ne, ne_eq, bne_eq_false_iff_eq, beq_iff_eq, beq_eq_false_iff_ne, Bool.not_eq_true', Bool.not_eq_false'] at h3
        refine Tm.ite (fun h4 => ?_) (fun h4 => ?_)
        · try simp only [decide_eq_true_eq, decide_eq_false_iff_not, Int.not_lt, Int.not_le, bne_iff_ne, ne_eq, bne_eq_false_iff_eq, beq_iff_eq, beq_eq_false_iff_ne, Bool.not_eq_true', Bool.not_eq_false'] at h4
          exact Tm.ret (by first | rfl | (exfalso; simp [strEq_self] at *))
        · try simp only [decide_eq_true_eq, decide_eq_false_iff_not, Int.not_lt, Int.not_le, bne_iff_ne, ne_eq, bne_eq_false_iff_eq, beq_iff_eq, beq_eq_false_iff_ne, Bool.not_eq_true', Bool.not_eq_false'] at h4
          refine Tm.ite (fun h5 => ?_) (fun h5 => ?_)
          · try simp only [decide_eq_true_eq, decide_eq_false_iff_not, Int.not_lt, Int.not_le, bne_iff_ne, ne_eq, bne_eq_false_iff_eq, beq_iff_eq, beq_eq_false_iff_ne, Bool.not_eq_true', Bool.not_eq_false'] at h5
            exact Tm.ret (by first | rfl | (exfalso; simp [strEq_self] at *))
          · try simp only [decide_eq_true_eq, decide_eq_false_iff_not, Int.not_lt, Int.not_le, bne_iff_ne, ne_eq, bne_eq_false_iff_eq, beq_iff_eq, beq_eq_false_iff_ne, Bool.not_eq_true', Bool.not_eq_false'] at h5
            exact Tm.ret (by first | rfl | (exfalso; simp [strEq_self] at *))
theorem laws_eqHoldS.f_of {β : Type} {k : Nat} {a0 : List (List D)} {a1 : List (List D)} {z0 : Bool} (h : laws_eqHoldS.t k a0 a1 = some z0) (K : Bool → Option β) : laws_eqHoldS.f k a0 a1 K = K z0 := by
  unfold laws_eqHoldS.f
  rw [h]
theorem laws_eqHoldS.tm {ι α : Type} {ok : ι → Prop} {ψ : α → Prop} {p : ι → Nat} {B : Nat} (hp : ∀ i, ok i → B ≤ p i) {a0 : List (List D)} {a1 : List (List D)} {φ : Bool → Prop} (h : Tm (fun k => B ≤ k) (fun k => laws_eqHoldS.t k a0 a1) φ) {G : ι → Bool → Option α} (hG : ∀ z0, φ z0 → Tm ok (fun i => G i z0) ψ) : Tm ok (fun i => laws_eqHoldS.f (p i) a0 a1 (G i)) ψ := by
  obtain ⟨z0, h1, h2⟩ := h
  exact (hG z0 h1).congr fun i hi => laws_eqHoldS.f_of (h2 (p i) (hp i hi)) _
def RISIII (B : Nat) (r : List D) : Prop := ∃ (c0 : Int) (c1 : ByteArray) (c2 : Int) (c3 : Int) (c4 : Int), r = [.int .i64 c0, .str c1, .int .i64 c2, .int .i64 c3, .int .i64 c4] ∧ (Lit.int .i64 c0).wf = true ∧ c1.size ≤ B ∧ (Lit.int .i64 c2).wf = true ∧ (Lit.int .i64 c3).wf = true ∧ (Lit.int .i64 c4).wf = true ∧ True
theorem RISIII.open {B : Nat} {r : List D} (h : RISIII B r) : ∃ (c0 : Int) (c1 : ByteArray) (c2 : Int) (c3 : Int) (c4 : Int), r = [.int .i64 c0, .str c1, .int .i64 c2, .int .i64 c3, .int .i64 c4] ∧ (Lit.int .i64 c0).wf = true ∧ c1.size ≤ B ∧ (Lit.int .i64 c2).wf = true ∧ (Lit.int .i64 c3).wf = true ∧ (Lit.int .i64 c4).wf = true ∧ True := h
theorem RISIII.mono {B B' : Nat} (hb : B ≤ B') {r : List D} (h : RISIII B r) : RISIII B' r := by
  obtain ⟨c0, c1, c2, c3, c4, rfl, k0, k1, k2, k3, k4, _⟩ := h
  exact ⟨_, _, _, _, _, rfl, k0, (Nat.le_trans k1 hb), k2, k3, k4, trivial⟩
theorem RISIII.wide {xs : List (List D)} (h : SlOk RISIII lim xs) : SlOk RISIII 2097152 xs := ⟨Nat.le_trans h.1 (by decide), fun r hr => (h.2 r hr).mono (by decide)⟩
theorem RISIII.len {B : Nat} {r : List D} (h : RISIII B r) : r.length = 5 := by
  obtain ⟨c0, c1, c2, c3, c4, rfl, _⟩ := h.open
  rfl
theorem RISIII.flat {B : Nat} {xs : List (List D)} (h : ∀ r ∈ xs, RISIII B r) : rowsFlat 5 xs := fun r hr => by
  obtain ⟨c0, c1, c2, c3, c4, rfl, _⟩ := (h r hr).open
  exact ⟨rfl, by simp [isScal]⟩
theorem RISIII.wt {B : Nat} {xs : List (List D)} (h : ∀ r ∈ xs, RISIII B r) : wtRows xs = 5 * xs.length := wt_flat (R := RISIII B) (fun r h => by obtain ⟨c0, c1, c2, c3, c4, rfl, _⟩ := h; rfl) xs h
theorem RISIII.deep {B : Nat} {xs : List (List D)} (h : ∀ r ∈ xs, RISIII B r) : deepRows xs = xs.map (·.map C.d) := deep_flat (R := RISIII B) (fun r h => by obtain ⟨c0, c1, c2, c3, c4, rfl, _⟩ := h; rfl) xs h
theorem RISIII.gets {B : Nat} {xs : List (List D)} (h : ∀ r ∈ xs, RISIII B r) {v : Int} (h0 : 0 ≤ v) (h1 : v < xs.length) : gR xs v = [.int .i64 (gI xs v 0), .str (gS xs v 1), .int .i64 (gI xs v 2), .int .i64 (gI xs v 3), .int .i64 (gI xs v 4)] ∧ (Lit.int .i64 (gI xs v 0)).wf = true ∧ (gS xs v 1).size ≤ B ∧ (Lit.int .i64 (gI xs v 2)).wf = true ∧ (Lit.int .i64 (gI xs v 3)).wf = true ∧ (Lit.int .i64 (gI xs v 4)).wf = true ∧ True := by
  obtain ⟨c0, c1, c2, c3, c4, e, k0, k1, k2, k3, k4, _⟩ := (h (gR xs v) (gR_mem h0 h1)).open
  unfold gI gS
  rw [e]
  exact ⟨rfl, k0, k1, k2, k3, k4, trivial⟩
theorem RISIII.rows {B : Nat} {xs : List (List D)} (h : ∀ r ∈ xs, RISIII B r) {v : Int} (h0 : 0 ≤ v) (h1 : v < xs.length) {β : Type} (F : List D → Option β) : atRow xs v F = F [.int .i64 (gI xs v 0), .str (gS xs v 1), .int .i64 (gI xs v 2), .int .i64 (gI xs v 3), .int .i64 (gI xs v 4)] := by
  rw [← (RISIII.gets h h0 h1).1]
  exact atRow_gR h0 h1 F
theorem RISIII.get {B : Nat} {xs : List (List D)} (h : SlOk RISIII B xs) {v : Int} (h0 : 0 ≤ v) (h1 : v < xs.length) : gR xs v = [.int .i64 (gI xs v 0), .str (gS xs v 1), .int .i64 (gI xs v 2), .int .i64 (gI xs v 3), .int .i64 (gI xs v 4)] ∧ (Lit.int .i64 (gI xs v 0)).wf = true ∧ (gS xs v 1).size ≤ B ∧ (Lit.int .i64 (gI xs v 2)).wf = true ∧ (Lit.int .i64 (gI xs v 3)).wf = true ∧ (Lit.int .i64 (gI xs v 4)).wf = true ∧ True := RISIII.gets h.2 h0 h1
theorem RISIII.row {B : Nat} {xs : List (List D)} (h : SlOk RISIII B xs) {v : Int} (h0 : 0 ≤ v) (h1 : v < xs.length) {β : Type} (F : List D → Option β) : atRow xs v F = F [.int .i64 (gI xs v 0), .str (gS xs v 1), .int .i64 (gI xs v 2), .int .i64 (gI xs v 3), .int .i64 (gI xs v 4)] := RISIII.rows h.2 h0 h1 F
theorem laws_eqHoldS.T {B : Nat} {a0 : List (List D)} (ga0 : SlOk RISIII B a0) (hB : B ≤ 1099511627776) : Tm Fuel (fun k => laws_eqHoldS.t k a0 a0) (fun r => r = true) := by
  unfold laws_eqHoldS.t laws_eqHoldS.g
  have hm := maxLen_eq
  have hlim : lim = 1048576 := rfl
  have hlen := ga0.1
  refine Tm.ite (fun h1 => ?_) (fun h1 => ?_)
  · try simp only [decide_eq_true_eq, decide_eq_false_iff_not, Int.not_lt, Int.not_le, bne_iff_ne, ne_eq, bne_eq_false_iff_eq, beq_iff_eq, beq_eq_false_iff_ne, Bool.not_eq_true', Bool.not_eq_false'] at h1
    exact Tm.ret (by first | rfl | (exfalso; simp [strEq_self] at *))
  · try simp only [decide_eq_true_eq, decide_eq_false_iff_not, Int.not_lt, Int.not_le, bne_iff_ne, ne_eq, bne_eq_false_iff_eq, beq_iff_eq, beq_eq_false_iff_ne, Bool.not_eq_true', Bool.not_eq_false'] at h1
    refine Tm.loop (okk := Fuel) (p := fun k => k) (fun i hi => hi) (b := fun k => laws_eqHoldS.l0 k a0 a0 (fun z0 => some z0)) (fun i => (((a0.length : Int)) - i).toNat) (fun i => 0 ≤ i ∧ i ≤ (a0.length : Int)) ?_ ?_ ?_
    · rintro i hI
      try simp only [] at hI ⊢
      have : big = 2 ^ 64 := rfl
      have := ga0.1
      omega
    · ((try simp only []); omega)
    · rintro i hI L hL
      try simp only [] at hI
      obtain ⟨i0, i1⟩ := hI
      simp only [laws_eqHoldS.l0]
      refine Tm.ite (fun h2 => ?_) (fun h2 => ?_)
      · try simp only [decide_eq_true_eq, decide_eq_false_iff_not, Int.not_lt, Int.not_le, bne_iff_ne, ne_eq, bne_eq_false_iff_eq, beq_iff_eq, beq_eq_false_iff_ne, Bool.not_eq_true', Bool.not_eq_false'] at h2
        refine Tm.atRow (by first | assumption | omega | (simp only [lim, maxLen_eq] at *; omega)) (by first | assumption | omega | (simp only [lim, maxLen_eq] at *; omega)) (fun x3 hx4 hm5 => ?_)
        obtain ⟨c6, c7, c8, c9, c10, rfl, g11, g12, g13, g14, g15, _⟩ := (ga0.2 x3 hm5).open
        refine Tm.uncons ?_
        refine Tm.dInt ?_
        refine Tm.uncons ?_
        refine Tm.dStr ?_
        refine Tm.uncons ?_
        refine Tm.dInt ?_
        refine Tm.uncons ?_
        refine Tm.dInt ?_
        refine Tm.uncons ?_
        refine Tm.dInt ?_
        refine Tm.atEnd ?_
        refine Tm.atRow (by first | assumption | omega | (simp only [lim, maxLen_eq] at *; omega)) (by first | assumption | omega | (simp only [lim, maxLen_eq] at *; omega)) (fun x16 hx17 hm18 => ?_)
        rw [hx4] at hx17
        injection hx17 with hx17
        subst hx17
        refine Tm.uncons ?_
        refine Tm.dInt ?_
        refine Tm.uncons ?_
        refine Tm.dStr ?_
        refine Tm.uncons ?_
        refine Tm.dInt ?_
        refine Tm.uncons ?_
        refine Tm.dInt ?_
        refine Tm.uncons ?_
        refine Tm.dInt ?_
        refine Tm.atEnd ?_
        refine laws_eqHold.tm (fun i hi => hi.1) (laws_eqHold.T (by first | assumption | omega | (simp only [lim, maxLen_eq] at *; omega)) (by first | assumption | omega | (simp only [lim, maxLen_eq] at *; omega))) (fun y25 hy24 => ?_)
        subst hy24
        refine Tm.ite (fun h26 => ?_) (fun h26 => ?_)
        · try simp only [decide_eq_true_eq, decide_eq_false_iff_not, Int.not_lt, Int.not_le, bne_iff_ne, ne_eq, bne_eq_false_iff_eq, beq_iff_eq, beq_eq_false_iff_ne, Bool.not_eq_true', Bool.not_eq_false'] at h26
          exact Tm.ret (by first | rfl | (exfalso; simp [strEq_self] at *))
        · try simp only [decide_eq_true_eq, decide_eq_false_iff_not, Int.not_lt, Int.not_le, bne_iff_ne, ne_eq, bne_eq_false_iff_eq, beq_iff_eq, beq_eq_false_iff_ne, Bool.not_eq_true', Bool.not_eq_false'] at h26
          try rw [wrap_i64 (x := i + 1) (by omega) (by omega)]
          exact hL _ (by (try simp only []); omega) (by (try simp only []); omega)
      · try simp only [decide_eq_true_eq, decide_eq_false_iff_not, Int.not_lt, Int.not_le, bne_iff_ne, ne_eq, bne_eq_false_iff_eq, beq_iff_eq, beq_eq_false_iff_ne, Bool.not_eq_true', Bool.not_eq_false'] at h2
        exact Tm.ret (by first | rfl | (exfalso; simp [strEq_self] at *))
theorem spec_HubNew_t {k : Nat} : spec_HubNew.t k = some (0, 1, 0, [], [], [], []) := by
  unfold spec_HubNew.t spec_HubNew.g
  rfl
theorem spec_HubNew.T : Tm Fuel (fun k => spec_HubNew.t k) (fun z => SlOk RISILISLSEELSELSIEISILSELISILSELXEELSLILSEISILSELISILSELXEEEEB 2097152 (C.immRows z.2.2.2.1) ∧ wtRows (C.immRows z.2.2.2.1) ≤ 1125899906842624 ∧ SlOk RSLSSELSEIII 2097152 (C.immRows z.2.2.2.2.1) ∧ wtRows (C.immRows z.2.2.2.2.1) ≤ 1125899906842624 ∧ SlOk RISIII 2097152 (C.immRows z.2.2.2.2.2.1) ∧ wtRows (C.immRows z.2.2.2.2.2.1) ≤ 1125899906842624 ∧ SlOk RS 2097152 (C.immRows z.2.2.2.2.2.2) ∧ wtRows (C.immRows z.2.2.2.2.2.2) ≤ 1125899906842624 ∧ True) := by
  refine Tm.of (fun k hk => spec_HubNew_t) ?_
  have e : ∀ (R : Nat → List D → Prop), SlOk R 2097152 (C.immRows []) := fun R => ⟨by simp [C.immRows], by simp [C.immRows]⟩
  have w : wtRows (C.immRows []) ≤ 1125899906842624 := by simp [C.immRows, wtRows]
  exact ⟨e _, w, e _, w, e _, w, e _, w, trivial⟩
theorem impl_HubNew.same {k : Nat} (hk : Fuel k) {z0 z1 z2 : Int} {z3 z4 z5 z6 : List (List C)} (hz : spec_HubNew.t k = some (z0, z1, z2, z3, z4, z5, z6)) : impl_HubNew.t k = some (z0, z1, z2, deepRows (C.immRows z3), deepRows (C.immRows z4), deepRows (C.immRows z5), deepRows (C.immRows z6)) := by
  rw [spec_HubNew_t] at hz
  injection hz with hz
  simp only [Prod.mk.injEq] at hz
  obtain ⟨rfl, rfl, rfl, rfl, rfl, rfl, rfl⟩ := hz
  unfold impl_HubNew.t impl_HubNew.g
  simp [C.immRows, deepRows]
theorem laws_eqHub.f_of {β : Type} {k : Nat} {a0_0 : Int} {a0_1 : Int} {a0_2 : Int} {a0_3 : List (List D)} {a0_4 : List (List D)} {a0_5 : List (List D)} {a0_6 : List (List D)} {a1_0 : Int} {a1_1 : Int} {a1_2 : Int} {a1_3 : List (List D)} {a1_4 : List (List D)} {a1_5 : List (List D)} {a1_6 : List (List D)} {z0 : Bool} (h : laws_eqHub.t k a0_0 a0_1 a0_2 a0_3 a0_4 a0_5 a0_6 a1_0 a1_1 a1_2 a1_3 a1_4 a1_5 a1_6 = some z0) (K : Bool → Option β) : laws_eqHub.f k a0_0 a0_1 a0_2 a0_3 a0_4 a0_5 a0_6 a1_0 a1_1 a1_2 a1_3 a1_4 a1_5 a1_6 K = K z0 := by
  unfold laws_eqHub.f
  rw [h]
theorem laws_eqHub.tm {ι α : Type} {ok : ι → Prop} {ψ : α → Prop} {p : ι → Nat} {B : Nat} (hp : ∀ i, ok i → B ≤ p i) {a0_0 : Int} {a0_1 : Int} {a0_2 : Int} {a0_3 : List (List D)} {a0_4 : List (List D)} {a0_5 : List (List D)} {a0_6 : List (List D)} {a1_0 : Int} {a1_1 : Int} {a1_2 : Int} {a1_3 : List (List D)} {a1_4 : List (List D)} {a1_5 : List (List D)} {a1_6 : List (List D)} {φ : Bool → Prop} (h : Tm (fun k => B ≤ k) (fun k => laws_eqHub.t k a0_0 a0_1 a0_2 a0_3 a0_4 a0_5 a0_6 a1_0 a1_1 a1_2 a1_3 a1_4 a1_5 a1_6) φ) {G : ι → Bool → Option α} (hG : ∀ z0, φ z0 → Tm ok (fun i => G i z0) ψ) : Tm ok (fun i => laws_eqHub.f (p i) a0_0 a0_1 a0_2 a0_3 a0_4 a0_5 a0_6 a1_0 a1_1 a1_2 a1_3 a1_4 a1_5 a1_6 (G i)) ψ := by
  obtain ⟨z0, h1, h2⟩ := h
  exact (hG z0 h1).congr fun i hi => laws_eqHub.f_of (h2 (p i) (hp i hi)) _
theorem laws_eqHub.T {B : Nat} {a0_0 : Int} {a0_1 : Int} {a0_2 : Int} {a0_3 : List (List D)} {a0_4 : List (List D)} {a0_5 : List (List D)} {a0_6 : List (List D)} (ga0_3 : SlOk RISILISLSEELSELSIEISILSELISILSELXEELSLILSEISILSELISILSELXEEEEB B a0_3) (ga0_4 : SlOk RSLSSELSEIII B a0_4) (ga0_5 : SlOk RISIII B a0_5) (ga0_6 : SlOk RS B a0_6) (hB : B ≤ 1099511627776) : Tm (FuelN 1) (fun k => laws_eqHub.t k a0_0 a0_1 a0_2 a0_3 a0_4 a0_5 a0_6 a0_0 a0_1 a0_2 a0_3 a0_4 a0_5 a0_6) (fun r => r = true) := by
  unfold laws_eqHub.t laws_eqHub.g
  have hm := maxLen_eq
  have hlim : lim = 1048576 := rfl
  refine Tm.ite (fun h1 => ?_) (fun h1 => ?_)
  · try simp only [decide_eq_true_eq, decide_eq_false_iff_not, Int.not_lt, Int.not_le, bne_iff_ne, ne_eq, bne_eq_false_iff_eq, beq_iff_eq, beq_eq_false_iff_ne, Bool.not_eq_true', Bool.not_eq_false'] at h1
    exact Tm.ret (by first | rfl | (exfalso; simp [strEq_self] at *))
  · try simp only [decide_eq_true_eq, decide_eq_false_iff_not, Int.not_lt, Int.not_le, bne_iff_ne, ne_eq, bne_eq_false_iff_eq, beq_iff_eq, beq_eq_false_iff_ne, Bool.not_eq_true', Bool.not_eq_false'] at h1
    refine Tm.ite (fun h2 => ?_) (fun h2 => ?_)
    · try simp only [decide_eq_true_eq, decide_eq_false_iff_not, Int.not_lt, Int.not_le, bne_iff_ne, ne_eq, bne_eq_false_iff_eq, beq_iff_eq, beq_eq_false_iff_ne, Bool.not_eq_true', Bool.not_eq_false'] at h2
      exact Tm.ret (by first | rfl | (exfalso; simp [strEq_self] at *))
    · try simp only [decide_eq_true_eq, decide_eq_false_iff_not, Int.not_lt, Int.not_le, bne_iff_ne, ne_eq, bne_eq_false_iff_eq, beq_iff_eq, beq_eq_false_iff_ne, Bool.not_eq_true', Bool.not_eq_false'] at h2
      refine Tm.ite (fun h3 => ?_) (fun h3 => ?_)
      · try simp only [decide_eq_true_eq, decide_eq_false_iff_not, Int.not_lt, Int.not_le, bne_iff_ne, ne_eq, bne_eq_false_iff_eq, beq_iff_eq, beq_eq_false_iff_ne, Bool.not_eq_true', Bool.not_eq_false'] at h3
        exact Tm.ret (by first | rfl | (exfalso; simp [strEq_self] at *))
      · try simp only [decide_eq_true_eq, decide_eq_false_iff_not, Int.not_lt, Int.not_le, bne_iff_ne, ne_eq, bne_eq_false_iff_eq, beq_iff_eq, beq_eq_false_iff_ne, Bool.not_eq_true', Bool.not_eq_false'] at h3
        refine laws_eqJobS.tm (fun i hi => hi) (laws_eqJobS.T (by first | assumption | omega | (simp only [lim, maxLen_eq] at *; omega)) (by first | assumption | omega | (simp only [lim, maxLen_eq] at *; omega))) (fun y5 hy4 => ?_)
        subst hy4
        refine Tm.ite (fun h6 => ?_) (fun h6 => ?_)
        · try simp only [decide_eq_true_eq, decide_eq_false_iff_not, Int.not_lt, Int.not_le, bne_iff_ne, ne_eq, bne_eq_false_iff_eq, beq_iff_eq, beq_eq_false_iff_ne, Bool.not_eq_true', Bool.not_eq_false'] at h6
          exact Tm.ret (by first | rfl | (exfalso; simp [strEq_self] at *))
        · try simp only [decide_eq_true_eq, decide_eq_false_iff_not, Int.not_lt, Int.not_le, bne_iff_ne, ne_eq, bne_eq_false_iff_eq, beq_iff_eq, beq_eq_false_iff_ne, Bool.not_eq_true', Bool.not_eq_false'] at h6
          refine laws_eqPostS.tm (fun i hi => up0 hi) (laws_eqPostS.T (by first | assumption | omega | (simp only [lim, maxLen_eq] at *; omega)) (by first | assumption | omega | (simp only [lim, maxLen_eq] at *; omega))) (fun y8 hy7 => ?_)
          subst hy7
          refine Tm.ite (fun h9 => ?_) (fun h9 => ?_)
          · try simp only [decide_eq_true_eq, decide_eq_false_iff_not, Int.not_lt, Int.not_le, bne_iff_ne, ne_eq, bne_eq_false_iff_eq, beq_iff_eq, beq_eq_false_iff_ne, Bool.not_eq_true', Bool.not_eq_false'] at h9
            exact Tm.ret (by first | rfl | (exfalso; simp [strEq_self] at *))
          · try simp only [decide_eq_true_eq, decide_eq_false_iff_not, Int.not_lt, Int.not_le, bne_iff_ne, ne_eq, bne_eq_false_iff_eq, beq_iff_eq, beq_eq_false_iff_ne, Bool.not_eq_true', Bool.not_eq_false'] at h9
            refine laws_eqHoldS.tm (fun i hi => up0 hi) (laws_eqHoldS.T (by first | assumption | omega | (simp only [lim, maxLen_eq] at *; omega)) (by first | assumption | omega | (simp only [lim, maxLen_eq] at *; omega))) (fun y11 hy10 => ?_)
            subst hy10
            refine Tm.ite (fun h12 => ?_) (fun h12 => ?_)
            · try simp only [decide_eq_true_eq, decide_eq_false_iff_not, Int.not_lt, Int.not_le, bne_iff_ne, ne_eq, bne_eq_false_iff_eq, beq_iff_eq, beq_eq_false_iff_ne, Bool.not_eq_true', Bool.not_eq_false'] at h12
              exact Tm.ret (by first | rfl | (exfalso; simp [strEq_self] at *))
            · try simp only [decide_eq_true_eq, decide_eq_false_iff_not, Int.not_lt, Int.not_le, bne_iff_ne, ne_eq, bne_eq_false_iff_eq, beq_iff_eq, beq_eq_false_iff_ne, Bool.not_eq_true', Bool.not_eq_false'] at h12
              refine laws_eqStringS.tm (fun i hi => up0 hi) (laws_eqStringS.T (by first | assumption | omega | (simp only [lim, maxLen_eq] at *; omega)) (by first | assumption | omega | (simp only [lim, maxLen_eq] at *; omega))) (fun y14 hy13 => ?_)
              subst hy13
              refine Tm.ite (fun h15 => ?_) (fun h15 => ?_)
              · try simp only [decide_eq_true_eq, decide_eq_false_iff_not, Int.not_lt, Int.not_le, bne_iff_ne, ne_eq, bne_eq_false_iff_eq, beq_iff_eq, beq_eq_false_iff_ne, Bool.not_eq_true', Bool.not_eq_false'] at h15
                exact Tm.ret (by first | rfl | (exfalso; simp [strEq_self] at *))
              · try simp only [decide_eq_true_eq, decide_eq_false_iff_not, Int.not_lt, Int.not_le, bne_iff_ne, ne_eq, bne_eq_false_iff_eq, beq_iff_eq, beq_eq_false_iff_ne, Bool.not_eq_true', Bool.not_eq_false'] at h15
                exact Tm.ret (by first | rfl | (exfalso; simp [strEq_self] at *))
theorem laws_markText.f_of {β : Type} {k : Nat} {a0 : Int} {z0 : ByteArray} (h : laws_markText.t k a0 = some z0) (K : ByteArray → Option β) : laws_markText.f k a0 K = K z0 := by
  unfold laws_markText.f
  rw [h]
theorem laws_markText.tm {ι α : Type} {ok : ι → Prop} {ψ : α → Prop} {p : ι → Nat} {B : Nat} (hp : ∀ i, ok i → B ≤ p i) {a0 : Int} {φ : ByteArray → Prop} (h : Tm (fun k => B ≤ k) (fun k => laws_markText.t k a0) φ) {G : ι → ByteArray → Option α} (hG : ∀ z0, φ z0 → Tm ok (fun i => G i z0) ψ) : Tm ok (fun i => laws_markText.f (p i) a0 (G i)) ψ := by
  obtain ⟨z0, h1, h2⟩ := h
  exact (hG z0 h1).congr fun i hi => laws_markText.f_of (h2 (p i) (hp i hi)) _
theorem laws_markText.T {a0 : Int} (h1 : a0 ≤ 4611686018427387904) : Tm Fuel (fun k => laws_markText.t k a0) (fun _ => True) := by
  unfold laws_markText.t laws_markText.g
  have hb : big = 2 ^ 64 := rfl
  refine Tm.ite (fun _ => Tm.ret trivial) (fun h => ?_)
  simp only [decide_eq_false_iff_not, Int.not_le] at h
  refine Tm.loop (okk := Fuel) (p := fun k => k) (fun i hi => hi) (b := fun k => laws_markText.l0 k (fun z0 => some z0)) (fun v => match v with | (u, s) => u.toNat) (fun v => match v with | (u, s) => 0 ≤ u ∧ u + s.size ≤ a0) ?_ ?_ ?_
  · rintro ⟨u, s⟩ hI
    simp only [] at hI ⊢
    omega
  · simp only []
    have : (⟨#[]⟩ : ByteArray).size = 0 := rfl
    omega
  · rintro ⟨u, s⟩ hI L hL
    simp only [] at hI
    obtain ⟨u0, u1⟩ := hI
    simp only [laws_markText.l0]
    refine Tm.ite (fun h4 => ?_) (fun h4 => ?_)
    · simp only [decide_eq_true_eq] at h4
      have e1 : ∀ x : UInt8, (⟨#[x]⟩ : ByteArray).size = 1 := fun _ => rfl
      have ed : Int.tdiv u 10 = u / 10 := Int.tdiv_eq_ediv_of_nonneg (by omega)
      refine Tm.guard (by decide) (Tm.guard (by rw [e1]; omega) (Tm.guard (by decide) ?_))
      rw [ed, wrap_i64 (x := u / 10) (by omega) (by omega)]
      refine hL (_, _) ⟨by omega, ?_⟩ (by simp only []; omega)
      rw [ByteArray.size_append, e1]
      omega
    · have e1 : (⟨#[109]⟩ : ByteArray).size = 1 := rfl
      exact Tm.guard (by rw [e1]; omega) (Tm.ret trivial)
noncomputable def laws_markText.v (a0 : Int) : ByteArray := (laws_markText.t big a0).getD default
theorem laws_markText.tv {a0 : Int} (h1 : a0 ≤ 4611686018427387904) {k : Nat} (hk : Fuel k) : laws_markText.t k a0 = some (laws_markText.v a0) := (laws_markText.T h1).val hk
theorem laws_markText.fv {a0 : Int} (h1 : a0 ≤ 4611686018427387904) {k : Nat} (hk : Fuel k) {β : Type} (K : ByteArray → Option β) : laws_markText.f k a0 K = K (laws_markText.v a0) := laws_markText.f_of (laws_markText.tv h1 hk) K
theorem laws_markStringS.f_of {β : Type} {k : Nat} {a0 : List (List C)} {a1 : Int} {z0 : Int} {z1 : List (List C)} (h : laws_markStringS.t k a0 a1 = some (z0, z1)) (K : Int → (List (List C)) → Option β) : laws_markStringS.f k a0 a1 K = K z0 z1 := by
  unfold laws_markStringS.f
  rw [h]
theorem laws_markStringS.tm {ι α : Type} {ok : ι → Prop} {ψ : α → Prop} {p : ι → Nat} {B : Nat} (hp : ∀ i, ok i → B ≤ p i) {a0 : List (List C)} {a1 : Int} {φ : Int × (List (List C)) → Prop} (h : Tm (fun k => B ≤ k) (fun k => laws_markStringS.t k a0 a1) φ) {G : ι → Int → (List (List C)) → Option α} (hG : ∀ z0 z1, φ (z0, z1) → Tm ok (fun i => G i z0 z1) ψ) : Tm ok (fun i => laws_markStringS.f (p i) a0 a1 (G i)) ψ := by
  obtain ⟨⟨z0, z1⟩, h1, h2⟩ := h
  exact (hG z0 z1 h1).congr fun i hi => laws_markStringS.f_of (h2 (p i) (hp i hi)) _
theorem laws_markTermS.f_of {β : Type} {k : Nat} {a0 : List (List C)} {a1 : Int} {z0 : Int} {z1 : List (List C)} (h : laws_markTermS.t k a0 a1 = some (z0, z1)) (K : Int → (List (List C)) → Option β) : laws_markTermS.f k a0 a1 K = K z0 z1 := by
  unfold laws_markTermS.f
  rw [h]
theorem laws_markTermS.tm {ι α : Type} {ok : ι → Prop} {ψ : α → Prop} {p : ι → Nat} {B : Nat} (hp : ∀ i, ok i → B ≤ p i) {a0 : List (List C)} {a1 : Int} {φ : Int × (List (List C)) → Prop} (h : Tm (fun k => B ≤ k) (fun k => laws_markTermS.t k a0 a1) φ) {G : ι → Int → (List (List C)) → Option α} (hG : ∀ z0 z1, φ (z0, z1) → Tm ok (fun i => G i z0 z1) ψ) : Tm ok (fun i => laws_markTermS.f (p i) a0 a1 (G i)) ψ := by
  obtain ⟨⟨z0, z1⟩, h1, h2⟩ := h
  exact (hG z0 z1 h1).congr fun i hi => laws_markTermS.f_of (h2 (p i) (hp i hi)) _
theorem laws_markWeighS.f_of {β : Type} {k : Nat} {a0 : List (List C)} {a1 : Int} {z0 : Int} {z1 : List (List C)} (h : laws_markWeighS.t k a0 a1 = some (z0, z1)) (K : Int → (List (List C)) → Option β) : laws_markWeighS.f k a0 a1 K = K z0 z1 := by
  unfold laws_markWeighS.f
  rw [h]
theorem laws_markWeighS.tm {ι α : Type} {ok : ι → Prop} {ψ : α → Prop} {p : ι → Nat} {B : Nat} (hp : ∀ i, ok i → B ≤ p i) {a0 : List (List C)} {a1 : Int} {φ : Int × (List (List C)) → Prop} (h : Tm (fun k => B ≤ k) (fun k => laws_markWeighS.t k a0 a1) φ) {G : ι → Int → (List (List C)) → Option α} (hG : ∀ z0 z1, φ (z0, z1) → Tm ok (fun i => G i z0 z1) ψ) : Tm ok (fun i => laws_markWeighS.f (p i) a0 a1 (G i)) ψ := by
  obtain ⟨⟨z0, z1⟩, h1, h2⟩ := h
  exact (hG z0 z1 h1).congr fun i hi => laws_markWeighS.f_of (h2 (p i) (hp i hi)) _
theorem laws_markValueS.f_of {β : Type} {k : Nat} {a0 : List (List C)} {a1 : Int} {z0 : Int} {z1 : List (List C)} (h : laws_markValueS.t k a0 a1 = some (z0, z1)) (K : Int → (List (List C)) → Option β) : laws_markValueS.f k a0 a1 K = K z0 z1 := by
  unfold laws_markValueS.f
  unfold laws_markValueS.w
  rw [h]
theorem laws_markValueS.tm {ι α : Type} {ok : ι → Prop} {ψ : α → Prop} {p : ι → Nat} {B : Nat} (hp : ∀ i, ok i → B ≤ p i) {a0 : List (List C)} {a1 : Int} {φ : Int × (List (List C)) → Prop} (h : Tm (fun k => B ≤ k) (fun k => laws_markValueS.t k a0 a1) φ) {G : ι → Int → (List (List C)) → Option α} (hG : ∀ z0 z1, φ (z0, z1) → Tm ok (fun i => G i z0 z1) ψ) : Tm ok (fun i => laws_markValueS.f (p i) a0 a1 (G i)) ψ := by
  obtain ⟨⟨z0, z1⟩, h1, h2⟩ := h
  exact (hG z0 z1 h1).congr fun i hi => laws_markValueS.f_of (h2 (p i) (hp i hi)) _
theorem laws_markOpS.f_of {β : Type} {k : Nat} {a0 : List (List C)} {a1 : Int} {z0 : Int} {z1 : List (List C)} (h : laws_markOpS.t k a0 a1 = some (z0, z1)) (K : Int → (List (List C)) → Option β) : laws_markOpS.f k a0 a1 K = K z0 z1 := by
  unfold laws_markOpS.f
  rw [h]
theorem laws_markOpS.tm {ι α : Type} {ok : ι → Prop} {ψ : α → Prop} {p : ι → Nat} {B : Nat} (hp : ∀ i, ok i → B ≤ p i) {a0 : List (List C)} {a1 : Int} {φ : Int × (List (List C)) → Prop} (h : Tm (fun k => B ≤ k) (fun k => laws_markOpS.t k a0 a1) φ) {G : ι → Int → (List (List C)) → Option α} (hG : ∀ z0 z1, φ (z0, z1) → Tm ok (fun i => G i z0 z1) ψ) : Tm ok (fun i => laws_markOpS.f (p i) a0 a1 (G i)) ψ := by
  obtain ⟨⟨z0, z1⟩, h1, h2⟩ := h
  exact (hG z0 z1 h1).congr fun i hi => laws_markOpS.f_of (h2 (p i) (hp i hi)) _
theorem laws_markOverS.f_of {β : Type} {k : Nat} {a0 : List (List C)} {a1 : Int} {z0 : Int} {z1 : List (List C)} (h : laws_markOverS.t k a0 a1 = some (z0, z1)) (K : Int → (List (List C)) → Option β) : laws_markOverS.f k a0 a1 K = K z0 z1 := by
  unfold laws_markOverS.f
  rw [h]
theorem laws_markOverS.tm {ι α : Type} {ok : ι → Prop} {ψ : α → Prop} {p : ι → Nat} {B : Nat} (hp : ∀ i, ok i → B ≤ p i) {a0 : List (List C)} {a1 : Int} {φ : Int × (List (List C)) → Prop} (h : Tm (fun k => B ≤ k) (fun k => laws_markOverS.t k a0 a1) φ) {G : ι → Int → (List (List C)) → Option α} (hG : ∀ z0 z1, φ (z0, z1) → Tm ok (fun i => G i z0 z1) ψ) : Tm ok (fun i => laws_markOverS.f (p i) a0 a1 (G i)) ψ := by
  obtain ⟨⟨z0, z1⟩, h1, h2⟩ := h
  exact (hG z0 z1 h1).congr fun i hi => laws_markOverS.f_of (h2 (p i) (hp i hi)) _
theorem laws_markJobS.f_of {β : Type} {k : Nat} {a0 : List (List C)} {a1 : Int} {z0 : Int} {z1 : List (List C)} (h : laws_markJobS.t k a0 a1 = some (z0, z1)) (K : Int → (List (List C)) → Option β) : laws_markJobS.f k a0 a1 K = K z0 z1 := by
  unfold laws_markJobS.f
  rw [h]
theorem laws_markJobS.tm {ι α : Type} {ok : ι → Prop} {ψ : α → Prop} {p : ι → Nat} {B : Nat} (hp : ∀ i, ok i → B ≤ p i) {a0 : List (List C)} {a1 : Int} {φ : Int × (List (List C)) → Prop} (h : Tm (fun k => B ≤ k) (fun k => laws_markJobS.t k a0 a1) φ) {G : ι → Int → (List (List C)) → Option α} (hG : ∀ z0 z1, φ (z0, z1) → Tm ok (fun i => G i z0 z1) ψ) : Tm ok (fun i => laws_markJobS.f (p i) a0 a1 (G i)) ψ := by
  obtain ⟨⟨z0, z1⟩, h1, h2⟩ := h
  exact (hG z0 z1 h1).congr fun i hi => laws_markJobS.f_of (h2 (p i) (hp i hi)) _
theorem laws_markLabelS.f_of {β : Type} {k : Nat} {a0 : List (List C)} {a1 : Int} {z0 : Int} {z1 : List (List C)} (h : laws_markLabelS.t k a0 a1 = some (z0, z1)) (K : Int → (List (List C)) → Option β) : laws_markLabelS.f k a0 a1 K = K z0 z1 := by
  unfold laws_markLabelS.f
  rw [h]
theorem laws_markLabelS.tm {ι α : Type} {ok : ι → Prop} {ψ : α → Prop} {p : ι → Nat} {B : Nat} (hp : ∀ i, ok i → B ≤ p i) {a0 : List (List C)} {a1 : Int} {φ : Int × (List (List C)) → Prop} (h : Tm (fun k => B ≤ k) (fun k => laws_markLabelS.t k a0 a1) φ) {G : ι → Int → (List (List C)) → Option α} (hG : ∀ z0 z1, φ (z0, z1) → Tm ok (fun i => G i z0 z1) ψ) : Tm ok (fun i => laws_markLabelS.f (p i) a0 a1 (G i)) ψ := by
  obtain ⟨⟨z0, z1⟩, h1, h2⟩ := h
  exact (hG z0 z1 h1).congr fun i hi => laws_markLabelS.f_of (h2 (p i) (hp i hi)) _
theorem laws_markPostS.f_of {β : Type} {k : Nat} {a0 : List (List C)} {a1 : Int} {z0 : Int} {z1 : List (List C)} (h : laws_markPostS.t k a0 a1 = some (z0, z1)) (K : Int → (List (List C)) → Option β) : laws_markPostS.f k a0 a1 K = K z0 z1 := by
  unfold laws_markPostS.f
  rw [h]
theorem laws_markPostS.tm {ι α : Type} {ok : ι → Prop} {ψ : α → Prop} {p : ι → Nat} {B : Nat} (hp : ∀ i, ok i → B ≤ p i) {a0 : List (List C)} {a1 : Int} {φ : Int × (List (List C)) → Prop} (h : Tm (fun k => B ≤ k) (fun k => laws_markPostS.t k a0 a1) φ) {G : ι → Int → (List (List C)) → Option α} (hG : ∀ z0 z1, φ (z0, z1) → Tm ok (fun i => G i z0 z1) ψ) : Tm ok (fun i => laws_markPostS.f (p i) a0 a1 (G i)) ψ := by
  obtain ⟨⟨z0, z1⟩, h1, h2⟩ := h
  exact (hG z0 z1 h1).congr fun i hi => laws_markPostS.f_of (h2 (p i) (hp i hi)) _
theorem laws_markHoldS.f_of {β : Type} {k : Nat} {a0 : List (List C)} {a1 : Int} {z0 : Int} {z1 : List (List C)} (h : laws_markHoldS.t k a0 a1 = some (z0, z1)) (K : Int → (List (List C)) → Option β) : laws_markHoldS.f k a0 a1 K = K z0 z1 := by
  unfold laws_markHoldS.f
  rw [h]
theorem laws_markHoldS.tm {ι α : Type} {ok : ι → Prop} {ψ : α → Prop} {p : ι → Nat} {B : Nat} (hp : ∀ i, ok i → B ≤ p i) {a0 : List (List C)} {a1 : Int} {φ : Int × (List (List C)) → Prop} (h : Tm (fun k => B ≤ k) (fun k => laws_markHoldS.t k a0 a1) φ) {G : ι → Int → (List (List C)) → Option α} (hG : ∀ z0 z1, φ (z0, z1) → Tm ok (fun i => G i z0 z1) ψ) : Tm ok (fun i => laws_markHoldS.f (p i) a0 a1 (G i)) ψ := by
  obtain ⟨⟨z0, z1⟩, h1, h2⟩ := h
  exact (hG z0 z1 h1).congr fun i hi => laws_markHoldS.f_of (h2 (p i) (hp i hi)) _
theorem laws_markHub.f_of {β : Type} {k : Nat} {a0_0 : Int} {a0_1 : Int} {a0_2 : Int} {a0_3 : List (List C)} {a0_4 : List (List C)} {a0_5 : List (List C)} {a0_6 : List (List C)} {a1 : Int} {z0 : Int} {z1 : List (List C)} {z2 : List (List C)} {z3 : List (List C)} {z4 : List (List C)} (h : laws_markHub.t k a0_0 a0_1 a0_2 a0_3 a0_4 a0_5 a0_6 a1 = some (z0, z1, z2, z3, z4)) (K : Int → (List (List C)) → (List (List C)) → (List (List C)) → (List (List C)) → Option β) : laws_markHub.f k a0_0 a0_1 a0_2 a0_3 a0_4 a0_5 a0_6 a1 K = K z0 z1 z2 z3 z4 := by
  unfold laws_markHub.f
  rw [h]
theorem laws_markHub.tm {ι α : Type} {ok : ι → Prop} {ψ : α → Prop} {p : ι → Nat} {B : Nat} (hp : ∀ i, ok i → B ≤ p i) {a0_0 : Int} {a0_1 : Int} {a0_2 : Int} {a0_3 : List (List C)} {a0_4 : List (List C)} {a0_5 : List (List C)} {a0_6 : List (List C)} {a1 : Int} {φ : Int × (List (List C)) × (List (List C)) × (List (List C)) × (List (List C)) → Prop} (h : Tm (fun k => B ≤ k) (fun k => laws_markHub.t k a0_0 a0_1 a0_2 a0_3 a0_4 a0_5 a0_6 a1) φ) {G : ι → Int → (List (List C)) → (List (List C)) → (List (List C)) → (List (List C)) → Option α} (hG : ∀ z0 z1 z2 z3 z4, φ (z0, z1, z2, z3, z4) → Tm ok (fun i => G i z0 z1 z2 z3 z4) ψ) : Tm ok (fun i => laws_markHub.f (p i) a0_0 a0_1 a0_2 a0_3 a0_4 a0_5 a0_6 a1 (G i)) ψ := by
  obtain ⟨⟨z0, z1, z2, z3, z4⟩, h1, h2⟩ := h
  exact (hG z0 z1 z2 z3 z4 h1).congr fun i hi => laws_markHub.f_of (h2 (p i) (hp i hi)) _
theorem laws_heldStringS.f_of {β : Type} {k : Nat} {a0 : List (List D)} {a1 : Int} {z0 : Int} (h : laws_heldStringS.t k a0 a1 = some z0) (K : Int → Option β) : laws_heldStringS.f k a0 a1 K = K z0 := by
  unfold laws_heldStringS.f
  rw [h]
theorem laws_heldStringS.tm {ι α : Type} {ok : ι → Prop} {ψ : α → Prop} {p : ι → Nat} {B : Nat} (hp : ∀ i, ok i → B ≤ p i) {a0 : List (List D)} {a1 : Int} {φ : Int → Prop} (h : Tm (fun k => B ≤ k) (fun k => laws_heldStringS.t k a0 a1) φ) {G : ι → Int → Option α} (hG : ∀ z0, φ z0 → Tm ok (fun i => G i z0) ψ) : Tm ok (fun i => laws_heldStringS.f (p i) a0 a1 (G i)) ψ := by
  obtain ⟨z0, h1, h2⟩ := h
  exact (hG z0 h1).congr fun i hi => laws_heldStringS.f_of (h2 (p i) (hp i hi)) _
set_option maxRecDepth 100000 in
set_option maxHeartbeats 8000000 in
theorem laws_heldStringS.step {u : Int}  (h0 : 0 ≤ u)  (h1 : u + 1 ≤ 4611686018427387904) {k : Nat} (hk : Fuel k) : HStep (fun xs L v => laws_heldStringS.l0 k xs (fun z0 => some z0) L v) u [.str (laws_markText.v (u))] (u + 1) := by
  have hk0 : Fuel k := hk
  intro xs i i0 i1 hl hr L
  simp (maxSteps := 4000000) (disch := first | assumption | omega) only [laws_heldStringS.l0, dec_true i1, cond_true, cond_false, atRow_gR i0 i1, hr, uncons_at, dInt_self, dStr_at, dBool_at, dSl_at, atEnd_at, wrap_i64, laws_markText.fv, strEq_self, bne_self_eq_false, beq_self_eq_true, Bool.not_true]
set_option maxRecDepth 100000 in
set_option maxHeartbeats 8000000 in
theorem laws_markStringS.T {B : Nat} (hB : B ≤ 1099511627776) {xs : List (List D)} {n : Int} (g : SlOk RS B xs) (h0 : 0 ≤ n) (h1 : n + wtRows xs ≤ 4611686018427387904) : Tm Fuel (fun k => laws_markStringS.t k (deepRows xs) n) (fun z => ∃ ys, z.2 = deepRows ys ∧ ys.length = xs.length ∧ z.1 = n + wtRows xs ∧ ∀ k, Fuel k → laws_heldStringS.t k ys n = some z.1) := by
  have hb : big = 2 ^ 64 := rfl
  have hl := g.1
  have key : Tm Fuel (fun k => laws_markStringS.t k (deepRows xs) n) (fun z => ∃ ys, z.2 = deepRows ys ∧ ys.length = xs.length ∧ z.1 = n + wtRows xs ∧ HeldL (fun u r u' => ∀ k, Fuel k → HStep (fun xs L v => laws_heldStringS.l0 k xs (fun z0 => some z0) L v) u r u') n ys z.1) := by
    unfold laws_markStringS.t laws_markStringS.g
    refine Tm.loop (okk := Fuel) (p := fun k => k) (fun i hi => hi) (b := fun k => laws_markStringS.l0 k (fun z0 z1 => some (z0, z1))) (fun v => match v with | (u, i, tab) => ((xs.length : Int) - i).toNat) (fun v => match v with | (u, i, tab) => 0 ≤ i ∧ i ≤ xs.length ∧ ∃ done : List (List D), done.length = i.toNat ∧ tab = deepRows done ++ deepRows (xs.drop i.toNat) ∧ u = n + wtRows (xs.take i.toNat) ∧ HeldL (fun u r u' => ∀ k, Fuel k → HStep (fun xs L v => laws_heldStringS.l0 k xs (fun z0 => some z0) L v) u r u') n done u) ?_ ?_ ?_
    · rintro ⟨u, i, tab⟩ hI
      simp only [] at hI ⊢
      omega
    · exact ⟨by omega, by omega, [], rfl, by simp [deepRows], by simp [wtRows], .nil⟩
    · rintro ⟨u, i, tab⟩ hI L hL
      simp only [] at hI
      obtain ⟨i0, i1, done, hd, rfl, hu, hH⟩ := hI
      have hA : (deepRows done).length = i.toNat := by rw [deepRows_length, hd]
      have hT : (deepRows done ++ deepRows (xs.drop i.toNat)).length = xs.length := by rw [List.length_append, hA, deepRows_length, List.length_drop]; omega
      simp only [laws_markStringS.l0]
      refine Tm.ite (fun h4 => ?_) (fun h4 => ?_)
      · simp only [decide_eq_true_eq, hT] at h4
        have hx := gR_at i0 h4
        obtain ⟨c0, e, k0, _⟩ := (g.2 _ (gR_mem i0 h4)).open
        rw [e] at hx
        have hdr := drop_at i0 hx
        have hw := wt_take i0 hx
        simp only [wtCells, wtD] at hw
        have hs := wt_split xs (i + 1).toNat
        rw [hdr] at hT ⊢
        simp only [deepRows, deepCells, deepD] at hT ⊢
        have hT2 := hT
        simp only [List.length_append, List.length_cons] at hT2
        try simp (disch := omega) only [wrap_i64]
        refine laws_markText.tm (fun i hi => hi.1) (Tm.at (ok := Fuel) (v := laws_markText.v _) (fun k hk => laws_markText.tv (by omega) hk)) (fun y hy => ?_)
        subst hy
        refine Tm.guard (by first | decide | (simp only [List.length_modify, List.length_append, List.length_cons]; omega)) ?_
        refine Tm.guard (by first | decide | (simp only [List.length_modify, List.length_append, List.length_cons]; omega)) ?_
        try simp (disch := omega) only [wrap_i64]
        try simp only [modify_mid hA, splice, List.take_zero, List.take_succ_cons, List.drop_succ_cons, List.drop_zero, List.nil_append, List.cons_append, List.length_cons, List.length_nil, Nat.zero_add, Nat.reduceAdd, List.set_cons_succ, List.set_cons_zero]
        refine hL (_, _, _) ⟨by omega, by omega, done ++ [[.str (laws_markText.v (u))]], by simp only [List.length_append, List.length_cons, List.length_nil]; omega, ?_, by omega, HeldL.snoc hH (fun k hk => laws_heldStringS.step (by omega) (by omega) hk)⟩ (by simp only []; omega)
        rw [deepRows_append]
        simp only [deepRows, deepCells, deepD, List.append_assoc, List.cons_append, List.nil_append]
      · simp only [decide_eq_false_iff_not, hT] at h4
        refine Tm.ret ⟨done, ?_, by omega, ?_, hH⟩
        · rw [List.drop_eq_nil_of_le (by omega)]
          simp only [deepRows, List.append_nil]
        · rw [List.take_of_length_le (by omega)] at hu
          exact hu
  obtain ⟨v, ⟨ys, e1, e2, e3, hH⟩, h2⟩ := key
  exact ⟨v, ⟨ys, e1, e2, e3, fun k hk => by
    have hk0 : Fuel k := hk
    unfold laws_heldStringS.t laws_heldStringS.g
    exact held_run (b := fun xs L v => laws_heldStringS.l0 k xs (fun z0 => some z0) L v) (by omega) (hH.mono fun _ _ _ h => h k hk) (by omega) (fun L => by simp [laws_heldStringS.l0])⟩, h2⟩
theorem laws_heldTermS.f_of {β : Type} {k : Nat} {a0 : List (List D)} {a1 : Int} {z0 : Int} (h : laws_heldTermS.t k a0 a1 = some z0) (K : Int → Option β) : laws_heldTermS.f k a0 a1 K = K z0 := by
  unfold laws_heldTermS.f
  rw [h]
theorem laws_heldTermS.tm {ι α : Type} {ok : ι → Prop} {ψ : α → Prop} {p : ι → Nat} {B : Nat} (hp : ∀ i, ok i → B ≤ p i) {a0 : List (List D)} {a1 : Int} {φ : Int → Prop} (h : Tm (fun k => B ≤ k) (fun k => laws_heldTermS.t k a0 a1) φ) {G : ι → Int → Option α} (hG : ∀ z0, φ z0 → Tm ok (fun i => G i z0) ψ) : Tm ok (fun i => laws_heldTermS.f (p i) a0 a1 (G i)) ψ := by
  obtain ⟨z0, h1, h2⟩ := h
  exact (hG z0 h1).congr fun i hi => laws_heldTermS.f_of (h2 (p i) (hp i hi)) _
set_option maxRecDepth 100000 in
set_option maxHeartbeats 8000000 in
theorem laws_heldTermS.step {u : Int} {ys2 : List (List D)} {n2 : Int} (h0 : 0 ≤ u) (hn2 : u + 1 + 1 ≤ n2) (hh2 : ∀ k, Fuel k → laws_heldStringS.t k ys2 (u + 1 + 1) = some n2) (h1 : n2 ≤ 4611686018427387904) {k : Nat} (hk : Fuel k) : HStep (fun xs L v => laws_heldTermS.l0 k xs (fun z0 => some z0) L v) u [.int .i64 (u), .str (laws_markText.v (u + 1)), .sl ys2] (n2) := by
  have hk0 : Fuel k := hk
  intro xs i i0 i1 hl hr L
  simp (maxSteps := 4000000) (disch := first | assumption | omega) only [laws_heldTermS.l0, dec_true i1, cond_true, cond_false, atRow_gR i0 i1, hr, uncons_at, dInt_self, dStr_at, dBool_at, dSl_at, atEnd_at, wrap_i64, laws_markText.fv, strEq_self, bne_self_eq_false, beq_self_eq_true, Bool.not_true, laws_heldStringS.f_of (hh2 k hk), dec_false (show ¬ n2 < 0 by omega)]
set_option maxRecDepth 100000 in
set_option maxHeartbeats 8000000 in
theorem laws_markTermS.T {B : Nat} (hB : B ≤ 1099511627776) {xs : List (List D)} {n : Int} (g : SlOk RISLSE B xs) (h0 : 0 ≤ n) (h1 : n + wtRows xs ≤ 4611686018427387904) : Tm Fuel (fun k => laws_markTermS.t k (deepRows xs) n) (fun z => ∃ ys, z.2 = deepRows ys ∧ ys.length = xs.length ∧ z.1 = n + wtRows xs ∧ ∀ k, Fuel k → laws_heldTermS.t k ys n = some z.1) := by
  have hb : big = 2 ^ 64 := rfl
  have hl := g.1
  have key : Tm Fuel (fun k => laws_markTermS.t k (deepRows xs) n) (fun z => ∃ ys, z.2 = deepRows ys ∧ ys.length = xs.length ∧ z.1 = n + wtRows xs ∧ HeldL (fun u r u' => ∀ k, Fuel k → HStep (fun xs L v => laws_heldTermS.l0 k xs (fun z0 => some z0) L v) u r u') n ys z.1) := by
    unfold laws_markTermS.t laws_markTermS.g
    refine Tm.loop (okk := Fuel) (p := fun k => k) (fun i hi => hi) (b := fun k => laws_markTermS.l0 k (fun z0 z1 => some (z0, z1))) (fun v => match v with | (u, i, tab) => ((xs.length : Int) - i).toNat) (fun v => match v with | (u, i, tab) => 0 ≤ i ∧ i ≤ xs.length ∧ ∃ done : List (List D), done.length = i.toNat ∧ tab = deepRows done ++ deepRows (xs.drop i.toNat) ∧ u = n + wtRows (xs.take i.toNat) ∧ HeldL (fun u r u' => ∀ k, Fuel k → HStep (fun xs L v => laws_heldTermS.l0 k xs (fun z0 => some z0) L v) u r u') n done u) ?_ ?_ ?_
    · rintro ⟨u, i, tab⟩ hI
      simp only [] at hI ⊢
      omega
    · exact ⟨by omega, by omega, [], rfl, by simp [deepRows], by simp [wtRows], .nil⟩
    · rintro ⟨u, i, tab⟩ hI L hL
      simp only [] at hI
      obtain ⟨i0, i1, done, hd, rfl, hu, hH⟩ := hI
      have hA : (deepRows done).length = i.toNat := by rw [deepRows_length, hd]
      have hT : (deepRows done ++ deepRows (xs.drop i.toNat)).length = xs.length := by rw [List.length_append, hA, deepRows_length, List.length_drop]; omega
      simp only [laws_markTermS.l0]
      refine Tm.ite (fun h4 => ?_) (fun h4 => ?_)
      · simp only [decide_eq_true_eq, hT] at h4
        have hx := gR_at i0 h4
        obtain ⟨c0, c1, c2, e, k0, k1, k2, _⟩ := (g.2 _ (gR_mem i0 h4)).open
        rw [e] at hx
        have hdr := drop_at i0 hx
        have hw := wt_take i0 hx
        simp only [wtCells, wtD] at hw
        have hs := wt_split xs (i + 1).toNat
        rw [hdr] at hT ⊢
        simp only [deepRows, deepCells, deepD] at hT ⊢
        have hT2 := hT
        simp only [List.length_append, List.length_cons] at hT2
        refine Tm.guard (by first | decide | (simp only [List.length_modify, List.length_append, List.length_cons]; omega)) ?_
        refine Tm.guard (by first | decide | (simp only [List.length_modify, List.length_append, List.length_cons]; omega)) ?_
        try simp (disch := omega) only [wrap_i64]
        refine laws_markText.tm (fun i hi => hi.1) (Tm.at (ok := Fuel) (v := laws_markText.v _) (fun k hk => laws_markText.tv (by omega) hk)) (fun y hy => ?_)
        subst hy
        refine Tm.guard (by first | decide | (simp only [List.length_modify, List.length_append, List.length_cons]; omega)) ?_
        refine Tm.guard (by first | decide | (simp only [List.length_modify, List.length_append, List.length_cons]; omega)) ?_
        refine Tm.guard (by first | decide | (simp only [List.length_modify, List.length_append, List.length_cons]; omega)) ?_
        try simp only [modify_mid hA, atNat_mid hA, splice, List.take_zero, List.take_succ_cons, List.drop_succ_cons, List.drop_zero, List.nil_append, List.cons_append, List.length_cons, List.length_nil, Nat.zero_add, Nat.reduceAdd, List.set_cons_succ, List.set_cons_zero]
        refine Tm.uncons ?_
        refine Tm.cOwn ?_
        try simp (disch := omega) only [wrap_i64]
        refine laws_markStringS.tm (fun i hi => hi.1) (laws_markStringS.T hB k2 (by omega) (by omega)) (fun y2 t2 hy => ?_)
        obtain ⟨ys2, et2, el2, en2, hh2⟩ := hy
        simp only [] at et2 en2 hh2
        subst et2 en2
        try simp (disch := omega) only [wrap_i64]
        try simp only [modify_mid hA, splice, List.take_zero, List.take_succ_cons, List.drop_succ_cons, List.drop_zero, List.nil_append, List.cons_append, List.length_cons, List.length_nil, Nat.zero_add, Nat.reduceAdd, List.set_cons_succ, List.set_cons_zero]
        refine hL (_, _, _) ⟨by omega, by omega, done ++ [[.int .i64 (u), .str (laws_markText.v (u + 1)), .sl ys2]], by simp only [List.length_append, List.length_cons, List.length_nil]; omega, ?_, by omega, HeldL.snoc hH (fun k hk => laws_heldTermS.step (by omega) (by omega) hh2 (by omega) hk)⟩ (by simp only []; omega)
        rw [deepRows_append]
        simp only [deepRows, deepCells, deepD, List.append_assoc, List.cons_append, List.nil_append]
      · simp only [decide_eq_false_iff_not, hT] at h4
        refine Tm.ret ⟨done, ?_, by omega, ?_, hH⟩
        · rw [List.drop_eq_nil_of_le (by omega)]
          simp only [deepRows, List.append_nil]
        · rw [List.take_of_length_le (by omega)] at hu
          exact hu
  obtain ⟨v, ⟨ys, e1, e2, e3, hH⟩, h2⟩ := key
  exact ⟨v, ⟨ys, e1, e2, e3, fun k hk => by
    have hk0 : Fuel k := hk
    unfold laws_heldTermS.t laws_heldTermS.g
    exact held_run (b := fun xs L v => laws_heldTermS.l0 k xs (fun z0 => some z0) L v) (by omega) (hH.mono fun _ _ _ h => h k hk) (by omega) (fun L => by simp [laws_heldTermS.l0])⟩, h2⟩
theorem laws_heldWeighS.f_of {β : Type} {k : Nat} {a0 : List (List D)} {a1 : Int} {z0 : Int} (h : laws_heldWeighS.t k a0 a1 = some z0) (K : Int → Option β) : laws_heldWeighS.f k a0 a1 K = K z0 := by
  unfold laws_heldWeighS.f
  rw [h]
theorem laws_heldWeighS.tm {ι α : Type} {ok : ι → Prop} {ψ : α → Prop} {p : ι → Nat} {B : Nat} (hp : ∀ i, ok i → B ≤ p i) {a0 : List (List D)} {a1 : Int} {φ : Int → Prop} (h : Tm (fun k => B ≤ k) (fun k => laws_heldWeighS.t k a0 a1) φ) {G : ι → Int → Option α} (hG : ∀ z0, φ z0 → Tm ok (fun i => G i z0) ψ) : Tm ok (fun i => laws_heldWeighS.f (p i) a0 a1 (G i)) ψ := by
  obtain ⟨z0, h1, h2⟩ := h
  exact (hG z0 h1).congr fun i hi => laws_heldWeighS.f_of (h2 (p i) (hp i hi)) _
set_option maxRecDepth 100000 in
set_option maxHeartbeats 8000000 in
theorem laws_heldWeighS.step {u : Int}  (h0 : 0 ≤ u)  (h1 : u + 1 + 1 ≤ 4611686018427387904) {k : Nat} (hk : Fuel k) : HStep (fun xs L v => laws_heldWeighS.l0 k xs (fun z0 => some z0) L v) u [.str (laws_markText.v (u)), .int .i64 (u + 1)] (u + 1 + 1) := by
  have hk0 : Fuel k := hk
  intro xs i i0 i1 hl hr L
  simp (maxSteps := 4000000) (disch := first | assumption | omega) only [laws_heldWeighS.l0, dec_true i1, cond_true, cond_false, atRow_gR i0 i1, hr, uncons_at, dInt_self, dStr_at, dBool_at, dSl_at, atEnd_at, wrap_i64, laws_markText.fv, strEq_self, bne_self_eq_false, beq_self_eq_true, Bool.not_true]
set_option maxRecDepth 100000 in
set_option maxHeartbeats 8000000 in
theorem laws_markWeighS.T {B : Nat} (hB : B ≤ 1099511627776) {xs : List (List D)} {n : Int} (g : SlOk RSI B xs) (h0 : 0 ≤ n) (h1 : n + wtRows xs ≤ 4611686018427387904) : Tm Fuel (fun k => laws_markWeighS.t k (deepRows xs) n) (fun z => ∃ ys, z.2 = deepRows ys ∧ ys.length = xs.length ∧ z.1 = n + wtRows xs ∧ ∀ k, Fuel k → laws_heldWeighS.t k ys n = some z.1) := by
  have hb : big = 2 ^ 64 := rfl
  have hl := g.1
  have key : Tm Fuel (fun k => laws_markWeighS.t k (deepRows xs) n) (fun z => ∃ ys, z.2 = deepRows ys ∧ ys.length = xs.length ∧ z.1 = n + wtRows xs ∧ HeldL (fun u r u' => ∀ k, Fuel k → HStep (fun xs L v => laws_heldWeighS.l0 k xs (fun z0 => some z0) L v) u r u') n ys z.1) := by
    unfold laws_markWeighS.t laws_markWeighS.g
    refine Tm.loop (okk := Fuel) (p := fun k => k) (fun i hi => hi) (b := fun k => laws_markWeighS.l0 k (fun z0 z1 => some (z0, z1))) (fun v => match v with | (u, i, tab) => ((xs.length : Int) - i).toNat) (fun v => match v with | (u, i, tab) => 0 ≤ i ∧ i ≤ xs.length ∧ ∃ done : List (List D), done.length = i.toNat ∧ tab = deepRows done ++ deepRows (xs.drop i.toNat) ∧ u = n + wtRows (xs.take i.toNat) ∧ HeldL (fun u r u' => ∀ k, Fuel k → HStep (fun xs L v => laws_heldWeighS.l0 k xs (fun z0 => some z0) L v) u r u') n done u) ?_ ?_ ?_
    · rintro ⟨u, i, tab⟩ hI
      simp only [] at hI ⊢
      omega
    · exact ⟨by omega, by omega, [], rfl, by simp [deepRows], by simp [wtRows], .nil⟩
    · rintro ⟨u, i, tab⟩ hI L hL
      simp only [] at hI
      obtain ⟨i0, i1, done, hd, rfl, hu, hH⟩ := hI
      have hA : (deepRows done).length = i.toNat := by rw [deepRows_length, hd]
      have hT : (deepRows done ++ deepRows (xs.drop i.toNat)).length = xs.length := by rw [List.length_append, hA, deepRows_length, List.length_drop]; omega
      simp only [laws_markWeighS.l0]
      refine Tm.ite (fun h4 => ?_) (fun h4 => ?_)
      · simp only [decide_eq_true_eq, hT] at h4
        have hx := gR_at i0 h4
        obtain ⟨c0, c1, e, k0, k1, _⟩ := (g.2 _ (gR_mem i0 h4)).open
        rw [e] at hx
        have hdr := drop_at i0 hx
        have hw := wt_take i0 hx
        simp only [wtCells, wtD] at hw
        have hs := wt_split xs (i + 1).toNat
        rw [hdr] at hT ⊢
        simp only [deepRows, deepCells, deepD] at hT ⊢
        have hT2 := hT
        simp only [List.length_append, List.length_cons] at hT2
        try simp (disch := omega) only [wrap_i64]
        refine laws_markText.tm (fun i hi => hi.1) (Tm.at (ok := Fuel) (v := laws_markText.v _) (fun k hk => laws_markText.tv (by omega) hk)) (fun y hy => ?_)
        subst hy
        refine Tm.guard (by first | decide | (simp only [List.length_modify, List.length_append, List.length_cons]; omega)) ?_
        refine Tm.guard (by first | decide | (simp only [List.length_modify, List.length_append, List.length_cons]; omega)) ?_
        refine Tm.guard (by first | decide | (simp only [List.length_modify, List.length_append, List.length_cons]; omega)) ?_
        refine Tm.guard (by first | decide | (simp only [List.length_modify, List.length_append, List.length_cons]; omega)) ?_
        try simp (disch := omega) only [wrap_i64]
        try simp only [modify_mid hA, splice, List.take_zero, List.take_succ_cons, List.drop_succ_cons, List.drop_zero, List.nil_append, List.cons_append, List.length_cons, List.length_nil, Nat.zero_add, Nat.reduceAdd, List.set_cons_succ, List.set_cons_zero]
        refine hL (_, _, _) ⟨by omega, by omega, done ++ [[.str (laws_markText.v (u)), .int .i64 (u + 1)]], by simp only [List.length_append, List.length_cons, List.length_nil]; omega, ?_, by omega, HeldL.snoc hH (fun k hk => laws_heldWeighS.step (by omega) (by omega) hk)⟩ (by simp only []; omega)
        rw [deepRows_append]
        simp only [deepRows, deepCells, deepD, List.append_assoc, List.cons_append, List.nil_append]
      · simp only [decide_eq_false_iff_not, hT] at h4
        refine Tm.ret ⟨done, ?_, by omega, ?_, hH⟩
        · rw [List.drop_eq_nil_of_le (by omega)]
          simp only [deepRows, List.append_nil]
        · rw [List.take_of_length_le (by omega)] at hu
          exact hu
  obtain ⟨v, ⟨ys, e1, e2, e3, hH⟩, h2⟩ := key
  exact ⟨v, ⟨ys, e1, e2, e3, fun k hk => by
    have hk0 : Fuel k := hk
    unfold laws_heldWeighS.t laws_heldWeighS.g
    exact held_run (b := fun xs L v => laws_heldWeighS.l0 k xs (fun z0 => some z0) L v) (by omega) (hH.mono fun _ _ _ h => h k hk) (by omega) (fun L => by simp [laws_heldWeighS.l0])⟩, h2⟩
theorem laws_heldValueS.f_of {β : Type} {k : Nat} {a0 : List (List D)} {a1 : Int} {z0 : Int} (h : laws_heldValueS.t k a0 a1 = some z0) (K : Int → Option β) : laws_heldValueS.f k a0 a1 K = K z0 := by
  unfold laws_heldValueS.f
  unfold laws_heldValueS.w
  rw [h]
theorem laws_heldValueS.tm {ι α : Type} {ok : ι → Prop} {ψ : α → Prop} {p : ι → Nat} {B : Nat} (hp : ∀ i, ok i → B ≤ p i) {a0 : List (List D)} {a1 : Int} {φ : Int → Prop} (h : Tm (fun k => B ≤ k) (fun k => laws_heldValueS.t k a0 a1) φ) {G : ι → Int → Option α} (hG : ∀ z0, φ z0 → Tm ok (fun i => G i z0) ψ) : Tm ok (fun i => laws_heldValueS.f (p i) a0 a1 (G i)) ψ := by
  obtain ⟨z0, h1, h2⟩ := h
  exact (hG z0 h1).congr fun i hi => laws_heldValueS.f_of (h2 (p i) (hp i hi)) _
theorem laws_heldValueS.step {N : Nat} {u : Int} {ys3 : List (List D)} {n3 : Int} {ys4 : List (List D)} {n4 : Int} (h0 : 0 ≤ u) (hn3 : u + 1 + 1 + 1 ≤ n3) (hh3 : ∀ k, Fuel k → laws_heldStringS.t k ys3 (u + 1 + 1 + 1) = some n3) (hn4 : n3 ≤ n4) (hh4 : ∀ k, N ≤ k → laws_heldValueS.t k ys4 (n3) = some n4) (h1 : n4 ≤ 4611686018427387904) {k : Nat} (hk : N ≤ k) (hk0 : Fuel k) : HStep (fun xs L v => laws_heldValueS.l0 k (laws_heldValueS.f k) xs (fun z0 => some z0) L v) u [.int .i64 (u), .str (laws_markText.v (u + 1)), .int .i64 (u + 1 + 1), .sl ys3, .sl ys4] (n4) := by
  intro xs i i0 i1 hl hr L
  simp (disch := first | assumption | omega) only [laws_heldValueS.l0, dec_true i1, cond_true, cond_false, atRow_gR i0 i1, hr, uncons_at, dInt_self, dStr_at, dBool_at, dSl_at, atEnd_at, wrap_i64, laws_markText.fv, strEq_self, bne_self_eq_false, beq_self_eq_true, Bool.not_true, laws_heldStringS.f_of (hh3 k hk0), dec_false (show ¬ n3 < 0 by omega), laws_heldValueS.f_of (hh4 k hk), dec_false (show ¬ n4 < 0 by omega)]
theorem markVal {B : Nat} (hB : B ≤ 1099511627776) (h : Nat) : ∀ {xs : List (List D)} {n : Int}, xs.length ≤ B → (∀ r ∈ xs, RISILSELXE_h B h r) → 0 ≤ n → n + wtRows xs ≤ 4611686018427387904 → Tm (fun k => big + h + 1 ≤ k) (fun k => laws_markValueS.t k (deepRows xs) n) (fun z => ∃ ys, z.2 = deepRows ys ∧ ys.length = xs.length ∧ z.1 = n + wtRows xs ∧ ∀ k, big + h + 1 ≤ k → laws_heldValueS.t k ys n = some z.1) := by
  have hb : big = 2 ^ 64 := rfl
  induction h using Nat.strongRecOn with
  | ind h ih =>
  intro xs n hl g h0 h1
  have key : Tm (fun k => big + h ≤ k) (fun k => laws_markValueS.g k (deepRows xs) n (fun z0 z1 => some (z0, z1))) (fun z => ∃ ys, z.2 = deepRows ys ∧ ys.length = xs.length ∧ z.1 = n + wtRows xs ∧ HeldL (fun u r u' => ∀ k, big + h ≤ k → HStep (fun xs L v => laws_heldValueS.l0 k (laws_heldValueS.f k) xs (fun z0 => some z0) L v) u r u') n ys z.1) := by
    unfold laws_markValueS.g laws_markValueS.body
    refine Tm.loop (okk := fun k => big + h ≤ k) (p := fun k => k) (fun i hi => by omega) (b := fun k => laws_markValueS.l0 k (laws_markValueS.f k) (fun z0 z1 => some (z0, z1))) (fun v => match v with | (u, i, tab) => ((xs.length : Int) - i).toNat) (fun v => match v with | (u, i, tab) => 0 ≤ i ∧ i ≤ xs.length ∧ ∃ done : List (List D), done.length = i.toNat ∧ tab = deepRows done ++ deepRows (xs.drop i.toNat) ∧ u = n + wtRows (xs.take i.toNat) ∧ HeldL (fun u r u' => ∀ k, big + h ≤ k → HStep (fun xs L v => laws_heldValueS.l0 k (laws_heldValueS.f k) xs (fun z0 => some z0) L v) u r u') n done u) ?_ ?_ ?_
    · rintro ⟨u, i, tab⟩ hI
      simp only [] at hI ⊢
      omega
    · exact ⟨by omega, by omega, [], rfl, by simp [deepRows], by simp [wtRows], .nil⟩
    · rintro ⟨u, i, tab⟩ hI L hL
      simp only [] at hI
      obtain ⟨i0, i1, done, hd, rfl, hu, hH⟩ := hI
      have hA : (deepRows done).length = i.toNat := by rw [deepRows_length, hd]
      have hT : (deepRows done ++ deepRows (xs.drop i.toNat)).length = xs.length := by rw [List.length_append, hA, deepRows_length, List.length_drop]; omega
      simp only [laws_markValueS.l0]
      refine Tm.ite (fun h4 => ?_) (fun h4 => ?_)
      · simp only [decide_eq_true_eq, hT] at h4
        have hx := gR_at i0 h4
        obtain ⟨h', hh', c0, c1, c2, c3, c4, e, k3, l4, k4⟩ : ∃ h', h = h' + 1 ∧ ∃ c0 c1 c2 c3 c4, gR xs i = [.int .i64 c0, .str c1, .int .i64 c2, .sl c3, .sl c4] ∧ SlOk RS B c3 ∧ c4.length ≤ B ∧ ∀ r ∈ c4, RISILSELXE_h B h' r := by
          have := g _ (gR_mem i0 h4)
          generalize gR xs i = r at this
          cases this with
          | mk c0 c1 c2 c3 c4 w0 g1 w2 g3 l4 g4 => exact ⟨_, rfl, _, _, _, _, _, rfl, g3, l4, g4⟩
        rw [e] at hx
        have hdr := drop_at i0 hx
        have hw := wt_take i0 hx
        simp only [wtCells, wtD] at hw
        have hs := wt_split xs (i + 1).toNat
        rw [hdr] at hT ⊢
        simp only [deepRows, deepCells, deepD] at hT ⊢
        have hT2 := hT
        simp only [List.length_append, List.length_cons] at hT2
        refine Tm.guard (by first | decide | (simp only [List.length_modify, List.length_append, List.length_cons]; omega)) ?_
        refine Tm.guard (by first | decide | (simp only [List.length_modify, List.length_append, List.length_cons]; omega)) ?_
        try simp (disch := omega) only [wrap_i64]
        refine laws_markText.tm (B := big) (fun i hi => by have := hi.1; omega) (Tm.at (ok := Fuel) (v := laws_markText.v _) (fun k hk => laws_markText.tv (by omega) hk)) (fun y hy => ?_)
        subst hy
        refine Tm.guard (by first | decide | (simp only [List.length_modify, List.length_append, List.length_cons]; omega)) ?_
        refine Tm.guard (by first | decide | (simp only [List.length_modify, List.length_append, List.length_cons]; omega)) ?_
        refine Tm.guard (by first | decide | (simp only [List.length_modify, List.length_append, List.length_cons]; omega)) ?_
        refine Tm.guard (by first | decide | (simp only [List.length_modify, List.length_append, List.length_cons]; omega)) ?_
        refine Tm.guard (by first | decide | (simp only [List.length_modify, List.length_append, List.length_cons]; omega)) ?_
        try simp only [modify_mid hA, atNat_mid hA, splice, List.take_zero, List.take_succ_cons, List.drop_succ_cons, List.drop_zero, List.nil_append, List.cons_append, List.length_cons, List.length_nil, Nat.zero_add, Nat.reduceAdd, List.set_cons_succ, List.set_cons_zero]
        refine Tm.uncons ?_
        refine Tm.cOwn ?_
        try simp (disch := omega) only [wrap_i64]
        refine laws_markStringS.tm (B := big) (fun i hi => by have := hi.1; omega) (laws_markStringS.T hB k3 (by omega) (by omega)) (fun y3 t3 hy => ?_)
        obtain ⟨ys3, et3, el3, en3, hh3⟩ := hy
        simp only [] at et3 en3 hh3
        subst et3 en3
        refine Tm.guard (by first | decide | (simp only [List.length_modify, List.length_append, List.length_cons]; omega)) ?_
        try simp only [modify_mid hA, atNat_mid hA, splice, List.take_zero, List.take_succ_cons, List.drop_succ_cons, List.drop_zero, List.nil_append, List.cons_append, List.length_cons, List.length_nil, Nat.zero_add, Nat.reduceAdd, List.set_cons_succ, List.set_cons_zero]
        refine Tm.uncons ?_
        refine Tm.cOwn ?_
        try simp (disch := omega) only [wrap_i64]
        refine laws_markValueS.tm (B := big + h' + 1) (fun i hi => by have := hi.1; omega) (ih h' (by omega) l4 k4 (by omega) (by omega)) (fun y4 t4 hy => ?_)
        obtain ⟨ys4, et4, el4, en4, hh4⟩ := hy
        simp only [] at et4 en4 hh4
        subst et4 en4
        try simp (disch := omega) only [wrap_i64]
        try simp only [modify_mid hA, splice, List.take_zero, List.take_succ_cons, List.drop_succ_cons, List.drop_zero, List.nil_append, List.cons_append, List.length_cons, List.length_nil, Nat.zero_add, Nat.reduceAdd, List.set_cons_succ, List.set_cons_zero]
        refine hL (_, _, _) ⟨by omega, by omega, done ++ [[.int .i64 (u), .str (laws_markText.v (u + 1)), .int .i64 (u + 1 + 1), .sl ys3, .sl ys4]], by simp only [List.length_append, List.length_cons, List.length_nil]; omega, ?_, by omega, HeldL.snoc hH (fun k hk => laws_heldValueS.step (by omega) (by omega) hh3 (by omega) hh4 (by omega) (by omega) (by unfold Fuel; omega))⟩ (by simp only []; omega)
        rw [deepRows_append]
        simp only [deepRows, deepCells, deepD, List.append_assoc, List.cons_append, List.nil_append]
      · simp only [decide_eq_false_iff_not, hT] at h4
        refine Tm.ret ⟨done, ?_, by omega, ?_, hH⟩
        · rw [List.drop_eq_nil_of_le (by omega)]
          simp only [deepRows, List.append_nil]
        · rw [List.take_of_length_le (by omega)] at hu
          exact hu
  refine Tm.succ (g := fun k => laws_markValueS.g k (deepRows xs) n (fun z0 z1 => some (z0, z1))) (fun k => laws_markValueS.t_succ k (deepRows xs) n) ?_
  refine key.mono fun z hz => ?_
  obtain ⟨ys, e1, e2, e3, hH⟩ := hz
  refine ⟨ys, e1, e2, e3, fun k hk => ?_⟩
  cases k with
  | zero => omega
  | succ k =>
    rw [laws_heldValueS.t_succ]
    unfold laws_heldValueS.g laws_heldValueS.body
    exact held_run (b := fun xs L v => laws_heldValueS.l0 k (laws_heldValueS.f k) xs (fun z0 => some z0) L v) (by omega) (hH.mono fun _ _ _ h => h k (by omega)) (by omega) (fun L => by simp [laws_heldValueS.l0])
theorem laws_markValueS.T {B : Nat} (hB : B ≤ 1099511627776) {xs : List (List D)} {n : Int} (g : SlOk RISILSELXE B xs) (h0 : 0 ≤ n) (h1 : n + wtRows xs ≤ 4611686018427387904) : Tm (FuelN 1) (fun k => laws_markValueS.t k (deepRows xs) n) (fun z => ∃ ys, z.2 = deepRows ys ∧ ys.length = xs.length ∧ z.1 = n + wtRows xs ∧ ∀ k, (FuelN 1) k → laws_heldValueS.t k ys n = some z.1) := by
  have hb : big = 2 ^ 64 := rfl
  have h2 : lv 1 = 2 ^ 65 := rfl
  obtain ⟨H, hH⟩ : ∃ H : Nat, H = 1099511627776 := ⟨_, rfl⟩
  have g' : ∀ x ∈ xs, RISILSELXE_h B H x := fun x hx => by
    obtain ⟨h, hh, hx⟩ := g.2 x hx
    exact hx.mono (by have := hh hB; omega)
  have hN : big + H + 1 ≤ lv 1 := by omega
  refine ((markVal hB H g.1 g' h0 h1).up hN).mono fun z hz => ?_
  obtain ⟨ys, e1, e2, e3, hh⟩ := hz
  exact ⟨ys, e1, e2, e3, fun k hk => hh k (Nat.le_trans hN hk)⟩
theorem laws_heldOpS.f_of {β : Type} {k : Nat} {a0 : List (List D)} {a1 : Int} {z0 : Int} (h : laws_heldOpS.t k a0 a1 = some z0) (K : Int → Option β) : laws_heldOpS.f k a0 a1 K = K z0 := by
  unfold laws_heldOpS.f
  rw [h]
theorem laws_heldOpS.tm {ι α : Type} {ok : ι → Prop} {ψ : α → Prop} {p : ι → Nat} {B : Nat} (hp : ∀ i, ok i → B ≤ p i) {a0 : List (List D)} {a1 : Int} {φ : Int → Prop} (h : Tm (fun k => B ≤ k) (fun k => laws_heldOpS.t k a0 a1) φ) {G : ι → Int → Option α} (hG : ∀ z0, φ z0 → Tm ok (fun i => G i z0) ψ) : Tm ok (fun i => laws_heldOpS.f (p i) a0 a1 (G i)) ψ := by
  obtain ⟨z0, h1, h2⟩ := h
  exact (hG z0 h1).congr fun i hi => laws_heldOpS.f_of (h2 (p i) (hp i hi)) _
set_option maxRecDepth 100000 in
set_option maxHeartbeats 8000000 in
theorem laws_heldOpS.step {u : Int} {ys1 : List (List D)} {n1 : Int} {ys5 : List (List D)} {n5 : Int} {ys6 : List (List D)} {n6 : Int} (h0 : 0 ≤ u) (hn1 : u + 1 ≤ n1) (hh1 : ∀ k, Fuel k → laws_heldStringS.t k ys1 (u + 1) = some n1) (hn5 : n1 + 1 + 1 + 1 ≤ n5) (hh5 : ∀ k, Fuel k → laws_heldStringS.t k ys5 (n1 + 1 + 1 + 1) = some n5) (hn6 : n5 ≤ n6) (hh6 : ∀ k, (FuelN 1) k → laws_heldValueS.t k ys6 (n5) = some n6) (h1 : n6 ≤ 4611686018427387904) {k : Nat} (hk : (FuelN 1) k) : HStep (fun xs L v => laws_heldOpS.l0 k xs (fun z0 => some z0) L v) u [.int .i64 (u), .sl ys1, .int .i64 (n1), .str (laws_markText.v (n1 + 1)), .int .i64 (n1 + 1 + 1), .sl ys5, .sl ys6] (n6) := by
  have hk0 : Fuel k := up0 hk
  intro xs i i0 i1 hl hr L
  simp (maxSteps := 4000000) (disch := first | assumption | omega) only [laws_heldOpS.l0, dec_true i1, cond_true, cond_false, atRow_gR i0 i1, hr, uncons_at, dInt_self, dStr_at, dBool_at, dSl_at, atEnd_at, wrap_i64, laws_markText.fv, strEq_self, bne_self_eq_false, beq_self_eq_true, Bool.not_true, laws_heldStringS.f_of (hh1 k (up0 hk)), dec_false (show ¬ n1 < 0 by omega), laws_heldStringS.f_of (hh5 k (up0 hk)), dec_false (show ¬ n5 < 0 by omega), laws_heldValueS.f_of (hh6 k hk), dec_false (show ¬ n6 < 0 by omega)]
set_option maxRecDepth 100000 in
set_option maxHeartbeats 8000000 in
theorem laws_markOpS.T {B : Nat} (hB : B ≤ 1099511627776) {xs : List (List D)} {n : Int} (g : SlOk RILSEISILSELISILSELXEE B xs) (h0 : 0 ≤ n) (h1 : n + wtRows xs ≤ 4611686018427387904) : Tm (FuelN 1) (fun k => laws_markOpS.t k (deepRows xs) n) (fun z => ∃ ys, z.2 = deepRows ys ∧ ys.length = xs.length ∧ z.1 = n + wtRows xs ∧ ∀ k, (FuelN 1) k → laws_heldOpS.t k ys n = some z.1) := by
  have hb : big = 2 ^ 64 := rfl
  have hl := g.1
  have key : Tm (FuelN 1) (fun k => laws_markOpS.t k (deepRows xs) n) (fun z => ∃ ys, z.2 = deepRows ys ∧ ys.length = xs.length ∧ z.1 = n + wtRows xs ∧ HeldL (fun u r u' => ∀ k, (FuelN 1) k → HStep (fun xs L v => laws_heldOpS.l0 k xs (fun z0 => some z0) L v) u r u') n ys z.1) := by
    unfold laws_markOpS.t laws_markOpS.g
    refine Tm.loop (okk := (FuelN 1)) (p := fun k => k) (fun i hi => up0 hi) (b := fun k => laws_markOpS.l0 k (fun z0 z1 => some (z0, z1))) (fun v => match v with | (u, i, tab) => ((xs.length : Int) - i).toNat) (fun v => match v with | (u, i, tab) => 0 ≤ i ∧ i ≤ xs.length ∧ ∃ done : List (List D), done.length = i.toNat ∧ tab = deepRows done ++ deepRows (xs.drop i.toNat) ∧ u = n + wtRows (xs.take i.toNat) ∧ HeldL (fun u r u' => ∀ k, (FuelN 1) k → HStep (fun xs L v => laws_heldOpS.l0 k xs (fun z0 => some z0) L v) u r u') n done u) ?_ ?_ ?_
    · rintro ⟨u, i, tab⟩ hI
      simp only [] at hI ⊢
      omega
    · exact ⟨by omega, by omega, [], rfl, by simp [deepRows], by simp [wtRows], .nil⟩
    · rintro ⟨u, i, tab⟩ hI L hL
      simp only [] at hI
      obtain ⟨i0, i1, done, hd, rfl, hu, hH⟩ := hI
      have hA : (deepRows done).length = i.toNat := by rw [deepRows_length, hd]
      have hT : (deepRows done ++ deepRows (xs.drop i.toNat)).length = xs.length := by rw [List.length_append, hA, deepRows_length, List.length_drop]; omega
      simp only [laws_markOpS.l0]
      refine Tm.ite (fun h4 => ?_) (fun h4 => ?_)
      · simp only [decide_eq_true_eq, hT] at h4
        have hx := gR_at i0 h4
        obtain ⟨c0, c1, c2, c3, c4, c5, c6, e, k0, k1, k2, k3, k4, k5, k6, _⟩ := (g.2 _ (gR_mem i0 h4)).open
        rw [e] at hx
        have hdr := drop_at i0 hx
        have hw := wt_take i0 hx
        simp only [wtCells, wtD] at hw
        have hs := wt_split xs (i + 1).toNat
        rw [hdr] at hT ⊢
        simp only [deepRows, deepCells, deepD] at hT ⊢
        have hT2 := hT
        simp only [List.length_append, List.length_cons] at hT2
        refine Tm.guard (by first | decide | (simp only [List.length_modify, List.length_append, List.length_cons]; omega)) ?_
        refine Tm.guard (by first | decide | (simp only [List.length_modify, List.length_append, List.length_cons]; omega)) ?_
        refine Tm.guard (by first | decide | (simp only [List.length_modify, List.length_append, List.length_cons]; omega)) ?_
        try simp only [modify_mid hA, atNat_mid hA, splice, List.take_zero, List.take_succ_cons, List.drop_succ_cons, List.drop_zero, List.nil_append, List.cons_append, List.length_cons, List.length_nil, Nat.zero_add, Nat.reduceAdd, List.set_cons_succ, List.set_cons_zero]
        refine Tm.uncons ?_
        refine Tm.cOwn ?_
        try simp (disch := omega) only [wrap_i64]
        refine laws_markStringS.tm (fun i hi => up0 hi.1) (laws_markStringS.T hB k1 (by omega) (by omega)) (fun y1 t1 hy => ?_)
        obtain ⟨ys1, et1, el1, en1, hh1⟩ := hy
        simp only [] at et1 en1 hh1
        subst et1 en1
        refine Tm.guard (by first | decide | (simp only [List.length_modify, List.length_append, List.length_cons]; omega)) ?_
        refine Tm.guard (by first | decide | (simp only [List.length_modify, List.length_append, List.length_cons]; omega)) ?_
        try simp (disch := omega) only [wrap_i64]
        refine laws_markText.tm (fun i hi => up0 hi.1) (Tm.at (ok := Fuel) (v := laws_markText.v _) (fun k hk => laws_markText.tv (by omega) hk)) (fun y hy => ?_)
        subst hy
        refine Tm.guard (by first | decide | (simp only [List.length_modify, List.length_append, List.length_cons]; omega)) ?_
        refine Tm.guard (by first | decide | (simp only [List.length_modify, List.length_append, List.length_cons]; omega)) ?_
        refine Tm.guard (by first | decide | (simp only [List.length_modify, List.length_append, List.length_cons]; omega)) ?_
        refine Tm.guard (by first | decide | (simp only [List.length_modify, List.length_append, List.length_cons]; omega)) ?_
        refine Tm.guard (by first | decide | (simp only [List.length_modify, List.length_append, List.length_cons]; omega)) ?_
        try simp only [modify_mid hA, atNat_mid hA, splice, List.take_zero, List.take_succ_cons, List.drop_succ_cons, List.drop_zero, List.nil_append, List.cons_append, List.length_cons, List.length_nil, Nat.zero_add, Nat.reduceAdd, List.set_cons_succ, List.set_cons_zero]
        refine Tm.uncons ?_
        refine Tm.cOwn ?_
        try simp (disch := omega) only [wrap_i64]
        refine laws_markStringS.tm (fun i hi => up0 hi.1) (laws_markStringS.T hB k5 (by omega) (by omega)) (fun y5 t5 hy => ?_)
        obtain ⟨ys5, et5, el5, en5, hh5⟩ := hy
        simp only [] at et5 en5 hh5
        subst et5 en5
        refine Tm.guard (by first | decide | (simp only [List.length_modify, List.length_append, List.length_cons]; omega)) ?_
        try simp only [modify_mid hA, atNat_mid hA, splice, List.take_zero, List.take_succ_cons, List.drop_succ_cons, List.drop_zero, List.nil_append, List.cons_append, List.length_cons, List.length_nil, Nat.zero_add, Nat.reduceAdd, List.set_cons_succ, List.set_cons_zero]
        refine Tm.uncons ?_
        refine Tm.cOwn ?_
        try simp (disch := omega) only [wrap_i64]
        refine laws_markValueS.tm (fun i hi => hi.1) (laws_markValueS.T hB k6 (by omega) (by omega)) (fun y6 t6 hy => ?_)
        obtain ⟨ys6, et6, el6, en6, hh6⟩ := hy
        simp only [] at et6 en6 hh6
        subst et6 en6
        try simp (disch := omega) only [wrap_i64]
        try simp only [modify_mid hA, splice, List.take_zero, List.take_succ_cons, List.drop_succ_cons, List.drop_zero, List.nil_append, List.cons_append, List.length_cons, List.length_nil, Nat.zero_add, Nat.reduceAdd, List.set_cons_succ, List.set_cons_zero]
        refine hL (_, _, _) ⟨by omega, by omega, done ++ [[.int .i64 (u), .sl ys1, .int .i64 (u + 1 + (wtRows c1 : Int)), .str (laws_markText.v (u + 1 + (wtRows c1 : Int) + 1)), .int .i64 (u + 1 + (wtRows c1 : Int) + 1 + 1), .sl ys5, .sl ys6]], by simp only [List.length_append, List.length_cons, List.length_nil]; omega, ?_, by omega, HeldL.snoc hH (fun k hk => laws_heldOpS.step (by omega) (by omega) hh1 (by omega) hh5 (by omega) hh6 (by omega) hk)⟩ (by simp only []; omega)
        rw [deepRows_append]
        simp only [deepRows, deepCells, deepD, List.append_assoc, List.cons_append, List.nil_append]
      · simp only [decide_eq_false_iff_not, hT] at h4
        refine Tm.ret ⟨done, ?_, by omega, ?_, hH⟩
        · rw [List.drop_eq_nil_of_le (by omega)]
          simp only [deepRows, List.append_nil]
        · rw [List.take_of_length_le (by omega)] at hu
          exact hu
  obtain ⟨v, ⟨ys, e1, e2, e3, hH⟩, h2⟩ := key
  exact ⟨v, ⟨ys, e1, e2, e3, fun k hk => by
    have hk0 : Fuel k := up0 hk
    unfold laws_heldOpS.t laws_heldOpS.g
    exact held_run (b := fun xs L v => laws_heldOpS.l0 k xs (fun z0 => some z0) L v) (by omega) (hH.mono fun _ _ _ h => h k hk) (by omega) (fun L => by simp [laws_heldOpS.l0])⟩, h2⟩
theorem laws_heldOverS.f_of {β : Type} {k : Nat} {a0 : List (List D)} {a1 : Int} {z0 : Int} (h : laws_heldOverS.t k a0 a1 = some z0) (K : Int → Option β) : laws_heldOverS.f k a0 a1 K = K z0 := by
  unfold laws_heldOverS.f
  rw [h]
theorem laws_heldOverS.tm {ι α : Type} {ok : ι → Prop} {ψ : α → Prop} {p : ι → Nat} {B : Nat} (hp : ∀ i, ok i → B ≤ p i) {a0 : List (List D)} {a1 : Int} {φ : Int → Prop} (h : Tm (fun k => B ≤ k) (fun k => laws_heldOverS.t k a0 a1) φ) {G : ι → Int → Option α} (hG : ∀ z0, φ z0 → Tm ok (fun i => G i z0) ψ) : Tm ok (fun i => laws_heldOverS.f (p i) a0 a1 (G i)) ψ := by
  obtain ⟨z0, h1, h2⟩ := h
  exact (hG z0 h1).congr fun i hi => laws_heldOverS.f_of (h2 (p i) (hp i hi)) _
set_option maxRecDepth 100000 in
set_option maxHeartbeats 8000000 in
theorem laws_heldOverS.step {u : Int} {ys1 : List (List D)} {n1 : Int} (h0 : 0 ≤ u) (hn1 : u + 1 ≤ n1) (hh1 : ∀ k, (FuelN 1) k → laws_heldOpS.t k ys1 (u + 1) = some n1) (h1 : n1 ≤ 4611686018427387904) {k : Nat} (hk : (FuelN 1) k) : HStep (fun xs L v => laws_heldOverS.l0 k xs (fun z0 => some z0) L v) u [.str (laws_markText.v (u)), .sl ys1] (n1) := by
  have hk0 : Fuel k := up0 hk
  intro xs i i0 i1 hl hr L
  simp (maxSteps := 4000000) (disch := first | assumption | omega) only [laws_heldOverS.l0, dec_true i1, cond_true, cond_false, atRow_gR i0 i1, hr, uncons_at, dInt_self, dStr_at, dBool_at, dSl_at, atEnd_at, wrap_i64, laws_markText.fv, strEq_self, bne_self_eq_false, beq_self_eq_true, Bool.not_true, laws_heldOpS.f_of (hh1 k hk), dec_false (show ¬ n1 < 0 by omega)]
set_option maxRecDepth 100000 in
set_option maxHeartbeats 8000000 in
theorem laws_markOverS.T {B : Nat} (hB : B ≤ 1099511627776) {xs : List (List D)} {n : Int} (g : SlOk RSLILSEISILSELISILSELXEEE B xs) (h0 : 0 ≤ n) (h1 : n + wtRows xs ≤ 4611686018427387904) : Tm (FuelN 1) (fun k => laws_markOverS.t k (deepRows xs) n) (fun z => ∃ ys, z.2 = deepRows ys ∧ ys.length = xs.length ∧ z.1 = n + wtRows xs ∧ ∀ k, (FuelN 1) k → laws_heldOverS.t k ys n = some z.1) := by
  have hb : big = 2 ^ 64 := rfl
  have hl := g.1
  have key : Tm (FuelN 1) (fun k => laws_markOverS.t k (deepRows xs) n) (fun z => ∃ ys, z.2 = deepRows ys ∧ ys.length = xs.length ∧ z.1 = n + wtRows xs ∧ HeldL (fun u r u' => ∀ k, (FuelN 1) k → HStep (fun xs L v => laws_heldOverS.l0 k xs (fun z0 => some z0) L v) u r u') n ys z.1) := by
    unfold laws_markOverS.t laws_markOverS.g
    refine Tm.loop (okk := (FuelN 1)) (p := fun k => k) (fun i hi => up0 hi) (b := fun k => laws_markOverS.l0 k (fun z0 z1 => some (z0, z1))) (fun v => match v with | (u, i, tab) => ((xs.length : Int) - i).toNat) (fun v => match v with | (u, i, tab) => 0 ≤ i ∧ i ≤ xs.length ∧ ∃ done : List (List D), done.length = i.toNat ∧ tab = deepRows done ++ deepRows (xs.drop i.toNat) ∧ u = n + wtRows (xs.take i.toNat) ∧ HeldL (fun u r u' => ∀ k, (FuelN 1) k → HStep (fun xs L v => laws_heldOverS.l0 k xs (fun z0 => some z0) L v) u r u') n done u) ?_ ?_ ?_
    · rintro ⟨u, i, tab⟩ hI
      simp only [] at hI ⊢
      omega
    · exact ⟨by omega, by omega, [], rfl, by simp [deepRows], by simp [wtRows], .nil⟩
    · rintro ⟨u, i, tab⟩ hI L hL
      simp only [] at hI
      obtain ⟨i0, i1, done, hd, rfl, hu, hH⟩ := hI
      have hA : (deepRows done).length = i.toNat := by rw [deepRows_length, hd]
      have hT : (deepRows done ++ deepRows (xs.drop i.toNat)).length = xs.length := by rw [List.length_append, hA, deepRows_length, List.length_drop]; omega
      simp only [laws_markOverS.l0]
      refine Tm.ite (fun h4 => ?_) (fun h4 => ?_)
      · simp only [decide_eq_true_eq, hT] at h4
        have hx := gR_at i0 h4
        obtain ⟨c0, c1, e, k0, k1, _⟩ := (g.2 _ (gR_mem i0 h4)).open
        rw [e] at hx
        have hdr := drop_at i0 hx
        have hw := wt_take i0 hx
        simp only [wtCells, wtD] at hw
        have hs := wt_split xs (i + 1).toNat
        rw [hdr] at hT ⊢
        simp only [deepRows, deepCells, deepD] at hT ⊢
        have hT2 := hT
        simp only [List.length_append, List.length_cons] at hT2
        try simp (disch := omega) only [wrap_i64]
        refine laws_markText.tm (fun i hi => up0 hi.1) (Tm.at (ok := Fuel) (v := laws_markText.v _) (fun k hk => laws_markText.tv (by omega) hk)) (fun y hy => ?_)
        subst hy
        refine Tm.guard (by first | decide | (simp only [List.length_modify, List.length_append, List.length_cons]; omega)) ?_
        refine Tm.guard (by first | decide | (simp only [List.length_modify, List.length_append, List.length_cons]; omega)) ?_
        refine Tm.guard (by first | decide | (simp only [List.length_modify, List.length_append, List.length_cons]; omega)) ?_
        try simp only [modify_mid hA, atNat_mid hA, splice, List.take_zero, List.take_succ_cons, List.drop_succ_cons, List.drop_zero, List.nil_append, List.cons_append, List.length_cons, List.length_nil, Nat.zero_add, Nat.reduceAdd, List.set_cons_succ, List.set_cons_zero]
        refine Tm.uncons ?_
        refine Tm.cOwn ?_
        try simp (disch := omega) only [wrap_i64]
        refine laws_markOpS.tm (fun i hi => hi.1) (laws_markOpS.T hB k1 (by omega) (by omega)) (fun y1 t1 hy => ?_)
        obtain ⟨ys1, et1, el1, en1, hh1⟩ := hy
        simp only [] at et1 en1 hh1
        subst et1 en1
        try simp (disch := omega) only [wrap_i64]
        try simp only [modify_mid hA, splice, List.take_zero, List.take_succ_cons, List.drop_succ_cons, List.drop_zero, List.nil_append, List.cons_append, List.length_cons, List.length_nil, Nat.zero_add, Nat.reduceAdd, List.set_cons_succ, List.set_cons_zero]
        refine hL (_, _, _) ⟨by omega, by omega, done ++ [[.str (laws_markText.v (u)), .sl ys1]], by simp only [List.length_append, List.length_cons, List.length_nil]; omega, ?_, by omega, HeldL.snoc hH (fun k hk => laws_heldOverS.step (by omega) (by omega) hh1 (by omega) hk)⟩ (by simp only []; omega)
        rw [deepRows_append]
        simp only [deepRows, deepCells, deepD, List.append_assoc, List.cons_append, List.nil_append]
      · simp only [decide_eq_false_iff_not, hT] at h4
        refine Tm.ret ⟨done, ?_, by omega, ?_, hH⟩
        · rw [List.drop_eq_nil_of_le (by omega)]
          simp only [deepRows, List.append_nil]
        · rw [List.take_of_length_le (by omega)] at hu
          exact hu
  obtain ⟨v, ⟨ys, e1, e2, e3, hH⟩, h2⟩ := key
  exact ⟨v, ⟨ys, e1, e2, e3, fun k hk => by
    have hk0 : Fuel k := up0 hk
    unfold laws_heldOverS.t laws_heldOverS.g
    exact held_run (b := fun xs L v => laws_heldOverS.l0 k xs (fun z0 => some z0) L v) (by omega) (hH.mono fun _ _ _ h => h k hk) (by omega) (fun L => by simp [laws_heldOverS.l0])⟩, h2⟩
theorem laws_heldJobS.f_of {β : Type} {k : Nat} {a0 : List (List D)} {a1 : Int} {z0 : Int} (h : laws_heldJobS.t k a0 a1 = some z0) (K : Int → Option β) : laws_heldJobS.f k a0 a1 K = K z0 := by
  unfold laws_heldJobS.f
  rw [h]
theorem laws_heldJobS.tm {ι α : Type} {ok : ι → Prop} {ψ : α → Prop} {p : ι → Nat} {B : Nat} (hp : ∀ i, ok i → B ≤ p i) {a0 : List (List D)} {a1 : Int} {φ : Int → Prop} (h : Tm (fun k => B ≤ k) (fun k => laws_heldJobS.t k a0 a1) φ) {G : ι → Int → Option α} (hG : ∀ z0, φ z0 → Tm ok (fun i => G i z0) ψ) : Tm ok (fun i => laws_heldJobS.f (p i) a0 a1 (G i)) ψ := by
  obtain ⟨z0, h1, h2⟩ := h
  exact (hG z0 h1).congr fun i hi => laws_heldJobS.f_of (h2 (p i) (hp i hi)) _
set_option maxRecDepth 100000 in
set_option maxHeartbeats 8000000 in
theorem laws_heldJobS.step {u : Int} {ys3 : List (List D)} {n3 : Int} {ys4 : List (List D)} {n4 : Int} {ys5 : List (List D)} {n5 : Int} {ys9 : List (List D)} {n9 : Int} {ys10 : List (List D)} {n10 : Int} {ys11 : List (List D)} {n11 : Int} (h0 : 0 ≤ u) (hn3 : u + 1 + 1 + 1 ≤ n3) (hh3 : ∀ k, Fuel k → laws_heldTermS.t k ys3 (u + 1 + 1 + 1) = some n3) (hn4 : n3 ≤ n4) (hh4 : ∀ k, Fuel k → laws_heldStringS.t k ys4 (n3) = some n4) (hn5 : n4 ≤ n5) (hh5 : ∀ k, Fuel k → laws_heldWeighS.t k ys5 (n4) = some n5) (hn9 : n5 + 1 + 1 + 1 ≤ n9) (hh9 : ∀ k, Fuel k → laws_heldStringS.t k ys9 (n5 + 1 + 1 + 1) = some n9) (hn10 : n9 ≤ n10) (hh10 : ∀ k, (FuelN 1) k → laws_heldValueS.t k ys10 (n9) = some n10) (hn11 : n10 ≤ n11) (hh11 : ∀ k, (FuelN 1) k → laws_heldOverS.t k ys11 (n10) = some n11) (h1 : n11 + 1 ≤ 4611686018427387904) {k : Nat} (hk : (FuelN 1) k) : HStep (fun xs L v => laws_heldJobS.l0 k xs (fun z0 => some z0) L v) u [.int .i64 (u), .str (laws_markText.v (u + 1)), .int .i64 (u + 1 + 1), .sl ys3, .sl ys4, .sl ys5, .int .i64 (n5), .str (laws_markText.v (n5 + 1)), .int .i64 (n5 + 1 + 1), .sl ys9, .sl ys10, .sl ys11, .bool (Int.tmod (n11) 3 == 0)] (n11 + 1) := by
  have hk0 : Fuel k := up0 hk
  intro xs i i0 i1 hl hr L
  simp (maxSteps := 4000000) (disch := first | assumption | omega) only [laws_heldJobS.l0, dec_true i1, cond_true, cond_false, atRow_gR i0 i1, hr, uncons_at, dInt_self, dStr_at, dBool_at, dSl_at, atEnd_at, wrap_i64, laws_markText.fv, strEq_self, bne_self_eq_false, beq_self_eq_true, Bool.not_true, laws_heldTermS.f_of (hh3 k (up0 hk)), dec_false (show ¬ n3 < 0 by omega), laws_heldStringS.f_of (hh4 k (up0 hk)), dec_false (show ¬ n4 < 0 by omega), laws_heldWeighS.f_of (hh5 k (up0 hk)), dec_false (show ¬ n5 < 0 by omega), laws_heldStringS.f_of (hh9 k (up0 hk)), dec_false (show ¬ n9 < 0 by omega), laws_heldValueS.f_of (hh10 k hk), dec_false (show ¬ n10 < 0 by omega), laws_heldOverS.f_of (hh11 k hk), dec_false (show ¬ n11 < 0 by omega), guard_at (show (3 : Int) ≠ 0 by decide)]
set_option maxRecDepth 100000 in
set_option maxHeartbeats 8000000 in
theorem laws_markJobS.T {B : Nat} (hB : B ≤ 1099511627776) {xs : List (List D)} {n : Int} (g : SlOk RISILISLSEELSELSIEISILSELISILSELXEELSLILSEISILSELISILSELXEEEEB B xs) (h0 : 0 ≤ n) (h1 : n + wtRows xs ≤ 4611686018427387904) : Tm (FuelN 1) (fun k => laws_markJobS.t k (deepRows xs) n) (fun z => ∃ ys, z.2 = deepRows ys ∧ ys.length = xs.length ∧ z.1 = n + wtRows xs ∧ ∀ k, (FuelN 1) k → laws_heldJobS.t k ys n = some z.1) := by
  have hb : big = 2 ^ 64 := rfl
  have hl := g.1
  have key : Tm (FuelN 1) (fun k => laws_markJobS.t k (deepRows xs) n) (fun z => ∃ ys, z.2 = deepRows ys ∧ ys.length = xs.length ∧ z.1 = n + wtRows xs ∧ HeldL (fun u r u' => ∀ k, (FuelN 1) k → HStep (fun xs L v => laws_heldJobS.l0 k xs (fun z0 => some z0) L v) u r u') n ys z.1) := by
    unfold laws_markJobS.t laws_markJobS.g
    refine Tm.loop (okk := (FuelN 1)) (p := fun k => k) (fun i hi => up0 hi) (b := fun k => laws_markJobS.l0 k (fun z0 z1 => some (z0, z1))) (fun v => match v with | (u, i, tab) => ((xs.length : Int) - i).toNat) (fun v => match v with | (u, i, tab) => 0 ≤ i ∧ i ≤ xs.length ∧ ∃ done : List (List D), done.length = i.toNat ∧ tab = deepRows done ++ deepRows (xs.drop i.toNat) ∧ u = n + wtRows (xs.take i.toNat) ∧ HeldL (fun u r u' => ∀ k, (FuelN 1) k → HStep (fun xs L v => laws_heldJobS.l0 k xs (fun z0 => some z0) L v) u r u') n done u) ?_ ?_ ?_
    · rintro ⟨u, i, tab⟩ hI
      simp only [] at hI ⊢
      omega
    · exact ⟨by omega, by omega, [], rfl, by simp [deepRows], by simp [wtRows], .nil⟩
    · rintro ⟨u, i, tab⟩ hI L hL
      simp only [] at hI
      obtain ⟨i0, i1, done, hd, rfl, hu, hH⟩ := hI
      have hA : (deepRows done).length = i.toNat := by rw [deepRows_length, hd]
      have hT : (deepRows done ++ deepRows (xs.drop i.toNat)).length = xs.length := by rw [List.length_append, hA, deepRows_length, List.length_drop]; omega
      simp only [laws_markJobS.l0]
      refine Tm.ite (fun h4 => ?_) (fun h4 => ?_)
      · simp only [decide_eq_true_eq, hT] at h4
        have hx := gR_at i0 h4
        obtain ⟨c0, c1, c2, c3, c4, c5, c6, c7, c8, c9, c10, c11, c12, e, k0, k1, k2, k3, k4, k5, k6, k7, k8, k9, k10, k11, _⟩ := (g.2 _ (gR_mem i0 h4)).open
        rw [e] at hx
        have hdr := drop_at i0 hx
        have hw := wt_take i0 hx
        simp only [wtCells, wtD] at hw
        have hs := wt_split xs (i + 1).toNat
        rw [hdr] at hT ⊢
        simp only [deepRows, deepCells, deepD] at hT ⊢
        have hT2 := hT
        simp only [List.length_append, List.length_cons] at hT2
        refine Tm.guard (by first | decide | (simp only [List.length_modify, List.length_append, List.length_cons]; omega)) ?_
        refine Tm.guard (by first | decide | (simp only [List.length_modify, List.length_append, List.length_cons]; omega)) ?_
        try simp (disch := omega) only [wrap_i64]
        refine laws_markText.tm (fun i hi => up0 hi.1) (Tm.at (ok := Fuel) (v := laws_markText.v _) (fun k hk => laws_markText.tv (by omega) hk)) (fun y hy => ?_)
        subst hy
        refine Tm.guard (by first | decide | (simp only [List.length_modify, List.length_append, List.length_cons]; omega)) ?_
        refine Tm.guard (by first | decide | (simp only [List.length_modify, List.length_append, List.length_cons]; omega)) ?_
        refine Tm.guard (by first | decide | (simp only [List.length_modify, List.length_append, List.length_cons]; omega)) ?_
        refine Tm.guard (by first | decide | (simp only [List.length_modify, List.length_append, List.length_cons]; omega)) ?_
        refine Tm.guard (by first | decide | (simp only [List.length_modify, List.length_append, List.length_cons]; omega)) ?_
        try simp only [modify_mid hA, atNat_mid hA, splice, List.take_zero, List.take_succ_cons, List.drop_succ_cons, List.drop_zero, List.nil_append, List.cons_append, List.length_cons, List.length_nil, Nat.zero_add, Nat.reduceAdd, List.set_cons_succ, List.set_cons_zero]
        refine Tm.uncons ?_
        refine Tm.cOwn ?_
        try simp (disch := omega) only [wrap_i64]
        refine laws_markTermS.tm (fun i hi => up0 hi.1) (laws_markTermS.T hB k3 (by omega) (by omega)) (fun y3 t3 hy => ?_)
        obtain ⟨ys3, et3, el3, en3, hh3⟩ := hy
        simp only [] at et3 en3 hh3
        subst et3 en3
        refine Tm.guard (by first | decide | (simp only [List.length_modify, List.length_append, List.length_cons]; omega)) ?_
        try simp only [modify_mid hA, atNat_mid hA, splice, List.take_zero, List.take_succ_cons, List.drop_succ_cons, List.drop_zero, List.nil_append, List.cons_append, List.length_cons, List.length_nil, Nat.zero_add, Nat.reduceAdd, List.set_cons_succ, List.set_cons_zero]
        refine Tm.uncons ?_
        refine Tm.cOwn ?_
        try simp (disch := omega) only [wrap_i64]
        refine laws_markStringS.tm (fun i hi => up0 hi.1) (laws_markStringS.T hB k4 (by omega) (by omega)) (fun y4 t4 hy => ?_)
        obtain ⟨ys4, et4, el4, en4, hh4⟩ := hy
        simp only [] at et4 en4 hh4
        subst et4 en4
        refine Tm.guard (by first | decide | (simp only [List.length_modify, List.length_append, List.length_cons]; omega)) ?_
        try simp only [modify_mid hA, atNat_mid hA, splice, List.take_zero, List.take_succ_cons, List.drop_succ_cons, List.drop_zero, List.nil_append, List.cons_append, List.length_cons, List.length_nil, Nat.zero_add, Nat.reduceAdd, List.set_cons_succ, List.set_cons_zero]
        refine Tm.uncons ?_
        refine Tm.cOwn ?_
        try simp (disch := omega) only [wrap_i64]
        refine laws_markWeighS.tm (fun i hi => up0 hi.1) (laws_markWeighS.T hB k5 (by omega) (by omega)) (fun y5 t5 hy => ?_)
        obtain ⟨ys5, et5, el5, en5, hh5⟩ := hy
        simp only [] at et5 en5 hh5
        subst et5 en5
        refine Tm.guard (by first | decide | (simp only [List.length_modify, List.length_append, List.length_cons]; omega)) ?_
        refine Tm.guard (by first | decide | (simp only [List.length_modify, List.length_append, List.length_cons]; omega)) ?_
        try simp (disch := omega) only [wrap_i64]
        refine laws_markText.tm (fun i hi => up0 hi.1) (Tm.at (ok := Fuel) (v := laws_markText.v _) (fun k hk => laws_markText.tv (by omega) hk)) (fun y hy => ?_)
        subst hy
        refine Tm.guard (by first | decide | (simp only [List.length_modify, List.length_append, List.length_cons]; omega)) ?_
        refine Tm.guard (by first | decide | (simp only [List.length_modify, List.length_append, List.length_cons]; omega)) ?_
        refine Tm.guard (by first | decide | (simp only [List.length_modify, List.length_append, List.length_cons]; omega)) ?_
        refine Tm.guard (by first | decide | (simp only [List.length_modify, List.length_append, List.length_cons]; omega)) ?_
        refine Tm.guard (by first | decide | (simp only [List.length_modify, List.length_append, List.length_cons]; omega)) ?_
        try simp only [modify_mid hA, atNat_mid hA, splice, List.take_zero, List.take_succ_cons, List.drop_succ_cons, List.drop_zero, List.nil_append, List.cons_append, List.length_cons, List.length_nil, Nat.zero_add, Nat.reduceAdd, List.set_cons_succ, List.set_cons_zero]
        refine Tm.uncons ?_
        refine Tm.cOwn ?_
        try simp (disch := omega) only [wrap_i64]
        refine laws_markStringS.tm (fun i hi => up0 hi.1) (laws_markStringS.T hB k9 (by omega) (by omega)) (fun y9 t9 hy => ?_)
        obtain ⟨ys9, et9, el9, en9, hh9⟩ := hy
        simp only [] at et9 en9 hh9
        subst et9 en9
        refine Tm.guard (by first | decide | (simp only [List.length_modify, List.length_append, List.length_cons]; omega)) ?_
        try simp only [modify_mid hA, atNat_mid hA, splice, List.take_zero, List.take_succ_cons, List.drop_succ_cons, List.drop_zero, List.nil_append, List.cons_append, List.length_cons, List.length_nil, Nat.zero_add, Nat.reduceAdd, List.set_cons_succ, List.set_cons_zero]
        refine Tm.uncons ?_
        refine Tm.cOwn ?_
        try simp (disch := omega) only [wrap_i64]
        refine laws_markValueS.tm (fun i hi => hi.1) (laws_markValueS.T hB k10 (by omega) (by omega)) (fun y10 t10 hy => ?_)
        obtain ⟨ys10, et10, el10, en10, hh10⟩ := hy
        simp only [] at et10 en10 hh10
        subst et10 en10
        refine Tm.guard (by first | decide | (simp only [List.length_modify, List.length_append, List.length_cons]; omega)) ?_
        try simp only [modify_mid hA, atNat_mid hA, splice, List.take_zero, List.take_succ_cons, List.drop_succ_cons, List.drop_zero, List.nil_append, List.cons_append, List.length_cons, List.length_nil, Nat.zero_add, Nat.reduceAdd, List.set_cons_succ, List.set_cons_zero]
        refine Tm.uncons ?_
        refine Tm.cOwn ?_
        try simp (disch := omega) only [wrap_i64]
        refine laws_markOverS.tm (fun i hi => hi.1) (laws_markOverS.T hB k11 (by omega) (by omega)) (fun y11 t11 hy => ?_)
        obtain ⟨ys11, et11, el11, en11, hh11⟩ := hy
        simp only [] at et11 en11 hh11
        subst et11 en11
        refine Tm.guard (by first | decide | (simp only [List.length_modify, List.length_append, List.length_cons]; omega)) ?_
        refine Tm.guard (by first | decide | (simp only [List.length_modify, List.length_append, List.length_cons]; omega)) ?_
        refine Tm.guard (by first | decide | (simp only [List.length_modify, List.length_append, List.length_cons]; omega)) ?_
        try simp (disch := omega) only [wrap_i64]
        try simp only [modify_mid hA, splice, List.take_zero, List.take_succ_cons, List.drop_succ_cons, List.drop_zero, List.nil_append, List.cons_append, List.length_cons, List.length_nil, Nat.zero_add, Nat.reduceAdd, List.set_cons_succ, List.set_cons_zero]
        refine hL (_, _, _) ⟨by omega, by omega, done ++ [[.int .i64 (u), .str (laws_markText.v (u + 1)), .int .i64 (u + 1 + 1), .sl ys3, .sl ys4, .sl ys5, .int .i64 (u + 1 + 1 + 1 + (wtRows c3 : Int) + (wtRows c4 : Int) + (wtRows c5 : Int)), .str (laws_markText.v (u + 1 + 1 + 1 + (wtRows c3 : Int) + (wtRows c4 : Int) + (wtRows c5 : Int) + 1)), .int .i64 (u + 1 + 1 + 1 + (wtRows c3 : Int) + (wtRows c4 : Int) + (wtRows c5 : Int) + 1 + 1), .sl ys9, .sl ys10, .sl ys11, .bool (Int.tmod (u + 1 + 1 + 1 + (wtRows c3 : Int) + (wtRows c4 : Int) + (wtRows c5 : Int) + 1 + 1 + 1 + (wtRows c9 : Int) + (wtRows c10 : Int) + (wtRows c11 : Int)) 3 == 0)]], by simp only [List.length_append, List.length_cons, List.length_nil]; omega, ?_, by omega, HeldL.snoc hH (fun k hk => laws_heldJobS.step (by omega) (by omega) hh3 (by omega) hh4 (by omega) hh5 (by omega) hh9 (by omega) hh10 (by omega) hh11 (by omega) hk)⟩ (by simp only []; omega)
        rw [deepRows_append]
        simp only [deepRows, deepCells, deepD, List.append_assoc, List.cons_append, List.nil_append]
      · simp only [decide_eq_false_iff_not, hT] at h4
        refine Tm.ret ⟨done, ?_, by omega, ?_, hH⟩
        · rw [List.drop_eq_nil_of_le (by omega)]
          simp only [deepRows, List.append_nil]
        · rw [List.take_of_length_le (by omega)] at hu
          exact hu
  obtain ⟨v, ⟨ys, e1, e2, e3, hH⟩, h2⟩ := key
  exact ⟨v, ⟨ys, e1, e2, e3, fun k hk => by
    have hk0 : Fuel k := up0 hk
    unfold laws_heldJobS.t laws_heldJobS.g
    exact held_run (b := fun xs L v => laws_heldJobS.l0 k xs (fun z0 => some z0) L v) (by omega) (hH.mono fun _ _ _ h => h k hk) (by omega) (fun L => by simp [laws_heldJobS.l0])⟩, h2⟩
theorem laws_heldLabelS.f_of {β : Type} {k : Nat} {a0 : List (List D)} {a1 : Int} {z0 : Int} (h : laws_heldLabelS.t k a0 a1 = some z0) (K : Int → Option β) : laws_heldLabelS.f k a0 a1 K = K z0 := by
  unfold laws_heldLabelS.f
  rw [h]
theorem laws_heldLabelS.tm {ι α : Type} {ok : ι → Prop} {ψ : α → Prop} {p : ι → Nat} {B : Nat} (hp : ∀ i, ok i → B ≤ p i) {a0 : List (List D)} {a1 : Int} {φ : Int → Prop} (h : Tm (fun k => B ≤ k) (fun k => laws_heldLabelS.t k a0 a1) φ) {G : ι → Int → Option α} (hG : ∀ z0, φ z0 → Tm ok (fun i => G i z0) ψ) : Tm ok (fun i => laws_heldLabelS.f (p i) a0 a1 (G i)) ψ := by
  obtain ⟨z0, h1, h2⟩ := h
  exact (hG z0 h1).congr fun i hi => laws_heldLabelS.f_of (h2 (p i) (hp i hi)) _
set_option maxRecDepth 100000 in
set_option maxHeartbeats 8000000 in
theorem laws_heldLabelS.step {u : Int}  (h0 : 0 ≤ u)  (h1 : u + 1 + 1 ≤ 4611686018427387904) {k : Nat} (hk : Fuel k) : HStep (fun xs L v => laws_heldLabelS.l0 k xs (fun z0 => some z0) L v) u [.str (laws_markText.v (u)), .str (laws_markText.v (u + 1))] (u + 1 + 1) := by
  have hk0 : Fuel k := hk
  intro xs i i0 i1 hl hr L
  simp (maxSteps := 4000000) (disch := first | assumption | omega) only [laws_heldLabelS.l0, dec_true i1, cond_true, cond_false, atRow_gR i0 i1, hr, uncons_at, dInt_self, dStr_at, dBool_at, dSl_at, atEnd_at, wrap_i64, laws_markText.fv, strEq_self, bne_self_eq_false, beq_self_eq_true, Bool.not_true]
set_option maxRecDepth 100000 in
set_option maxHeartbeats 8000000 in
theorem laws_markLabelS.T {B : Nat} (hB : B ≤ 1099511627776) {xs : List (List D)} {n : Int} (g : SlOk RSS B xs) (h0 : 0 ≤ n) (h1 : n + wtRows xs ≤ 4611686018427387904) : Tm Fuel (fun k => laws_markLabelS.t k (deepRows xs) n) (fun z => ∃ ys, z.2 = deepRows ys ∧ ys.length = xs.length ∧ z.1 = n + wtRows xs ∧ ∀ k, Fuel k → laws_heldLabelS.t k ys n = some z.1) := by
  have hb : big = 2 ^ 64 := rfl
  have hl := g.1
  have key : Tm Fuel (fun k => laws_markLabelS.t k (deepRows xs) n) (fun z => ∃ ys, z.2 = deepRows ys ∧ ys.length = xs.length ∧ z.1 = n + wtRows xs ∧ HeldL (fun u r u' => ∀ k, Fuel k → HStep (fun xs L v => laws_heldLabelS.l0 k xs (fun z0 => some z0) L v) u r u') n ys z.1) := by
    unfold laws_markLabelS.t laws_markLabelS.g
    refine Tm.loop (okk := Fuel) (p := fun k => k) (fun i hi => hi) (b := fun k => laws_markLabelS.l0 k (fun z0 z1 => some (z0, z1))) (fun v => match v with | (u, i, tab) => ((xs.length : Int) - i).toNat) (fun v => match v with | (u, i, tab) => 0 ≤ i ∧ i ≤ xs.length ∧ ∃ done : List (List D), done.length = i.toNat ∧ tab = deepRows done ++ deepRows (xs.drop i.toNat) ∧ u = n + wtRows (xs.take i.toNat) ∧ HeldL (fun u r u' => ∀ k, Fuel k → HStep (fun xs L v => laws_heldLabelS.l0 k xs (fun z0 => some z0) L v) u r u') n done u) ?_ ?_ ?_
    · rintro ⟨u, i, tab⟩ hI
      simp only [] at hI ⊢
      omega
    · exact ⟨by omega, by omega, [], rfl, by simp [deepRows], by simp [wtRows], .nil⟩
    · rintro ⟨u, i, tab⟩ hI L hL
      simp only [] at hI
      obtain ⟨i0, i1, done, hd, rfl, hu, hH⟩ := hI
      have hA : (deepRows done).length = i.toNat := by rw [deepRows_length, hd]
      have hT : (deepRows done ++ deepRows (xs.drop i.toNat)).length = xs.length := by rw [List.length_append, hA, deepRows_length, List.length_drop]; omega
      simp only [laws_markLabelS.l0]
      refine Tm.ite (fun h4 => ?_) (fun h4 => ?_)
      · simp only [decide_eq_true_eq, hT] at h4
        have hx := gR_at i0 h4
        obtain ⟨c0, c1, e, k0, k1, _⟩ := (g.2 _ (gR_mem i0 h4)).open
        rw [e] at hx
        have hdr := drop_at i0 hx
        have hw := wt_take i0 hx
        simp only [wtCells, wtD] at hw
        have hs := wt_split xs (i + 1).toNat
        rw [hdr] at hT ⊢
        simp only [deepRows, deepCells, deepD] at hT ⊢
        have hT2 := hT
        simp only [List.length_append, List.length_cons] at hT2
        try simp (disch := omega) only [wrap_i64]
        refine laws_markText.tm (fun i hi => hi.1) (Tm.at (ok := Fuel) (v := laws_markText.v _) (fun k hk => laws_markText.tv (by omega) hk)) (fun y hy => ?_)
        subst hy
        refine Tm.guard (by first | decide | (simp only [List.length_modify, List.length_append, List.length_cons]; omega)) ?_
        refine Tm.guard (by first | decide | (simp only [List.length_modify, List.length_append, List.length_cons]; omega)) ?_
        try simp (disch := omega) only [wrap_i64]
        refine laws_markText.tm (fun i hi => hi.1) (Tm.at (ok := Fuel) (v := laws_markText.v _) (fun k hk => laws_markText.tv (by omega) hk)) (fun y hy => ?_)
        subst hy
        refine Tm.guard (by first | decide | (simp only [List.length_modify, List.length_append, List.length_cons]; omega)) ?_
        refine Tm.guard (by first | decide | (simp only [List.length_modify, List.length_append, List.length_cons]; omega)) ?_
        try simp (disch := omega) only [wrap_i64]
        try simp only [modify_mid hA, splice, List.take_zero, List.take_succ_cons, List.drop_succ_cons, List.drop_zero, List.nil_append, List.cons_append, List.length_cons, List.length_nil, Nat.zero_add, Nat.reduceAdd, List.set_cons_succ, List.set_cons_zero]
        refine hL (_, _, _) ⟨by omega, by omega, done ++ [[.str (laws_markText.v (u)), .str (laws_markText.v (u + 1))]], by simp only [List.length_append, List.length_cons, List.length_nil]; omega, ?_, by omega, HeldL.snoc hH (fun k hk => laws_heldLabelS.step (by omega) (by omega) hk)⟩ (by simp only []; omega)
        rw [deepRows_append]
        simp only [deepRows, deepCells, deepD, List.append_assoc, List.cons_append, List.nil_append]
      · simp only [decide_eq_false_iff_not, hT] at h4
        refine Tm.ret ⟨done, ?_, by omega, ?_, hH⟩
        · rw [List.drop_eq_nil_of_le (by omega)]
          simp only [deepRows, List.append_nil]
        · rw [List.take_of_length_le (by omega)] at hu
          exact hu
  obtain ⟨v, ⟨ys, e1, e2, e3, hH⟩, h2⟩ := key
  exact ⟨v, ⟨ys, e1, e2, e3, fun k hk => by
    have hk0 : Fuel k := hk
    unfold laws_heldLabelS.t laws_heldLabelS.g
    exact held_run (b := fun xs L v => laws_heldLabelS.l0 k xs (fun z0 => some z0) L v) (by omega) (hH.mono fun _ _ _ h => h k hk) (by omega) (fun L => by simp [laws_heldLabelS.l0])⟩, h2⟩
theorem laws_heldPostS.f_of {β : Type} {k : Nat} {a0 : List (List D)} {a1 : Int} {z0 : Int} (h : laws_heldPostS.t k a0 a1 = some z0) (K : Int → Option β) : laws_heldPostS.f k a0 a1 K = K z0 := by
  unfold laws_heldPostS.f
  rw [h]
theorem laws_heldPostS.tm {ι α : Type} {ok : ι → Prop} {ψ : α → Prop} {p : ι → Nat} {B : Nat} (hp : ∀ i, ok i → B ≤ p i) {a0 : List (List D)} {a1 : Int} {φ : Int → Prop} (h : Tm (fun k => B ≤ k) (fun k => laws_heldPostS.t k a0 a1) φ) {G : ι → Int → Option α} (hG : ∀ z0, φ z0 → Tm ok (fun i => G i z0) ψ) : Tm ok (fun i => laws_heldPostS.f (p i) a0 a1 (G i)) ψ := by
  obtain ⟨z0, h1, h2⟩ := h
  exact (hG z0 h1).congr fun i hi => laws_heldPostS.f_of (h2 (p i) (hp i hi)) _
set_option maxRecDepth 100000 in
set_option maxHeartbeats 8000000 in
theorem laws_heldPostS.step {u : Int} {ys1 : List (List D)} {n1 : Int} {ys2 : List (List D)} {n2 : Int} (h0 : 0 ≤ u) (hn1 : u + 1 ≤ n1) (hh1 : ∀ k, Fuel k → laws_heldLabelS.t k ys1 (u + 1) = some n1) (hn2 : n1 ≤ n2) (hh2 : ∀ k, Fuel k → laws_heldStringS.t k ys2 (n1) = some n2) (h1 : n2 + 1 + 1 + 1 ≤ 4611686018427387904) {k : Nat} (hk : Fuel k) : HStep (fun xs L v => laws_heldPostS.l0 k xs (fun z0 => some z0) L v) u [.str (laws_markText.v (u)), .sl ys1, .sl ys2, .int .i64 (n2), .int .i64 (n2 + 1), .int .i64 (n2 + 1 + 1)] (n2 + 1 + 1 + 1) := by
  have hk0 : Fuel k := hk
  intro xs i i0 i1 hl hr L
  simp (maxSteps := 4000000) (disch := first | assumption | omega) only [laws_heldPostS.l0, dec_true i1, cond_true, cond_false, atRow_gR i0 i1, hr, uncons_at, dInt_self, dStr_at, dBool_at, dSl_at, atEnd_at, wrap_i64, laws_markText.fv, strEq_self, bne_self_eq_false, beq_self_eq_true, Bool.not_true, laws_heldLabelS.f_of (hh1 k hk), dec_false (show ¬ n1 < 0 by omega), laws_heldStringS.f_of (hh2 k hk), dec_false (show ¬ n2 < 0 by omega)]
set_option maxRecDepth 100000 in
set_option maxHeartbeats 8000000 in
theorem laws_markPostS.T {B : Nat} (hB : B ≤ 1099511627776) {xs : List (List D)} {n : Int} (g : SlOk RSLSSELSEIII B xs) (h0 : 0 ≤ n) (h1 : n + wtRows xs ≤ 4611686018427387904) : Tm Fuel (fun k => laws_markPostS.t k (deepRows xs) n) (fun z => ∃ ys, z.2 = deepRows ys ∧ ys.length = xs.length ∧ z.1 = n + wtRows xs ∧ ∀ k, Fuel k → laws_heldPostS.t k ys n = some z.1) := by
  have hb : big = 2 ^ 64 := rfl
  have hl := g.1
  have key : Tm Fuel (fun k => laws_markPostS.t k (deepRows xs) n) (fun z => ∃ ys, z.2 = deepRows ys ∧ ys.length = xs.length ∧ z.1 = n + wtRows xs ∧ HeldL (fun u r u' => ∀ k, Fuel k → HStep (fun xs L v => laws_heldPostS.l0 k xs (fun z0 => some z0) L v) u r u') n ys z.1) := by
    unfold laws_markPostS.t laws_markPostS.g
    refine Tm.loop (okk := Fuel) (p := fun k => k) (fun i hi => hi) (b := fun k => laws_markPostS.l0 k (fun z0 z1 => some (z0, z1))) (fun v => match v with | (u, i, tab) => ((xs.length : Int) - i).toNat) (fun v => match v with | (u, i, tab) => 0 ≤ i ∧ i ≤ xs.length ∧ ∃ done : List (List D), done.length = i.toNat ∧ tab = deepRows done ++ deepRows (xs.drop i.toNat) ∧ u = n + wtRows (xs.take i.toNat) ∧ HeldL (fun u r u' => ∀ k, Fuel k → HStep (fun xs L v => laws_heldPostS.l0 k xs (fun z0 => some z0) L v) u r u') n done u) ?_ ?_ ?_
    · rintro ⟨u, i, tab⟩ hI
      simp only [] at hI ⊢
      omega
    · exact ⟨by omega, by omega, [], rfl, by simp [deepRows], by simp [wtRows], .nil⟩
    · rintro ⟨u, i, tab⟩ hI L hL
      simp only [] at hI
      obtain ⟨i0, i1, done, hd, rfl, hu, hH⟩ := hI
      have hA : (deepRows done).length = i.toNat := by rw [deepRows_length, hd]
      have hT : (deepRows done ++ deepRows (xs.drop i.toNat)).length = xs.length := by rw [List.length_append, hA, deepRows_length, List.length_drop]; omega
      simp only [laws_markPostS.l0]
      refine Tm.ite (fun h4 => ?_) (fun h4 => ?_)
      · simp only [decide_eq_true_eq, hT] at h4
        have hx := gR_at i0 h4
        obtain ⟨c0, c1, c2, c3, c4, c5, e, k0, k1, k2, k3, k4, k5, _⟩ := (g.2 _ (gR_mem i0 h4)).open
        rw [e] at hx
        have hdr := drop_at i0 hx
        have hw := wt_take i0 hx
        simp only [wtCells, wtD] at hw
        have hs := wt_split xs (i + 1).toNat
        rw [hdr] at hT ⊢
        simp only [deepRows, deepCells, deepD] at hT ⊢
        have hT2 := hT
        simp only [List.length_append, List.length_cons] at hT2
        try simp (disch := omega) only [wrap_i64]
        refine laws_markText.tm (fun i hi => hi.1) (Tm.at (ok := Fuel) (v := laws_markText.v _) (fun k hk => laws_markText.tv (by omega) hk)) (fun y hy => ?_)
        subst hy
        refine Tm.guard (by first | decide | (simp only [List.length_modify, List.length_append, List.length_cons]; omega)) ?_
        refine Tm.guard (by first | decide | (simp only [List.length_modify, List.length_append, List.length_cons]; omega)) ?_
        refine Tm.guard (by first | decide | (simp only [List.length_modify, List.length_append, List.length_cons]; omega)) ?_
        try simp only [modify_mid hA, atNat_mid hA, splice, List.take_zero, List.take_succ_cons, List.drop_succ_cons, List.drop_zero, List.nil_append, List.cons_append, List.length_cons, List.length_nil, Nat.zero_add, Nat.reduceAdd, List.set_cons_succ, List.set_cons_zero]
        refine Tm.uncons ?_
        refine Tm.cOwn ?_
        try simp (disch := omega) only [wrap_i64]
        refine laws_markLabelS.tm (fun i hi => hi.1) (laws_markLabelS.T hB k1 (by omega) (by omega)) (fun y1 t1 hy => ?_)
        obtain ⟨ys1, et1, el1, en1, hh1⟩ := hy
        simp only [] at et1 en1 hh1
        subst et1 en1
        refine Tm.guard (by first | decide | (simp only [List.length_modify, List.length_append, List.length_cons]; omega)) ?_
        try simp only [modify_mid hA, atNat_mid hA, splice, List.take_zero, List.take_succ_cons, List.drop_succ_cons, List.drop_zero, List.nil_append, List.cons_append, List.length_cons, List.length_nil, Nat.zero_add, Nat.reduceAdd, List.set_cons_succ, List.set_cons_zero]
        refine Tm.uncons ?_
        refine Tm.cOwn ?_
        try simp (disch := omega) only [wrap_i64]
        refine laws_markStringS.tm (fun i hi => hi.1) (laws_markStringS.T hB k2 (by omega) (by omega)) (fun y2 t2 hy => ?_)
        obtain ⟨ys2, et2, el2, en2, hh2⟩ := hy
        simp only [] at et2 en2 hh2
        subst et2 en2
        refine Tm.guard (by first | decide | (simp only [List.length_modify, List.length_append, List.length_cons]; omega)) ?_
        refine Tm.guard (by first | decide | (simp only [List.length_modify, List.length_append, List.length_cons]; omega)) ?_
        refine Tm.guard (by first | decide | (simp only [List.length_modify, List.length_append, List.length_cons]; omega)) ?_
        refine Tm.guard (by first | decide | (simp only [List.length_modify, List.length_append, List.length_cons]; omega)) ?_
        refine Tm.guard (by first | decide | (simp only [List.length_modify, List.length_append, List.length_cons]; omega)) ?_
        refine Tm.guard (by first | decide | (simp only [List.length_modify, List.length_append, List.length_cons]; omega)) ?_
        try simp (disch := omega) only [wrap_i64]
        try simp only [modify_mid hA, splice, List.take_zero, List.take_succ_cons, List.drop_succ_cons, List.drop_zero, List.nil_append, List.cons_append, List.length_cons, List.length_nil, Nat.zero_add, Nat.reduceAdd, List.set_cons_succ, List.set_cons_zero]
        refine hL (_, _, _) ⟨by omega, by omega, done ++ [[.str (laws_markText.v (u)), .sl ys1, .sl ys2, .int .i64 (u + 1 + (wtRows c1 : Int) + (wtRows c2 : Int)), .int .i64 (u + 1 + (wtRows c1 : Int) + (wtRows c2 : Int) + 1), .int .i64 (u + 1 + (wtRows c1 : Int) + (wtRows c2 : Int) + 1 + 1)]], by simp only [List.length_append, List.length_cons, List.length_nil]; omega, ?_, by omega, HeldL.snoc hH (fun k hk => laws_heldPostS.step (by omega) (by omega) hh1 (by omega) hh2 (by omega) hk)⟩ (by simp only []; omega)
        rw [deepRows_append]
        simp only [deepRows, deepCells, deepD, List.append_assoc, List.cons_append, List.nil_append]
      · simp only [decide_eq_false_iff_not, hT] at h4
        refine Tm.ret ⟨done, ?_, by omega, ?_, hH⟩
        · rw [List.drop_eq_nil_of_le (by omega)]
          simp only [deepRows, List.append_nil]
        · rw [List.take_of_length_le (by omega)] at hu
          exact hu
  obtain ⟨v, ⟨ys, e1, e2, e3, hH⟩, h2⟩ := key
  exact ⟨v, ⟨ys, e1, e2, e3, fun k hk => by
    have hk0 : Fuel k := hk
    unfold laws_heldPostS.t laws_heldPostS.g
    exact held_run (b := fun xs L v => laws_heldPostS.l0 k xs (fun z0 => some z0) L v) (by omega) (hH.mono fun _ _ _ h => h k hk) (by omega) (fun L => by simp [laws_heldPostS.l0])⟩, h2⟩
theorem laws_heldHoldS.f_of {β : Type} {k : Nat} {a0 : List (List D)} {a1 : Int} {z0 : Int} (h : laws_heldHoldS.t k a0 a1 = some z0) (K : Int → Option β) : laws_heldHoldS.f k a0 a1 K = K z0 := by
  unfold laws_heldHoldS.f
  rw [h]
theorem laws_heldHoldS.tm {ι α : Type} {ok : ι → Prop} {ψ : α → Prop} {p : ι → Nat} {B : Nat} (hp : ∀ i, ok i → B ≤ p i) {a0 : List (List D)} {a1 : Int} {φ : Int → Prop} (h : Tm (fun k => B ≤ k) (fun k => laws_heldHoldS.t k a0 a1) φ) {G : ι → Int → Option α} (hG : ∀ z0, φ z0 → Tm ok (fun i => G i z0) ψ) : Tm ok (fun i => laws_heldHoldS.f (p i) a0 a1 (G i)) ψ := by
  obtain ⟨z0, h1, h2⟩ := h
  exact (hG z0 h1).congr fun i hi => laws_heldHoldS.f_of (h2 (p i) (hp i hi)) _
set_option maxRecDepth 100000 in
set_option maxHeartbeats 8000000 in
theorem laws_heldHoldS.step {u : Int}  (h0 : 0 ≤ u)  (h1 : u + 1 + 1 + 1 + 1 + 1 ≤ 4611686018427387904) {k : Nat} (hk : Fuel k) : HStep (fun xs L v => laws_heldHoldS.l0 k xs (fun z0 => some z0) L v) u [.int .i64 (u), .str (laws_markText.v (u + 1)), .int .i64 (u + 1 + 1), .int .i64 (u + 1 + 1 + 1), .int .i64 (u + 1 + 1 + 1 + 1)] (u + 1 + 1 + 1 + 1 + 1) := by
  have hk0 : Fuel k := hk
  intro xs i i0 i1 hl hr L
  simp (maxSteps := 4000000) (disch := first | assumption | omega) only [laws_heldHoldS.l0, dec_true i1, cond_true, cond_false, atRow_gR i0 i1, hr, uncons_at, dInt_self, dStr_at, dBool_at, dSl_at, atEnd_at, wrap_i64, laws_markText.fv, strEq_self, bne_self_eq_false, beq_self_eq_true, Bool.not_true]
set_option maxRecDepth 100000 in
set_option maxHeartbeats 8000000 in
theorem laws_markHoldS.T {B : Nat} (hB : B ≤ 1099511627776) {xs : List (List D)} {n : Int} (g : SlOk RISIII B xs) (h0 : 0 ≤ n) (h1 : n + wtRows xs ≤ 4611686018427387904) : Tm Fuel (fun k => laws_markHoldS.t k (deepRows xs) n) (fun z => ∃ ys, z.2 = deepRows ys ∧ ys.length = xs.length ∧ z.1 = n + wtRows xs ∧ ∀ k, Fuel k → laws_heldHoldS.t k ys n = some z.1) := by
  have hb : big = 2 ^ 64 := rfl
  have hl := g.1
  have key : Tm Fuel (fun k => laws_markHoldS.t k (deepRows xs) n) (fun z => ∃ ys, z.2 = deepRows ys ∧ ys.length = xs.length ∧ z.1 = n + wtRows xs ∧ HeldL (fun u r u' => ∀ k, Fuel k → HStep (fun xs L v => laws_heldHoldS.l0 k xs (fun z0 => some z0) L v) u r u') n ys z.1) := by
    unfold laws_markHoldS.t laws_markHoldS.g
    refine Tm.loop (okk := Fuel) (p := fun k => k) (fun i hi => hi) (b := fun k => laws_markHoldS.l0 k (fun z0 z1 => some (z0, z1))) (fun v => match v with | (u, i, tab) => ((xs.length : Int) - i).toNat) (fun v => match v with | (u, i, tab) => 0 ≤ i ∧ i ≤ xs.length ∧ ∃ done : List (List D), done.length = i.toNat ∧ tab = deepRows done ++ deepRows (xs.drop i.toNat) ∧ u = n + wtRows (xs.take i.toNat) ∧ HeldL (fun u r u' => ∀ k, Fuel k → HStep (fun xs L v => laws_heldHoldS.l0 k xs (fun z0 => some z0) L v) u r u') n done u) ?_ ?_ ?_
    · rintro ⟨u, i, tab⟩ hI
      simp only [] at hI ⊢
      omega
    · exact ⟨by omega, by omega, [], rfl, by simp [deepRows], by simp [wtRows], .nil⟩
    · rintro ⟨u, i, tab⟩ hI L hL
      simp only [] at hI
      obtain ⟨i0, i1, done, hd, rfl, hu, hH⟩ := hI
      have hA : (deepRows done).length = i.toNat := by rw [deepRows_length, hd]
      have hT : (deepRows done ++ deepRows (xs.drop i.toNat)).length = xs.length := by rw [List.length_append, hA, deepRows_length, List.length_drop]; omega
      simp only [laws_markHoldS.l0]
      refine Tm.ite (fun h4 => ?_) (fun h4 => ?_)
      · simp only [decide_eq_true_eq, hT] at h4
        have hx := gR_at i0 h4
        obtain ⟨c0, c1, c2, c3, c4, e, k0, k1, k2, k3, k4, _⟩ := (g.2 _ (gR_mem i0 h4)).open
        rw [e] at hx
        have hdr := drop_at i0 hx
        have hw := wt_take i0 hx
        simp only [wtCells, wtD] at hw
        have hs := wt_split xs (i + 1).toNat
        rw [hdr] at hT ⊢
        simp only [deepRows, deepCells, deepD] at hT ⊢
        have hT2 := hT
        simp only [List.length_append, List.length_cons] at hT2
        refine Tm.guard (by first | decide | (simp only [List.length_modify, List.length_append, List.length_cons]; omega)) ?_
        refine Tm.guard (by first | decide | (simp only [List.length_modify, List.length_append, List.length_cons]; omega)) ?_
        try simp (disch := omega) only [wrap_i64]
        refine laws_markText.tm (fun i hi => hi.1) (Tm.at (ok := Fuel) (v := laws_markText.v _) (fun k hk => laws_markText.tv (by omega) hk)) (fun y hy => ?_)
        subst hy
        refine Tm.guard (by first | decide | (simp only [List.length_modify, List.length_append, List.length_cons]; omega)) ?_
        refine Tm.guard (by first | decide | (simp only [List.length_modify, List.length_append, List.length_cons]; omega)) ?_
        refine Tm.guard (by first | decide | (simp only [List.length_modify, List.length_append, List.length_cons]; omega)) ?_
        refine Tm.guard (by first | decide | (simp only [List.length_modify, List.length_append, List.length_cons]; omega)) ?_
        refine Tm.guard (by first | decide | (simp only [List.length_modify, List.length_append, List.length_cons]; omega)) ?_
        refine Tm.guard (by first | decide | (simp only [List.length_modify, List.length_append, List.length_cons]; omega)) ?_
        refine Tm.guard (by first | decide | (simp only [List.length_modify, List.length_append, List.length_cons]; omega)) ?_
        refine Tm.guard (by first | decide | (simp only [List.length_modify, List.length_append, List.length_cons]; omega)) ?_
        try simp (disch := omega) only [wrap_i64]
        try simp only [modify_mid hA, splice, List.take_zero, List.take_succ_cons, List.drop_succ_cons, List.drop_zero, List.nil_append, List.cons_append, List.length_cons, List.length_nil, Nat.zero_add, Nat.reduceAdd, List.set_cons_succ, List.set_cons_zero]
        refine hL (_, _, _) ⟨by omega, by omega, done ++ [[.int .i64 (u), .str (laws_markText.v (u + 1)), .int .i64 (u + 1 + 1), .int .i64 (u + 1 + 1 + 1), .int .i64 (u + 1 + 1 + 1 + 1)]], by simp only [List.length_append, List.length_cons, List.length_nil]; omega, ?_, by omega, HeldL.snoc hH (fun k hk => laws_heldHoldS.step (by omega) (by omega) hk)⟩ (by simp only []; omega)
        rw [deepRows_append]
        simp only [deepRows, deepCells, deepD, List.append_assoc, List.cons_append, List.nil_append]
      · simp only [decide_eq_false_iff_not, hT] at h4
        refine Tm.ret ⟨done, ?_, by omega, ?_, hH⟩
        · rw [List.drop_eq_nil_of_le (by omega)]
          simp only [deepRows, List.append_nil]
        · rw [List.take_of_length_le (by omega)] at hu
          exact hu
  obtain ⟨v, ⟨ys, e1, e2, e3, hH⟩, h2⟩ := key
  exact ⟨v, ⟨ys, e1, e2, e3, fun k hk => by
    have hk0 : Fuel k := hk
    unfold laws_heldHoldS.t laws_heldHoldS.g
    exact held_run (b := fun xs L v => laws_heldHoldS.l0 k xs (fun z0 => some z0) L v) (by omega) (hH.mono fun _ _ _ h => h k hk) (by omega) (fun L => by simp [laws_heldHoldS.l0])⟩, h2⟩
theorem laws_heldHub.f_of {β : Type} {k : Nat} {a0_0 : Int} {a0_1 : Int} {a0_2 : Int} {a0_3 : List (List D)} {a0_4 : List (List D)} {a0_5 : List (List D)} {a0_6 : List (List D)} {a1 : Int} {z0 : Int} (h : laws_heldHub.t k a0_0 a0_1 a0_2 a0_3 a0_4 a0_5 a0_6 a1 = some z0) (K : Int → Option β) : laws_heldHub.f k a0_0 a0_1 a0_2 a0_3 a0_4 a0_5 a0_6 a1 K = K z0 := by
  unfold laws_heldHub.f
  rw [h]
theorem laws_heldHub.tm {ι α : Type} {ok : ι → Prop} {ψ : α → Prop} {p : ι → Nat} {B : Nat} (hp : ∀ i, ok i → B ≤ p i) {a0_0 : Int} {a0_1 : Int} {a0_2 : Int} {a0_3 : List (List D)} {a0_4 : List (List D)} {a0_5 : List (List D)} {a0_6 : List (List D)} {a1 : Int} {φ : Int → Prop} (h : Tm (fun k => B ≤ k) (fun k => laws_heldHub.t k a0_0 a0_1 a0_2 a0_3 a0_4 a0_5 a0_6 a1) φ) {G : ι → Int → Option α} (hG : ∀ z0, φ z0 → Tm ok (fun i => G i z0) ψ) : Tm ok (fun i => laws_heldHub.f (p i) a0_0 a0_1 a0_2 a0_3 a0_4 a0_5 a0_6 a1 (G i)) ψ := by
  obtain ⟨z0, h1, h2⟩ := h
  exact (hG z0 h1).congr fun i hi => laws_heldHub.f_of (h2 (p i) (hp i hi)) _
set_option maxRecDepth 100000 in
set_option maxHeartbeats 8000000 in
theorem laws_markHub.T {B : Nat} (hB : B ≤ 1099511627776) {c0 : Int} {c1 : Int} {c2 : Int} {a3 a4 a5 a6 : List (List D)} {n : Int} (g3 : SlOk RISILISLSEELSELSIEISILSELISILSELXEELSLILSEISILSELISILSELXEEEEB B a3) (g4 : SlOk RSLSSELSEIII B a4) (g5 : SlOk RISIII B a5) (g6 : SlOk RS B a6) (h0 : 0 ≤ n) (h1 : n + wtRows a3 + wtRows a4 + wtRows a5 + wtRows a6 ≤ 4611686018427387904) : Tm (FuelN 1) (fun k => laws_markHub.t k c0 c1 c2 (deepRows a3) (deepRows a4) (deepRows a5) (deepRows a6) n) (fun z => ∃ ys3 ys4 ys5 ys6, z.1 = n + wtRows a3 + wtRows a4 + wtRows a5 + wtRows a6 ∧ z.2.1 = deepRows ys3 ∧ z.2.2.1 = deepRows ys4 ∧ z.2.2.2.1 = deepRows ys5 ∧ z.2.2.2.2 = deepRows ys6 ∧ ys3.length = a3.length ∧ ys4.length = a4.length ∧ ys5.length = a5.length ∧ ys6.length = a6.length ∧ ∀ k, (FuelN 1) k → laws_heldHub.t k c0 c1 c2 ys3 ys4 ys5 ys6 n = some z.1) := by
  unfold laws_markHub.t laws_markHub.g
  refine laws_markJobS.tm (fun i hi => hi) (laws_markJobS.T hB g3 (by omega) (by omega)) (fun y3 t3 hy => ?_)
  obtain ⟨ys3, et3, el3, en3, hh3⟩ := hy
  simp only [] at et3 en3 hh3
  subst et3 en3
  try refine Tm.guard (by rw [deepRows_length, deepRows_length]; exact el3) ?_
  refine laws_markPostS.tm (fun i hi => up0 hi) (laws_markPostS.T hB g4 (by omega) (by omega)) (fun y4 t4 hy => ?_)
  obtain ⟨ys4, et4, el4, en4, hh4⟩ := hy
  simp only [] at et4 en4 hh4
  subst et4 en4
  try refine Tm.guard (by rw [deepRows_length, deepRows_length]; exact el4) ?_
  refine laws_markHoldS.tm (fun i hi => up0 hi) (laws_markHoldS.T hB g5 (by omega) (by omega)) (fun y5 t5 hy => ?_)
  obtain ⟨ys5, et5, el5, en5, hh5⟩ := hy
  simp only [] at et5 en5 hh5
  subst et5 en5
  try refine Tm.guard (by rw [deepRows_length, deepRows_length]; exact el5) ?_
  refine laws_markStringS.tm (fun i hi => up0 hi) (laws_markStringS.T hB g6 (by omega) (by omega)) (fun y6 t6 hy => ?_)
  obtain ⟨ys6, et6, el6, en6, hh6⟩ := hy
  simp only [] at et6 en6 hh6
  subst et6 en6
  try refine Tm.guard (by rw [deepRows_length, deepRows_length]; exact el6) ?_
  exact Tm.ret ⟨ys3, ys4, ys5, ys6, rfl, rfl, rfl, rfl, rfl, el3, el4, el5, el6, fun k hk => by
    unfold laws_heldHub.t laws_heldHub.g
    rw [laws_heldJobS.f_of (hh3 k hk)]; simp only [dec_false (show ¬ (n + (wtRows a3 : Int)) < 0 by omega), cond_false]
    rw [laws_heldPostS.f_of (hh4 k (up0 hk))]; simp only [dec_false (show ¬ (n + (wtRows a3 : Int) + (wtRows a4 : Int)) < 0 by omega), cond_false]
    rw [laws_heldHoldS.f_of (hh5 k (up0 hk))]; simp only [dec_false (show ¬ (n + (wtRows a3 : Int) + (wtRows a4 : Int) + (wtRows a5 : Int)) < 0 by omega), cond_false]
    rw [laws_heldStringS.f_of (hh6 k (up0 hk))]; simp only [dec_false (show ¬ (n + (wtRows a3 : Int) + (wtRows a4 : Int) + (wtRows a5 : Int) + (wtRows a6 : Int)) < 0 by omega), cond_false]⟩
end Go.Proofs.Ytnlhhhkeigjnoaa
