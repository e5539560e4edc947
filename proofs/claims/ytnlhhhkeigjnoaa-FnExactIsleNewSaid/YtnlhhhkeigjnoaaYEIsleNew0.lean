/- Printed, and by hand: the functions that FnExactIsleNew reaches come to their end; the program's answer as the reference's. -/
import Derived.Test.YtnlhhhkeigjnoaaXEIsleNew0
import Derived.KernelRfl
set_option linter.unusedVariables false
set_option linter.unusedSimpArgs false
namespace Go.Proofs.Ytnlhhhkeigjnoaa
open Go Go.T Go.Proofs
theorem kinds (n : Int) : n = 1 ∨ n = 2 ∨ n = 3 ∨ n = 4 ∨ n = 5 ∨ ((n == 1) = false ∧ (n == 2) = false ∧ (n == 3) = false ∧ (n == 4) = false ∧ (n == 5) = false) := by
  simp only [beq_eq_false_iff_ne]
  omega

theorem spec_l1In.f_of {β : Type} {k : Nat} {a0 : Int} {a1 : Int} {a2 : Int} {z0 : Bool} (h : spec_l1In.t k a0 a1 a2 = some z0) (K : Bool → Option β) : spec_l1In.f k a0 a1 a2 K = K z0 := by
  unfold spec_l1In.f
  rw [h]
theorem spec_l1In.tm {ι α : Type} {ok : ι → Prop} {ψ : α → Prop} {p : ι → Nat} {B : Nat} (hp : ∀ i, ok i → B ≤ p i) {a0 : Int} {a1 : Int} {a2 : Int} {φ : Bool → Prop} (h : Tm (fun k => B ≤ k) (fun k => spec_l1In.t k a0 a1 a2) φ) {G : ι → Bool → Option α} (hG : ∀ z0, φ z0 → Tm ok (fun i => G i z0) ψ) : Tm ok (fun i => spec_l1In.f (p i) a0 a1 a2 (G i)) ψ := by
  obtain ⟨z0, h1, h2⟩ := h
  exact (hG z0 h1).congr fun i hi => spec_l1In.f_of (h2 (p i) (hp i hi)) _
theorem spec_l1In.T {a0 : Int} {a1 : Int} {a2 : Int} : Tm Fuel (fun k => spec_l1In.t k a0 a1 a2) (fun r => r = true → a1 ≤ a0 ∧ a0 ≤ a2) := by
  unfold spec_l1In.t spec_l1In.g
  have hm := maxLen_eq
  have hlim : lim = 1048576 := rfl
  refine Tm.ite (fun h1 => ?_) (fun h1 => ?_)
  · try simp only [decide_eq_true_eq, decide_eq_false_iff_not, Int.not_lt, Int.not_le, bne_iff_ne, ne_eq, bne_eq_false_iff_eq, beq_iff_eq, beq_eq_false_iff_ne, Bool.not_eq_true', Bool.not_eq_false'] at h1
    exact Tm.ret (by first | (intro h; simp at h; omega) | (intro h; cases h))
  · try simp only [decide_eq_true_eq, decide_eq_false_iff_not, Int.not_lt, Int.not_le, bne_iff_ne, ne_eq, bne_eq_false_iff_eq, beq_iff_eq, beq_eq_false_iff_ne, Bool.not_eq_true', Bool.not_eq_false'] at h1
    exact Tm.ret (by first | (intro h; simp at h; omega) | (intro h; cases h))
noncomputable def spec_l1In.v (a0 : Int) (a1 : Int) (a2 : Int) : Bool := (spec_l1In.t big a0 a1 a2).getD default
theorem spec_l1In.tv {a0 : Int} {a1 : Int} {a2 : Int} {k : Nat} (hk : Fuel k) : spec_l1In.t k a0 a1 a2 = some (spec_l1In.v a0 a1 a2) := (spec_l1In.T).val hk
theorem spec_l1In.fv {a0 : Int} {a1 : Int} {a2 : Int} {k : Nat} (hk : Fuel k) {β : Type} (K : Bool → Option β) : spec_l1In.f k a0 a1 a2 K = K (spec_l1In.v a0 a1 a2) := spec_l1In.f_of (spec_l1In.tv hk) K
theorem l1In_f {β : Type} {k : Nat} {a b c : Int} (K : Bool → Option β) : spec_l1In.f k a b c K = K (decide (b ≤ a) && decide (a ≤ c)) := by
  refine spec_l1In.f_of ?_ K
  unfold spec_l1In.t spec_l1In.g
  by_cases h : b ≤ a <;> simp [h]

def inB (a b c : Int) : Bool := decide (b ≤ a) && decide (a ≤ c)
theorem l1In_fv {β : Type} {k : Nat} {a b c : Int} (K : Bool → Option β) : spec_l1In.f k a b c K = K (inB a b c) := l1In_f K

theorem spec_NameOk.f_of {β : Type} {k : Nat} {a0 : ByteArray} {z0 : Bool} (h : spec_NameOk.t k a0 = some z0) (K : Bool → Option β) : spec_NameOk.f k a0 K = K z0 := by
  unfold spec_NameOk.f
  rw [h]
theorem spec_NameOk.tm {ι α : Type} {ok : ι → Prop} {ψ : α → Prop} {p : ι → Nat} {B : Nat} (hp : ∀ i, ok i → B ≤ p i) {a0 : ByteArray} {φ : Bool → Prop} (h : Tm (fun k => B ≤ k) (fun k => spec_NameOk.t k a0) φ) {G : ι → Bool → Option α} (hG : ∀ z0, φ z0 → Tm ok (fun i => G i z0) ψ) : Tm ok (fun i => spec_NameOk.f (p i) a0 (G i)) ψ := by
  obtain ⟨z0, h1, h2⟩ := h
  exact (hG z0 h1).congr fun i hi => spec_NameOk.f_of (h2 (p i) (hp i hi)) _
theorem spec_NameOk.T {a0 : ByteArray} (ga0 : a0.size ≤ lim) : Tm Fuel (fun k => spec_NameOk.t k a0) (fun _ => True) := by
  unfold spec_NameOk.t spec_NameOk.g
  have hm := maxLen_eq
  have hlim : lim = 1048576 := rfl
  refine Tm.loop (okk := Fuel) (p := fun k => k) (fun i hi => hi) (b := fun k => spec_NameOk.l0 k a0 (fun z0 => some z0)) (fun i => (((a0.size : Int)) - i).toNat) (fun i => 0 ≤ i ∧ i ≤ (a0.size : Int)) ?_ ?_ ?_
  · rintro i hI
    try simp only [] at hI ⊢
    have : big = 2 ^ 64 := rfl
    omega
  · ((try simp only []); omega)
  · rintro i hI L hL
    try simp only [] at hI
    obtain ⟨i0, i1⟩ := hI
    simp only [spec_NameOk.l0]
    refine Tm.ite (fun h1 => ?_) (fun h1 => ?_)
    · try simp only [decide_eq_true_eq, decide_eq_false_iff_not, Int.not_lt, Int.not_le, bne_iff_ne, ne_eq, bne_eq_false_iff_eq, beq_iff_eq, beq_eq_false_iff_ne, Bool.not_eq_true', Bool.not_eq_false'] at h1
      refine Tm.atStr (by first | assumption | omega | (simp only [lim, maxLen_eq] at *; omega)) (by first | assumption | omega | (simp only [lim, maxLen_eq] at *; omega)) (fun b2 hb3 => ?_)
      try rw [wrap_i64 (x := (b2.toNat : Int)) (by omega) (by omega)]
      refine spec_l1In.tm (fun i hi => hi.1) (spec_l1In.T) (fun y5 hy4 => ?_)
      refine Tm.ite (fun h6 => ?_) (fun h6 => ?_)
      · try simp only [decide_eq_true_eq, decide_eq_false_iff_not, Int.not_lt, Int.not_le, bne_iff_ne, ne_eq, bne_eq_false_iff_eq, beq_iff_eq, beq_eq_false_iff_ne, Bool.not_eq_true', Bool.not_eq_false'] at h6
        refine Tm.atStr (by first | assumption | omega | (simp only [lim, maxLen_eq] at *; omega)) (by first | assumption | omega | (simp only [lim, maxLen_eq] at *; omega)) (fun b7 hb8 => ?_)
        try rw [wrap_i64 (x := (b7.toNat : Int)) (by omega) (by omega)]
        refine spec_l1In.tm (fun i hi => hi.1) (spec_l1In.T) (fun y10 hy9 => ?_)
        refine Tm.ite (fun h11 => ?_) (fun h11 => ?_)
        · try simp only [decide_eq_true_eq, decide_eq_false_iff_not, Int.not_lt, Int.not_le, bne_iff_ne, ne_eq, bne_eq_false_iff_eq, beq_iff_eq, beq_eq_false_iff_ne, Bool.not_eq_true', Bool.not_eq_false'] at h11
          refine Tm.atStr (by first | assumption | omega | (simp only [lim, maxLen_eq] at *; omega)) (by first | assumption | omega | (simp only [lim, maxLen_eq] at *; omega)) (fun b12 hb13 => ?_)
          refine Tm.ite (fun h14 => ?_) (fun h14 => ?_)
          · try simp only [decide_eq_true_eq, decide_eq_false_iff_not, Int.not_lt, Int.not_le, bne_iff_ne, ne_eq, bne_eq_false_iff_eq, beq_iff_eq, beq_eq_false_iff_ne, Bool.not_eq_true', Bool.not_eq_false'] at h14
            exact Tm.ret (by trivial)
          · try simp only [decide_eq_true_eq, decide_eq_false_iff_not, Int.not_lt, Int.not_le, bne_iff_ne, ne_eq, bne_eq_false_iff_eq, beq_iff_eq, beq_eq_false_iff_ne, Bool.not_eq_true', Bool.not_eq_false'] at h14
            try rw [wrap_i64 (x := i + 1) (by omega) (by omega)]
            exact hL _ (by (try simp only []); omega) (by (try simp only []); omega)
        · try simp only [decide_eq_true_eq, decide_eq_false_iff_not, Int.not_lt, Int.not_le, bne_iff_ne, ne_eq, bne_eq_false_iff_eq, beq_iff_eq, beq_eq_false_iff_ne, Bool.not_eq_true', Bool.not_eq_false'] at h11
          have z15 := hy9 h11
          try rw [wrap_i64 (x := i + 1) (by omega) (by omega)]
          exact hL _ (by (try simp only []); omega) (by (try simp only []); omega)
      · try simp only [decide_eq_true_eq, decide_eq_false_iff_not, Int.not_lt, Int.not_le, bne_iff_ne, ne_eq, bne_eq_false_iff_eq, beq_iff_eq, beq_eq_false_iff_ne, Bool.not_eq_true', Bool.not_eq_false'] at h6
        have z16 := hy4 h6
        try rw [wrap_i64 (x := i + 1) (by omega) (by omega)]
        exact hL _ (by (try simp only []); omega) (by (try simp only []); omega)
    · try simp only [decide_eq_true_eq, decide_eq_false_iff_not, Int.not_lt, Int.not_le, bne_iff_ne, ne_eq, bne_eq_false_iff_eq, beq_iff_eq, beq_eq_false_iff_ne, Bool.not_eq_true', Bool.not_eq_false'] at h1
      refine spec_l1In.tm (fun i hi => hi.1) (spec_l1In.T) (fun y18 hy17 => ?_)
      refine Tm.ite (fun h19 => ?_) (fun h19 => ?_)
      · try simp only [decide_eq_true_eq, decide_eq_false_iff_not, Int.not_lt, Int.not_le, bne_iff_ne, ne_eq, bne_eq_false_iff_eq, beq_iff_eq, beq_eq_false_iff_ne, Bool.not_eq_true', Bool.not_eq_false'] at h19
        have z20 := hy17 h19
        refine Tm.atStr (by first | assumption | omega | (simp only [lim, maxLen_eq] at *; omega)) (by first | assumption | omega | (simp only [lim, maxLen_eq] at *; omega)) (fun b21 hb22 => ?_)
        refine Tm.ite (fun h23 => ?_) (fun h23 => ?_)
        · try simp only [decide_eq_true_eq, decide_eq_false_iff_not, Int.not_lt, Int.not_le, bne_iff_ne, ne_eq, bne_eq_false_iff_eq, beq_iff_eq, beq_eq_false_iff_ne, Bool.not_eq_true', Bool.not_eq_false'] at h23
          try rw [wrap_i64 (x := (a0.size : Int) - 1) (by omega) (by omega)]
          refine Tm.atStr (by first | assumption | omega | (simp only [lim, maxLen_eq] at *; omega)) (by first | assumption | omega | (simp only [lim, maxLen_eq] at *; omega)) (fun b24 hb25 => ?_)
          exact Tm.ret (by trivial)
        · try simp only [decide_eq_true_eq, decide_eq_false_iff_not, Int.not_lt, Int.not_le, bne_iff_ne, ne_eq, bne_eq_false_iff_eq, beq_iff_eq, beq_eq_false_iff_ne, Bool.not_eq_true', Bool.not_eq_false'] at h23
          exact Tm.ret (by trivial)
      · try simp only [decide_eq_true_eq, decide_eq_false_iff_not, Int.not_lt, Int.not_le, bne_iff_ne, ne_eq, bne_eq_false_iff_eq, beq_iff_eq, beq_eq_false_iff_ne, Bool.not_eq_true', Bool.not_eq_false'] at h19
        exact Tm.ret (by trivial)
noncomputable def spec_NameOk.v (a0 : ByteArray) : Bool := (spec_NameOk.t big a0).getD default
theorem spec_NameOk.tv {a0 : ByteArray} (ga0 : a0.size ≤ lim) {k : Nat} (hk : Fuel k) : spec_NameOk.t k a0 = some (spec_NameOk.v a0) := (spec_NameOk.T ga0).val hk
theorem spec_NameOk.fv {a0 : ByteArray} (ga0 : a0.size ≤ lim) {k : Nat} (hk : Fuel k) {β : Type} (K : Bool → Option β) : spec_NameOk.f k a0 K = K (spec_NameOk.v a0) := spec_NameOk.f_of (spec_NameOk.tv ga0 hk) K
noncomputable def namesB (xs : List (List D)) : Bool := (List.range xs.length).all fun i => spec_NameOk.v (gS xs (i : Int) 0) && (!decide ((i : Int) > 0) || strLt (gS xs ((i : Int) - 1) 0) (gS xs (i : Int) 0))

theorem spec_IsleNew.f_of {β : Type} {k : Nat} {a0 : ByteArray} {a1 : Int} {z0 : ByteArray} {z1 : Int} {z2 : Int} {z3 : List (List C)} {z4 : List (List C)} {z5 : Bool} (h : spec_IsleNew.t k a0 a1 = some (z0, z1, z2, z3, z4, z5)) (K : ByteArray → Int → Int → (List (List C)) → (List (List C)) → Bool → Option β) : spec_IsleNew.f k a0 a1 K = K z0 z1 z2 z3 z4 z5 := by
  unfold spec_IsleNew.f
  rw [h]
theorem spec_IsleNew.tm {ι α : Type} {ok : ι → Prop} {ψ : α → Prop} {p : ι → Nat} {B : Nat} (hp : ∀ i, ok i → B ≤ p i) {a0 : ByteArray} {a1 : Int} {φ : ByteArray × Int × Int × (List (List C)) × (List (List C)) × Bool → Prop} (h : Tm (fun k => B ≤ k) (fun k => spec_IsleNew.t k a0 a1) φ) {G : ι → ByteArray → Int → Int → (List (List C)) → (List (List C)) → Bool → Option α} (hG : ∀ z0 z1 z2 z3 z4 z5, φ (z0, z1, z2, z3, z4, z5) → Tm ok (fun i => G i z0 z1 z2 z3 z4 z5) ψ) : Tm ok (fun i => spec_IsleNew.f (p i) a0 a1 (G i)) ψ := by
  obtain ⟨⟨z0, z1, z2, z3, z4, z5⟩, h1, h2⟩ := h
  exact (hG z0 z1 z2 z3 z4 z5 h1).congr fun i hi => spec_IsleNew.f_of (h2 (p i) (hp i hi)) _
theorem impl_within.f_of {β : Type} {k : Nat} {a0 : Int} {a1 : Int} {a2 : Int} {z0 : Bool} (h : impl_within.t k a0 a1 a2 = some z0) (K : Bool → Option β) : impl_within.f k a0 a1 a2 K = K z0 := by
  unfold impl_within.f
  rw [h]
theorem impl_within.tm {ι α : Type} {ok : ι → Prop} {ψ : α → Prop} {p : ι → Nat} {B : Nat} (hp : ∀ i, ok i → B ≤ p i) {a0 : Int} {a1 : Int} {a2 : Int} {φ : Bool → Prop} (h : Tm (fun k => B ≤ k) (fun k => impl_within.t k a0 a1 a2) φ) {G : ι → Bool → Option α} (hG : ∀ z0, φ z0 → Tm ok (fun i => G i z0) ψ) : Tm ok (fun i => impl_within.f (p i) a0 a1 a2 (G i)) ψ := by
  obtain ⟨z0, h1, h2⟩ := h
  exact (hG z0 h1).congr fun i hi => impl_within.f_of (h2 (p i) (hp i hi)) _
theorem impl_NameOk.f_of {β : Type} {k : Nat} {a0 : ByteArray} {z0 : Bool} (h : impl_NameOk.t k a0 = some z0) (K : Bool → Option β) : impl_NameOk.f k a0 K = K z0 := by
  unfold impl_NameOk.f
  rw [h]
theorem impl_NameOk.tm {ι α : Type} {ok : ι → Prop} {ψ : α → Prop} {p : ι → Nat} {B : Nat} (hp : ∀ i, ok i → B ≤ p i) {a0 : ByteArray} {φ : Bool → Prop} (h : Tm (fun k => B ≤ k) (fun k => impl_NameOk.t k a0) φ) {G : ι → Bool → Option α} (hG : ∀ z0, φ z0 → Tm ok (fun i => G i z0) ψ) : Tm ok (fun i => impl_NameOk.f (p i) a0 (G i)) ψ := by
  obtain ⟨z0, h1, h2⟩ := h
  exact (hG z0 h1).congr fun i hi => impl_NameOk.f_of (h2 (p i) (hp i hi)) _
theorem within_f {β : Type} {k : Nat} {a b c : Int} (K : Bool → Option β) : impl_within.f k a b c K = K (decide (b ≤ a) && decide (a ≤ c)) := by
  refine impl_within.f_of ?_ K
  unfold impl_within.t impl_within.g
  by_cases h : b ≤ a <;> simp [h]
theorem impl_NameOk.same {k : Nat} {a : ByteArray} : impl_NameOk.t k a = spec_NameOk.t k a := by
  unfold impl_NameOk.t spec_NameOk.t impl_NameOk.g spec_NameOk.g
  congr 1
  funext L v
  simp only [impl_NameOk.l0, spec_NameOk.l0, l1In_f, within_f]
  refine bif_congr (fun _ => ?_) (fun _ => rfl)
  unfold atStr
  split
  · split
    · rename_i b _
      have hb : b.toNat < 256 := b.toNat_lt
      simp only []
      rw [wrap_i64 (x := (b.toNat : Int)) (by omega) (by omega)]
      generalize (b.toNat : Int) = x
      by_cases h1 : x < 97 <;> by_cases h2 : x < 48 <;> by_cases h3 : x > 57 <;> by_cases h4 : x > 122 <;> simp [h1, h2, h3, h4] <;> (try omega) <;> grind
    · rfl
  · rfl

theorem impl_NameOk_f {β : Type} {k : Nat} {a : ByteArray} (K : Bool → Option β) : impl_NameOk.f k a K = spec_NameOk.f k a K := by
  unfold impl_NameOk.f spec_NameOk.f
  rw [impl_NameOk.same]

theorem within_fv {β : Type} {k : Nat} {a b c : Int} (K : Bool → Option β) : impl_within.f k a b c K = K (inB a b c) := within_f K

theorem impl_isCopies.f_of {β : Type} {k : Nat} {a0 : Int} {z0 : Bool} (h : impl_isCopies.t k a0 = some z0) (K : Bool → Option β) : impl_isCopies.f k a0 K = K z0 := by
  unfold impl_isCopies.f
  rw [h]
theorem impl_isCopies.tm {ι α : Type} {ok : ι → Prop} {ψ : α → Prop} {p : ι → Nat} {B : Nat} (hp : ∀ i, ok i → B ≤ p i) {a0 : Int} {φ : Bool → Prop} (h : Tm (fun k => B ≤ k) (fun k => impl_isCopies.t k a0) φ) {G : ι → Bool → Option α} (hG : ∀ z0, φ z0 → Tm ok (fun i => G i z0) ψ) : Tm ok (fun i => impl_isCopies.f (p i) a0 (G i)) ψ := by
  obtain ⟨z0, h1, h2⟩ := h
  exact (hG z0 h1).congr fun i hi => impl_isCopies.f_of (h2 (p i) (hp i hi)) _
theorem isCopies_f {β : Type} {k : Nat} {a : Int} (K : Bool → Option β) : impl_isCopies.f k a K = K (decide (0 ≤ a) && decide (a ≤ 10000)) := by
  refine impl_isCopies.f_of ?_ K
  unfold impl_isCopies.t impl_isCopies.g
  rw [within_f]

theorem impl_IsleNew.f_of {β : Type} {k : Nat} {a0 : ByteArray} {a1 : Int} {z0 : ByteArray} {z1 : Int} {z2 : Int} {z3 : List (List C)} {z4 : List (List C)} {z5 : Bool} (h : impl_IsleNew.t k a0 a1 = some (z0, z1, z2, z3, z4, z5)) (K : ByteArray → Int → Int → (List (List C)) → (List (List C)) → Bool → Option β) : impl_IsleNew.f k a0 a1 K = K z0 z1 z2 z3 z4 z5 := by
  unfold impl_IsleNew.f
  rw [h]
theorem impl_IsleNew.tm {ι α : Type} {ok : ι → Prop} {ψ : α → Prop} {p : ι → Nat} {B : Nat} (hp : ∀ i, ok i → B ≤ p i) {a0 : ByteArray} {a1 : Int} {φ : ByteArray × Int × Int × (List (List C)) × (List (List C)) × Bool → Prop} (h : Tm (fun k => B ≤ k) (fun k => impl_IsleNew.t k a0 a1) φ) {G : ι → ByteArray → Int → Int → (List (List C)) → (List (List C)) → Bool → Option α} (hG : ∀ z0 z1 z2 z3 z4 z5, φ (z0, z1, z2, z3, z4, z5) → Tm ok (fun i => G i z0 z1 z2 z3 z4 z5) ψ) : Tm ok (fun i => impl_IsleNew.f (p i) a0 a1 (G i)) ψ := by
  obtain ⟨⟨z0, z1, z2, z3, z4, z5⟩, h1, h2⟩ := h
  exact (hG z0 z1 z2 z3 z4 z5 h1).congr fun i hi => impl_IsleNew.f_of (h2 (p i) (hp i hi)) _
theorem laws_eqStringS.f_of {β : Type} {k : Nat} {a0 : List (List D)} {a1 : List (List D)} {z0 : Bool} (h : laws_eqStringS.t k a0 a1 = some z0) (K : Bool → Option β) : laws_eqStringS.f k a0 a1 K = K z0 := by
  unfold laws_eqStringS.f
  rw [h]
theorem laws_eqStringS.tm {ι α : Type} {ok : ι → Prop} {ψ : α → Prop} {p : ι → Nat} {B : Nat} (hp : ∀ i, ok i → B ≤ p i) {a0 : List (List D)} {a1 : List (List D)} {φ : Bool → Prop} (h : Tm (fun k => B ≤ k) (fun k => laws_eqStringS.t k a0 a1) φ) {G : ι → Bool → Option α} (hG : ∀ z0, φ z0 → Tm ok (fun i => G i z0) ψ) : Tm ok (fun i => laws_eqStringS.f (p i) a0 a1 (G i)) ψ := by
  obtain ⟨z0, h1, h2⟩ := h
  exact (hG z0 h1).congr fun i hi => laws_eqStringS.f_of (h2 (p i) (hp i hi)) _
def RS (B : Nat) (r : List D) : Prop := ∃ (c0 : ByteArray), r = [.str c0] ∧ c0.size ≤ B ∧ True
theorem RS.open {B : Nat} {r : List D} (h : RS B r) : ∃ (c0 : ByteArray), r = [.str c0] ∧ c0.size ≤ B ∧ True := h
theorem RS.mono {B B' : Nat} (hb : B ≤ B') {r : List D} (h : RS B r) : RS B' r := by
  obtain ⟨c0, rfl, k0, _⟩ := h
  exact ⟨_, rfl, (Nat.le_trans k0 hb), trivial⟩
theorem RS.len {B : Nat} {r : List D} (h : RS B r) : r.length = 1 := by
  obtain ⟨c0, rfl, _⟩ := h.open
  rfl
theorem RS.flat {B : Nat} {xs : List (List D)} (h : ∀ r ∈ xs, RS B r) : rowsFlat 1 xs := fun r hr => by
  obtain ⟨c0, rfl, _⟩ := (h r hr).open
  exact ⟨rfl, by simp [isScal]⟩
theorem RS.wt {B : Nat} {xs : List (List D)} (h : ∀ r ∈ xs, RS B r) : wtRows xs = 1 * xs.length := wt_flat (R := RS B) (fun r h => by obtain ⟨c0, rfl, _⟩ := h; rfl) xs h
theorem RS.deep {B : Nat} {xs : List (List D)} (h : ∀ r ∈ xs, RS B r) : deepRows xs = xs.map (·.map C.d) := deep_flat (R := RS B) (fun r h => by obtain ⟨c0, rfl, _⟩ := h; rfl) xs h
theorem RS.gets {B : Nat} {xs : List (List D)} (h : ∀ r ∈ xs, RS B r) {v : Int} (h0 : 0 ≤ v) (h1 : v < xs.length) : gR xs v = [.str (gS xs v 0)] ∧ (gS xs v 0).size ≤ B ∧ True := by
  obtain ⟨c0, e, k0, _⟩ := (h (gR xs v) (gR_mem h0 h1)).open
  unfold gS
  rw [e]
  exact ⟨rfl, k0, trivial⟩
theorem RS.rows {B : Nat} {xs : List (List D)} (h : ∀ r ∈ xs, RS B r) {v : Int} (h0 : 0 ≤ v) (h1 : v < xs.length) {β : Type} (F : List D → Option β) : atRow xs v F = F [.str (gS xs v 0)] := by
  rw [← (RS.gets h h0 h1).1]
  exact atRow_gR h0 h1 F
theorem RS.get {B : Nat} {xs : List (List D)} (h : SlOk RS B xs) {v : Int} (h0 : 0 ≤ v) (h1 : v < xs.length) : gR xs v = [.str (gS xs v 0)] ∧ (gS xs v 0).size ≤ B ∧ True := RS.gets h.2 h0 h1
theorem RS.row {B : Nat} {xs : List (List D)} (h : SlOk RS B xs) {v : Int} (h0 : 0 ≤ v) (h1 : v < xs.length) {β : Type} (F : List D → Option β) : atRow xs v F = F [.str (gS xs v 0)] := RS.rows h.2 h0 h1 F
theorem laws_eqStringS.T {B : Nat} {a0 : List (List D)} (ga0 : SlOk RS B a0) (hB : B ≤ 1099511627776) : Tm Fuel (fun k => laws_eqStringS.t k a0 a0) (fun r => r = true) := by
  unfold laws_eqStringS.t laws_eqStringS.g
  have hm := maxLen_eq
  have hlim : lim = 1048576 := rfl
  have hlen := ga0.1
  refine Tm.ite (fun h1 => ?_) (fun h1 => ?_)
  · try simp only [decide_eq_true_eq, decide_eq_false_iff_not, Int.not_lt, Int.not_le, bne_iff_ne, ne_eq, bne_eq_false_iff_eq, beq_iff_eq, beq_eq_false_iff_ne, Bool.not_eq_true', Bool.not_eq_false'] at h1
    exact Tm.ret (by first | rfl | (exfalso; simp [strEq_self] at *))
  · try simp only [decide_eq_true_eq, decide_eq_false_iff_not, Int.not_lt, Int.not_le, bne_iff_ne, ne_eq, bne_eq_false_iff_eq, beq_iff_eq, beq_eq_false_iff_ne, Bool.not_eq_true', Bool.not_eq_false'] at h1
    refine Tm.loop (okk := Fuel) (p := fun k => k) (fun i hi => hi) (b := fun k => laws_eqStringS.l0 k a0 a0 (fun z0 => some z0)) (fun i => (((a0.length : Int)) - i).toNat) (fun i => 0 ≤ i ∧ i ≤ (a0.length : Int)) ?_ ?_ ?_
    · rintro i hI
      try simp only [] at hI ⊢
      have : big = 2 ^ 64 := rfl
      have := ga0.1
      omega
    · ((try simp only []); omega)
    · rintro i hI L hL
      try simp only [] at hI
      obtain ⟨i0, i1⟩ := hI
      simp only [laws_eqStringS.l0]
      refine Tm.ite (fun h2 => ?_) (fun h2 => ?_)
      · try simp only [decide_eq_true_eq, decide_eq_false_iff_not, Int.not_lt, Int.not_le, bne_iff_ne, ne_eq, bne_eq_false_iff_eq, beq_iff_eq, beq_eq_false_iff_ne, Bool.not_eq_true', Bool.not_eq_false'] at h2
        refine Tm.atRow (by first | assumption | omega | (simp only [lim, maxLen_eq] at *; omega)) (by first | assumption | omega | (simp only [lim, maxLen_eq] at *; omega)) (fun x3 hx4 hm5 => ?_)
        obtain ⟨c6, rfl, g7, _⟩ := (ga0.2 x3 hm5).open
        refine Tm.uncons ?_
        refine Tm.dStr ?_
        refine Tm.atEnd ?_
        refine Tm.atRow (by first | assumption | omega | (simp only [lim, maxLen_eq] at *; omega)) (by first | assumption | omega | (simp only [lim, maxLen_eq] at *; omega)) (fun x8 hx9 hm10 => ?_)
        rw [hx4] at hx9
        injection hx9 with hx9
        subst hx9
        refine Tm.uncons ?_
        refine Tm.dStr ?_
        refine Tm.atEnd ?_
        refine Tm.ite (fun h12 => ?_) (fun h12 => ?_)
        · try simp only [decide_eq_true_eq, decide_eq_false_iff_not, Int.not_lt, Int.not_le, bne_iff_ne, ne_eq, bne_eq_false_iff_eq, beq_iff_eq, beq_eq_false_iff_ne, Bool.not_eq_true', Bool.not_eq_false'] at h12
          exact Tm.ret (by first | rfl | (exfalso; simp [strEq_self] at *))
        · try simp only [decide_eq_true_eq, decide_eq_false_iff_not, Int.not_lt, Int.not_le, bne_iff_ne, ne_eq, bne_eq_false_iff_eq, beq_iff_eq, beq_eq_false_iff_ne, Bool.not_eq_true', Bool.not_eq_false'] at h12
          try rw [wrap_i64 (x := i + 1) (by omega) (by omega)]
          exact hL _ (by (try simp only []); omega) (by (try simp only []); omega)
      · try simp only [decide_eq_true_eq, decide_eq_false_iff_not, Int.not_lt, Int.not_le, bne_iff_ne, ne_eq, bne_eq_false_iff_eq, beq_iff_eq, beq_eq_false_iff_ne, Bool.not_eq_true', Bool.not_eq_false'] at h2
        exact Tm.ret (by first | rfl | (exfalso; simp [strEq_self] at *))
theorem laws_eqValueS.f_of {β : Type} {k : Nat} {a0 : List (List D)} {a1 : List (List D)} {z0 : Bool} (h : laws_eqValueS.t k a0 a1 = some z0) (K : Bool → Option β) : laws_eqValueS.f k a0 a1 K = K z0 := by
  unfold laws_eqValueS.f
  unfold laws_eqValueS.w
  rw [h]
theorem laws_eqValueS.tm {ι α : Type} {ok : ι → Prop} {ψ : α → Prop} {p : ι → Nat} {B : Nat} (hp : ∀ i, ok i → B ≤ p i) {a0 : List (List D)} {a1 : List (List D)} {φ : Bool → Prop} (h : Tm (fun k => B ≤ k) (fun k => laws_eqValueS.t k a0 a1) φ) {G : ι → Bool → Option α} (hG : ∀ z0, φ z0 → Tm ok (fun i => G i z0) ψ) : Tm ok (fun i => laws_eqValueS.f (p i) a0 a1 (G i)) ψ := by
  obtain ⟨z0, h1, h2⟩ := h
  exact (hG z0 h1).congr fun i hi => laws_eqValueS.f_of (h2 (p i) (hp i hi)) _
inductive RISILSELXE_h (B : Nat) : Nat → List D → Prop
  | mk {h : Nat} (c0 : Int) (c1 : ByteArray) (c2 : Int) (c3 : List (List D)) (c4 : List (List D)) (k0 : (Lit.int .i64 c0).wf = true) (k1 : c1.size ≤ B) (k2 : (Lit.int .i64 c2).wf = true) (k3 : SlOk RS B c3) (k4 : c4.length ≤ B) (m4 : ∀ r ∈ c4, RISILSELXE_h B h r) : RISILSELXE_h B (h + 1) [.int .i64 c0, .str c1, .int .i64 c2, .sl c3, .sl c4]
def RISILSELXE (B : Nat) (r : List D) : Prop := ∃ h, (B ≤ 1099511627776 → h ≤ 1099511627776) ∧ RISILSELXE_h B h r
theorem RISILSELXE.open {B : Nat} {r : List D} (h : RISILSELXE B r) : ∃ (c0 : Int) (c1 : ByteArray) (c2 : Int) (c3 : List (List D)) (c4 : List (List D)), r = [.int .i64 c0, .str c1, .int .i64 c2, .sl c3, .sl c4] ∧ (Lit.int .i64 c0).wf = true ∧ c1.size ≤ B ∧ (Lit.int .i64 c2).wf = true ∧ SlOk RS B c3 ∧ SlOk RISILSELXE B c4 ∧ True := by
  obtain ⟨h, hh, h1⟩ := h
  cases h1 with
  | mk c0 c1 c2 c3 c4 k0 k1 k2 k3 k4 m4 => exact ⟨c0, c1, c2, c3, c4, rfl, k0, k1, k2, k3, ⟨k4, fun r hr => ⟨_, fun hb => by have := hh hb; omega, m4 r hr⟩⟩, trivial⟩
theorem RISILSELXE_h.up {B B' : Nat} (hb : B ≤ B') : ∀ {h : Nat} {r : List D}, RISILSELXE_h B h r → RISILSELXE_h B' h r
  | _ + 1, _, .mk c0 c1 c2 c3 c4 k0 k1 k2 k3 k4 m4 => .mk c0 c1 c2 c3 c4 k0 (Nat.le_trans k1 hb) k2 ⟨Nat.le_trans k3.1 hb, fun r hr => (k3.2 r hr).mono hb⟩ (Nat.le_trans k4 hb) (fun r hr => RISILSELXE_h.up hb (m4 r hr))
theorem RISILSELXE.mono {B B' : Nat} (hb : B ≤ B') {r : List D} (h : RISILSELXE B r) : RISILSELXE B' r := by
  obtain ⟨h, hh, h1⟩ := h
  exact ⟨h, fun h2 => hh (Nat.le_trans hb h2), h1.up hb⟩
theorem RISILSELXE_h.mono {B : Nat} : ∀ {h h' : Nat} {r : List D}, h ≤ h' → RISILSELXE_h B h r → RISILSELXE_h B h' r
  | _, 0, _, hl, .mk .. => by omega
  | _ + 1, _ + 1, _, hl, .mk c0 c1 c2 c3 c4 k0 k1 k2 k3 k4 m4 => .mk c0 c1 c2 c3 c4 k0 k1 k2 k3 k4 (fun r hr => RISILSELXE_h.mono (by omega) (m4 r hr))
theorem RISILSELXE.len {B : Nat} {r : List D} (h : RISILSELXE B r) : r.length = 5 := by
  obtain ⟨c0, c1, c2, c3, c4, rfl, _⟩ := h.open
  rfl
theorem RISILSELXE.gets {B : Nat} {xs : List (List D)} (h : ∀ r ∈ xs, RISILSELXE B r) {v : Int} (h0 : 0 ≤ v) (h1 : v < xs.length) : gR xs v = [.int .i64 (gI xs v 0), .str (gS xs v 1), .int .i64 (gI xs v 2), .sl (gL xs v 3), .sl (gL xs v 4)] ∧ (Lit.int .i64 (gI xs v 0)).wf = true ∧ (gS xs v 1).size ≤ B ∧ (Lit.int .i64 (gI xs v 2)).wf = true ∧ SlOk RS B (gL xs v 3) ∧ SlOk RISILSELXE B (gL xs v 4) ∧ True := by
  obtain ⟨c0, c1, c2, c3, c4, e, k0, k1, k2, k3, k4, _⟩ := (h (gR xs v) (gR_mem h0 h1)).open
  unfold gI gL gS
  rw [e]
  exact ⟨rfl, k0, k1, k2, k3, k4, trivial⟩
theorem RISILSELXE.rows {B : Nat} {xs : List (List D)} (h : ∀ r ∈ xs, RISILSELXE B r) {v : Int} (h0 : 0 ≤ v) (h1 : v < xs.length) {β : Type} (F : List D → Option β) : atRow xs v F = F [.int .i64 (gI xs v 0), .str (gS xs v 1), .int .i64 (gI xs v 2), .sl (gL xs v 3), .sl (gL xs v 4)] := by
  rw [← (RISILSELXE.gets h h0 h1).1]
  exact atRow_gR h0 h1 F
theorem RISILSELXE.get {B : Nat} {xs : List (List D)} (h : SlOk RISILSELXE B xs) {v : Int} (h0 : 0 ≤ v) (h1 : v < xs.length) : gR xs v = [.int .i64 (gI xs v 0), .str (gS xs v 1), .int .i64 (gI xs v 2), .sl (gL xs v 3), .sl (gL xs v 4)] ∧ (Lit.int .i64 (gI xs v 0)).wf = true ∧ (gS xs v 1).size ≤ B ∧ (Lit.int .i64 (gI xs v 2)).wf = true ∧ SlOk RS B (gL xs v 3) ∧ SlOk RISILSELXE B (gL xs v 4) ∧ True := RISILSELXE.gets h.2 h0 h1
theorem RISILSELXE.row {B : Nat} {xs : List (List D)} (h : SlOk RISILSELXE B xs) {v : Int} (h0 : 0 ≤ v) (h1 : v < xs.length) {β : Type} (F : List D → Option β) : atRow xs v F = F [.int .i64 (gI xs v 0), .str (gS xs v 1), .int .i64 (gI xs v 2), .sl (gL xs v 3), .sl (gL xs v 4)] := RISILSELXE.rows h.2 h0 h1 F
theorem laws_eqValue.f_of {β : Type} {k : Nat} {a0_0 : Int} {a0_1 : ByteArray} {a0_2 : Int} {a0_3 : List (List D)} {a0_4 : List (List D)} {a1_0 : Int} {a1_1 : ByteArray} {a1_2 : Int} {a1_3 : List (List D)} {a1_4 : List (List D)} {z0 : Bool} (h : laws_eqValue.t k a0_0 a0_1 a0_2 a0_3 a0_4 a1_0 a1_1 a1_2 a1_3 a1_4 = some z0) (K : Bool → Option β) : laws_eqValue.f k a0_0 a0_1 a0_2 a0_3 a0_4 a1_0 a1_1 a1_2 a1_3 a1_4 K = K z0 := by
  unfold laws_eqValue.f
  unfold laws_eqValue.w
  rw [h]
theorem laws_eqValue.tm {ι α : Type} {ok : ι → Prop} {ψ : α → Prop} {p : ι → Nat} {B : Nat} (hp : ∀ i, ok i → B ≤ p i) {a0_0 : Int} {a0_1 : ByteArray} {a0_2 : Int} {a0_3 : List (List D)} {a0_4 : List (List D)} {a1_0 : Int} {a1_1 : ByteArray} {a1_2 : Int} {a1_3 : List (List D)} {a1_4 : List (List D)} {φ : Bool → Prop} (h : Tm (fun k => B ≤ k) (fun k => laws_eqValue.t k a0_0 a0_1 a0_2 a0_3 a0_4 a1_0 a1_1 a1_2 a1_3 a1_4) φ) {G : ι → Bool → Option α} (hG : ∀ z0, φ z0 → Tm ok (fun i => G i z0) ψ) : Tm ok (fun i => laws_eqValue.f (p i) a0_0 a0_1 a0_2 a0_3 a0_4 a1_0 a1_1 a1_2 a1_3 a1_4 (G i)) ψ := by
  obtain ⟨z0, h1, h2⟩ := h
  exact (hG z0 h1).congr fun i hi => laws_eqValue.f_of (h2 (p i) (hp i hi)) _
theorem eqVal {B : Nat} (hB : B ≤ 1099511627776) (n : Nat) : (∀ (a : List (List D)), a.length ≤ B → (∀ x ∈ a, RISILSELXE_h B n x) → Tm (fun k => big + 2 * n + 1 ≤ k) (fun k => laws_eqValueS.t k a a) (fun r => r = true)) ∧
    (∀ (c0 : Int) (c1 : ByteArray) (c2 : Int) (c3 c4 : List (List D)), c1.size ≤ B → SlOk RS B c3 → c4.length ≤ B → (∀ x ∈ c4, RISILSELXE_h B n x) → Tm (fun k => big + 2 * n + 2 ≤ k) (fun k => laws_eqValue.t k c0 c1 c2 c3 c4 c0 c1 c2 c3 c4) (fun r => r = true)) := by
  have hb : big = 2 ^ 64 := rfl
  induction n using Nat.strongRecOn with
  | ind n ih =>
  have S : ∀ (a : List (List D)), a.length ≤ B → (∀ x ∈ a, RISILSELXE_h B n x) → Tm (fun k => big + 2 * n + 1 ≤ k) (fun k => laws_eqValueS.t k a a) (fun r => r = true) := by
    intro a hlen g
    refine Tm.succ (g := fun k => laws_eqValueS.g k a a (fun z0 => some z0)) (fun k => laws_eqValueS.t_succ k a a) ?_
    unfold laws_eqValueS.g laws_eqValueS.body
    refine Tm.ite (fun h3 => by simp at h3) (fun h3 => ?_)
    refine Tm.loop (okk := fun k => big + 2 * n ≤ k) (p := fun k => k) (fun i hi => by omega) (b := fun k => laws_eqValueS.l0 k (laws_eqValueS.f k) (laws_eqValue.f k) a a (fun z0 => some z0)) (fun i => (((a.length : Int)) - i).toNat) (fun i => 0 ≤ i ∧ i ≤ (a.length : Int)) ?_ ?_ ?_
    · rintro i hI
      omega
    · omega
    · rintro i hI L hL
      obtain ⟨i0, i1⟩ := hI
      simp only [laws_eqValueS.l0]
      refine Tm.ite (fun h4 => ?_) (fun h4 => ?_)
      · simp only [decide_eq_true_eq] at h4
        refine Tm.atRow (by omega) (by omega) (fun x5 hx6 hm7 => ?_)
        obtain ⟨n', hn', c0, c1, c2, c3, c4, rfl, w0, g1, w2, g3, l4, g4⟩ : ∃ n', n = n' + 1 ∧ ∃ c0 c1 c2 c3 c4, x5 = [.int .i64 c0, .str c1, .int .i64 c2, .sl c3, .sl c4] ∧ (Lit.int .i64 c0).wf = true ∧ c1.size ≤ B ∧ (Lit.int .i64 c2).wf = true ∧ SlOk RS B c3 ∧ c4.length ≤ B ∧ ∀ x ∈ c4, RISILSELXE_h B n' x := by
          have := g x5 hm7
          cases this with
          | mk c0 c1 c2 c3 c4 w0 g1 w2 g3 l4 g4 => exact ⟨_, rfl, _, _, _, _, _, rfl, w0, g1, w2, g3, l4, g4⟩
        refine Tm.uncons (Tm.dInt (Tm.uncons (Tm.dStr (Tm.uncons (Tm.dInt (Tm.uncons (Tm.dSl (Tm.uncons (Tm.dSl (Tm.atEnd ?_))))))))))
        refine Tm.atRow (by omega) (by omega) (fun x8 hx8 _ => ?_)
        rw [hx6] at hx8
        injection hx8 with hx8
        subst hx8
        refine Tm.uncons (Tm.dInt (Tm.uncons (Tm.dStr (Tm.uncons (Tm.dInt (Tm.uncons (Tm.dSl (Tm.uncons (Tm.dSl (Tm.atEnd ?_))))))))))
        refine laws_eqValue.tm (B := big + 2 * n' + 2) (fun i hi => by have := hi.1; omega) ((ih n' (by omega)).2 c0 c1 c2 c3 c4 g1 g3 l4 g4) (fun y hy => ?_)
        subst hy
        refine Tm.ite (fun h => by simp at h) (fun _ => ?_)
        rw [wrap_i64 (x := i + 1) (by omega) (by omega)]
        exact hL (i + 1) ⟨by omega, by omega⟩ (by omega)
      · exact Tm.ret rfl
  refine ⟨S, ?_⟩
  intro c0 c1 c2 c3 c4 g1 g3 l4 g4
  refine Tm.succ (g := fun k => laws_eqValue.g k c0 c1 c2 c3 c4 c0 c1 c2 c3 c4 (fun z0 => some z0)) (fun k => laws_eqValue.t_succ k c0 c1 c2 c3 c4 c0 c1 c2 c3 c4) ?_
  unfold laws_eqValue.g laws_eqValue.body
  refine Tm.ite (fun h => by simp at h) (fun _ => ?_)
  refine Tm.ite (fun h => by simp [strEq_self] at h) (fun _ => ?_)
  refine Tm.ite (fun h => by simp at h) (fun _ => ?_)
  refine laws_eqStringS.tm (B := big) (fun i hi => by omega) (laws_eqStringS.T g3 hB) (fun y hy => ?_)
  subst hy
  refine Tm.ite (fun h => by simp at h) (fun _ => ?_)
  refine laws_eqValueS.tm (B := big + 2 * n + 1) (fun i hi => hi) (S c4 l4 g4) (fun y' hy' => ?_)
  subst hy'
  exact Tm.ite (fun h => by simp at h) (fun _ => Tm.ret rfl)
theorem big_lv1e {n : Nat} (h : n ≤ 4398046511104) : big + n ≤ lv 1 := by
  have hb : big = 2 ^ 64 := rfl
  have : lv 1 = 2 ^ 65 := rfl
  omega
theorem laws_eqValueS.T {B : Nat} {a0 : List (List D)} (g : SlOk RISILSELXE B a0) (hB : B ≤ 1099511627776) : Tm (FuelN 1) (fun k => laws_eqValueS.t k a0 a0) (fun r => r = true) := by
  have g' : ∀ x ∈ a0, RISILSELXE_h B 1099511627776 x := fun x hx => by
    obtain ⟨h, hh, hx⟩ := g.2 x hx
    exact hx.mono (hh hB)
  exact ((eqVal hB 1099511627776).1 a0 g.1 g').up (big_lv1e (n := 2 * 1099511627776 + 1) (by omega))
theorem laws_eqValue.T {B : Nat} {a0_0 : Int} {a0_1 : ByteArray} {a0_2 : Int} {a0_3 a0_4 : List (List D)} (g1 : a0_1.size ≤ B) (g3 : SlOk RS B a0_3) (g4 : SlOk RISILSELXE B a0_4) (hB : B ≤ 1099511627776) : Tm (FuelN 1) (fun k => laws_eqValue.t k a0_0 a0_1 a0_2 a0_3 a0_4 a0_0 a0_1 a0_2 a0_3 a0_4) (fun r => r = true) := by
  have g' : ∀ x ∈ a0_4, RISILSELXE_h B 1099511627776 x := fun x hx => by
    obtain ⟨h, hh, hx⟩ := g4.2 x hx
    exact hx.mono (hh hB)
  exact ((eqVal hB 1099511627776).2 a0_0 a0_1 a0_2 a0_3 a0_4 g1 g3 g4.1 g').up (big_lv1e (n := 2 * 1099511627776 + 2) (by omega))

theorem laws_eqWork.f_of {β : Type} {k : Nat} {a0_0 : Int} {a0_1 : Int} {a0_2 : Int} {a0_3 : ByteArray} {a0_4 : Int} {a0_5 : List (List D)} {a0_6 : List (List D)} {a1_0 : Int} {a1_1 : Int} {a1_2 : Int} {a1_3 : ByteArray} {a1_4 : Int} {a1_5 : List (List D)} {a1_6 : List (List D)} {z0 : Bool} (h : laws_eqWork.t k a0_0 a0_1 a0_2 a0_3 a0_4 a0_5 a0_6 a1_0 a1_1 a1_2 a1_3 a1_4 a1_5 a1_6 = some z0) (K : Bool → Option β) : laws_eqWork.f k a0_0 a0_1 a0_2 a0_3 a0_4 a0_5 a0_6 a1_0 a1_1 a1_2 a1_3 a1_4 a1_5 a1_6 K = K z0 := by
  unfold laws_eqWork.f
  rw [h]
theorem laws_eqWork.tm {ι α : Type} {ok : ι → Prop} {ψ : α → Prop} {p : ι → Nat} {B : Nat} (hp : ∀ i, ok i → B ≤ p i) {a0_0 : Int} {a0_1 : Int} {a0_2 : Int} {a0_3 : ByteArray} {a0_4 : Int} {a0_5 : List (List D)} {a0_6 : List (List D)} {a1_0 : Int} {a1_1 : Int} {a1_2 : Int} {a1_3 : ByteArray} {a1_4 : Int} {a1_5 : List (List D)} {a1_6 : List (List D)} {φ : Bool → Prop} (h : Tm (fun k => B ≤ k) (fun k => laws_eqWork.t k a0_0 a0_1 a0_2 a0_3 a0_4 a0_5 a0_6 a1_0 a1_1 a1_2 a1_3 a1_4 a1_5 a1_6) φ) {G : ι → Bool → Option α} (hG : ∀ z0, φ z0 → Tm ok (fun i => G i z0) ψ) : Tm ok (fun i => laws_eqWork.f (p i) a0_0 a0_1 a0_2 a0_3 a0_4 a0_5 a0_6 a1_0 a1_1 a1_2 a1_3 a1_4 a1_5 a1_6 (G i)) ψ := by
  obtain ⟨z0, h1, h2⟩ := h
  exact (hG z0 h1).congr fun i hi => laws_eqWork.f_of (h2 (p i) (hp i hi)) _
theorem laws_eqWork.T {B : Nat} {a0_0 : Int} {a0_1 : Int} {a0_2 : Int} {a0_3 : ByteArray} {a0_4 : Int} {a0_5 : List (List D)} {a0_6 : List (List D)} (ga0_3 : a0_3.size ≤ B) (ga0_5 : SlOk RS B a0_5) (ga0_6 : SlOk RISILSELXE B a0_6) (hB : B ≤ 1099511627776) : Tm (FuelN 1) (fun k => laws_eqWork.t k a0_0 a0_1 a0_2 a0_3 a0_4 a0_5 a0_6 a0_0 a0_1 a0_2 a0_3 a0_4 a0_5 a0_6) (fun r => r = true) := by
  unfold laws_eqWork.t laws_eqWork.g
  have hm := maxLen_eq
  have hlim : lim = 1048576 := rfl
  refine Tm.ite (fun h1 => ?_) (fun h1 => ?_)
  · try simp only [decide_eq_true_eq, decide_eq_false_iff_not, Int.not_lt, Int.not_le, bne_iff_ne, ne_eq, bne_eq_false_iff_eq, beq_iff_eq, beq_eq_false_iff_ne, Bool.not_eq_true', Bool.not_eq_false'] at h1
    exact Tm.ret (by first | rfl | (exfalso; simp [strEq_self] at *))
  · try simp only [decide_eq_true_eq, decide_eq_false_iff_not, Int.not_lt, Int.not_le, bne_iff_ne, ne_eq, bne_eq_false_iff_eq, beq_iff_eq, beq_eq_false_iff_ne, Bool.not_eq_true', Bool.not_eq_false'] at h1
    refine Tm.ite (fun h2 => ?_) (fun h2 => ?_)
    · try simp only [decide_eq_true_eq, decide_eq_false_iff_not, Int.not_lt, Int.not_le, bne_iff_ne, ne_eq, bne_eq_false_iff_eq, beq_iff_eq, beq_eq_false_iff_ne, Bool.not_eq_true', Bool.not_eq_false'] at h2
      exact Tm.ret (by first | rfl | (exfalso; simp [strEq_self] at *))
    · try simp only [decide_eq_true_eq, decide_eq_false_iff_not, Int.not_lt, Int.not_le, bne_iff_ne, ne_eq, bne_eq_false_iff_eq, beq_iff_eq, beq_eq_false_iff_ne, Bool.not_eq_true', Bool.not_eq_false'] at h2
      refine laws_eqValue.tm (fun i hi => hi) (laws_eqValue.T (by first | assumption | omega | (simp only [lim, maxLen_eq] at *; omega)) (by first | assumption | omega | (simp only [lim, maxLen_eq] at *; omega)) (by first | assumption | omega | (simp only [lim, maxLen_eq] at *; omega)) (by first | assumption | omega | (simp only [lim, maxLen_eq] at *; omega))) (fun y4 hy3 => ?_)
      subst hy3
      refine Tm.ite (fun h5 => ?_) (fun h5 => ?_)
      · try simp only [decide_eq_true_eq, decide_eq_false_iff_not, Int.not_lt, Int.not_le, bne_iff_ne, ne_eq, bne_eq_false_iff_eq, beq_iff_eq, beq_eq_false_iff_ne, Bool.not_eq_true', Bool.not_eq_false'] at h5
        exact Tm.ret (by first | rfl | (exfalso; simp [strEq_self] at *))
      · try simp only [decide_eq_true_eq, decide_eq_false_iff_not, Int.not_lt, Int.not_le, bne_iff_ne, ne_eq, bne_eq_false_iff_eq, beq_iff_eq, beq_eq_false_iff_ne, Bool.not_eq_true', Bool.not_eq_false'] at h5
        exact Tm.ret (by first | rfl | (exfalso; simp [strEq_self] at *))
theorem laws_eqWorkS.f_of {β : Type} {k : Nat} {a0 : List (List D)} {a1 : List (List D)} {z0 : Bool} (h : laws_eqWorkS.t k a0 a1 = some z0) (K : Bool → Option β) : laws_eqWorkS.f k a0 a1 K = K z0 := by
  unfold laws_eqWorkS.f
  rw [h]
theorem laws_eqWorkS.tm {ι α : Type} {ok : ι → Prop} {ψ : α → Prop} {p : ι → Nat} {B : Nat} (hp : ∀ i, ok i → B ≤ p i) {a0 : List (List D)} {a1 : List (List D)} {φ : Bool → Prop} (h : Tm (fun k => B ≤ k) (fun k => laws_eqWorkS.t k a0 a1) φ) {G : ι → Bool → Option α} (hG : ∀ z0, φ z0 → Tm ok (fun i => G i z0) ψ) : Tm ok (fun i => laws_eqWorkS.f (p i) a0 a1 (G i)) ψ := by
  obtain ⟨z0, h1, h2⟩ := h
  exact (hG z0 h1).congr fun i hi => laws_eqWorkS.f_of (h2 (p i) (hp i hi)) _
def RIIISILSELISILSELXEE (B : Nat) (r : List D) : Prop := ∃ (c0 : Int) (c1 : Int) (c2 : Int) (c3 : ByteArray) (c4 : Int) (c5 : List (List D)) (c6 : List (List D)), r = [.int .i64 c0, .int .i64 c1, .int .i64 c2, .str c3, .int .i64 c4, .sl c5, .sl c6] ∧ (Lit.int .i64 c0).wf = true ∧ (Lit.int .i64 c1).wf = true ∧ (Lit.int .i64 c2).wf = true ∧ c3.size ≤ B ∧ (Lit.int .i64 c4).wf = true ∧ SlOk RS B c5 ∧ SlOk RISILSELXE B c6 ∧ True
theorem RIIISILSELISILSELXEE.open {B : Nat} {r : List D} (h : RIIISILSELISILSELXEE B r) : ∃ (c0 : Int) (c1 : Int) (c2 : Int) (c3 : ByteArray) (c4 : Int) (c5 : List (List D)) (c6 : List (List D)), r = [.int .i64 c0, .int .i64 c1, .int .i64 c2, .str c3, .int .i64 c4, .sl c5, .sl c6] ∧ (Lit.int .i64 c0).wf = true ∧ (Lit.int .i64 c1).wf = true ∧ (Lit.int .i64 c2).wf = true ∧ c3.size ≤ B ∧ (Lit.int .i64 c4).wf = true ∧ SlOk RS B c5 ∧ SlOk RISILSELXE B c6 ∧ True := h
theorem RIIISILSELISILSELXEE.mono {B B' : Nat} (hb : B ≤ B') {r : List D} (h : RIIISILSELISILSELXEE B r) : RIIISILSELISILSELXEE B' r := by
  obtain ⟨c0, c1, c2, c3, c4, c5, c6, rfl, k0, k1, k2, k3, k4, k5, k6, _⟩ := h
  exact ⟨_, _, _, _, _, _, _, rfl, k0, k1, k2, (Nat.le_trans k3 hb), k4, ⟨Nat.le_trans k5.1 hb, fun r hr => (k5.2 r hr).mono hb⟩, ⟨Nat.le_trans k6.1 hb, fun r hr => (k6.2 r hr).mono hb⟩, trivial⟩
theorem RIIISILSELISILSELXEE.len {B : Nat} {r : List D} (h : RIIISILSELISILSELXEE B r) : r.length = 7 := by
  obtain ⟨c0, c1, c2, c3, c4, c5, c6, rfl, _⟩ := h.open
  rfl
theorem RIIISILSELISILSELXEE.gets {B : Nat} {xs : List (List D)} (h : ∀ r ∈ xs, RIIISILSELISILSELXEE B r) {v : Int} (h0 : 0 ≤ v) (h1 : v < xs.length) : gR xs v = [.int .i64 (gI xs v 0), .int .i64 (gI xs v 1), .int .i64 (gI xs v 2), .str (gS xs v 3), .int .i64 (gI xs v 4), .sl (gL xs v 5), .sl (gL xs v 6)] ∧ (Lit.int .i64 (gI xs v 0)).wf = true ∧ (Lit.int .i64 (gI xs v 1)).wf = true ∧ (Lit.int .i64 (gI xs v 2)).wf = true ∧ (gS xs v 3).size ≤ B ∧ (Lit.int .i64 (gI xs v 4)).wf = true ∧ SlOk RS B (gL xs v 5) ∧ SlOk RISILSELXE B (gL xs v 6) ∧ True := by
  obtain ⟨c0, c1, c2, c3, c4, c5, c6, e, k0, k1, k2, k3, k4, k5, k6, _⟩ := (h (gR xs v) (gR_mem h0 h1)).open
  unfold gI gL gS
  rw [e]
  exact ⟨rfl, k0, k1, k2, k3, k4, k5, k6, trivial⟩
theorem RIIISILSELISILSELXEE.rows {B : Nat} {xs : List (List D)} (h : ∀ r ∈ xs, RIIISILSELISILSELXEE B r) {v : Int} (h0 : 0 ≤ v) (h1 : v < xs.length) {β : Type} (F : List D → Option β) : atRow xs v F = F [.int .i64 (gI xs v 0), .int .i64 (gI xs v 1), .int .i64 (gI xs v 2), .str (gS xs v 3), .int .i64 (gI xs v 4), .sl (gL xs v 5), .sl (gL xs v 6)] := by
  rw [← (RIIISILSELISILSELXEE.gets h h0 h1).1]
  exact atRow_gR h0 h1 F
theorem RIIISILSELISILSELXEE.get {B : Nat} {xs : List (List D)} (h : SlOk RIIISILSELISILSELXEE B xs) {v : Int} (h0 : 0 ≤ v) (h1 : v < xs.length) : gR xs v = [.int .i64 (gI xs v 0), .int .i64 (gI xs v 1), .int .i64 (gI xs v 2), .str (gS xs v 3), .int .i64 (gI xs v 4), .sl (gL xs v 5), .sl (gL xs v 6)] ∧ (Lit.int .i64 (gI xs v 0)).wf = true ∧ (Lit.int .i64 (gI xs v 1)).wf = true ∧ (Lit.int .i64 (gI xs v 2)).wf = true ∧ (gS xs v 3).size ≤ B ∧ (Lit.int .i64 (gI xs v 4)).wf = true ∧ SlOk RS B (gL xs v 5) ∧ SlOk RISILSELXE B (gL xs v 6) ∧ True := RIIISILSELISILSELXEE.gets h.2 h0 h1
theorem RIIISILSELISILSELXEE.row {B : Nat} {xs : List (List D)} (h : SlOk RIIISILSELISILSELXEE B xs) {v : Int} (h0 : 0 ≤ v) (h1 : v < xs.length) {β : Type} (F : List D → Option β) : atRow xs v F = F [.int .i64 (gI xs v 0), .int .i64 (gI xs v 1), .int .i64 (gI xs v 2), .str (gS xs v 3), .int .i64 (gI xs v 4), .sl (gL xs v 5), .sl (gL xs v 6)] := RIIISILSELISILSELXEE.rows h.2 h0 h1 F
theorem laws_eqWorkS.T {B : Nat} {a0 : List (List D)} (ga0 : SlOk RIIISILSELISILSELXEE B a0) (hB : B ≤ 1099511627776) : Tm (FuelN 1) (fun k => laws_eqWorkS.t k a0 a0) (fun r => r = true) := by
  unfold laws_eqWorkS.t laws_eqWorkS.g
  have hm := maxLen_eq
  have hlim : lim = 1048576 := rfl
  have hlen := ga0.1
  refine Tm.ite (fun h1 => ?_) (fun h1 => ?_)
  · try simp only [decide_eq_true_eq, decide_eq_false_iff_not, Int.not_lt, Int.not_le, bne_iff_ne, ne_eq, bne_eq_false_iff_eq, beq_iff_eq, beq_eq_false_iff_ne, Bool.not_eq_true', Bool.not_eq_false'] at h1
    exact Tm.ret (by first | rfl | (exfalso; simp [strEq_self] at *))
  · try simp only [decide_eq_true_eq, decide_eq_false_iff_not, Int.not_lt, Int.not_le, bne_iff_ne, ne_eq, bne_eq_false_iff_eq, beq_iff_eq, beq_eq_false_iff_ne, Bool.not_eq_true', Bool.not_eq_false'] at h1
    refine Tm.loop (okk := (FuelN 1)) (p := fun k => k) (fun i hi => up0 hi) (b := fun k => laws_eqWorkS.l0 k a0 a0 (fun z0 => some z0)) (fun i => (((a0.length : Int)) - i).toNat) (fun i => 0 ≤ i ∧ i ≤ (a0.length : Int)) ?_ ?_ ?_
    · rintro i hI
      try simp only [] at hI ⊢
      have : big = 2 ^ 64 := rfl
      have := ga0.1
      omega
    · ((try simp only []); omega)
    · rintro i hI L hL
      try simp only [] at hI
      obtain ⟨i0, i1⟩ := hI
      simp only [laws_eqWorkS.l0]
      refine Tm.ite (fun h2 => ?_) (fun h2 => ?_)
      · try simp only [decide_eq_true_eq, decide_eq_false_iff_not, Int.not_lt, Int.not_le, bne_iff_ne, ne_eq, bne_eq_false_iff_eq, beq_iff_eq, beq_eq_false_iff_ne, Bool.not_eq_true', Bool.not_eq_false'] at h2
        refine Tm.atRow (by first | assumption | omega | (simp only [lim, maxLen_eq] at *; omega)) (by first | assumption | omega | (simp only [lim, maxLen_eq] at *; omega)) (fun x3 hx4 hm5 => ?_)
        obtain ⟨c6, c7, c8, c9, c10, c11, c12, rfl, g13, g14, g15, g16, g17, g18, g19, _⟩ := (ga0.2 x3 hm5).open
        refine Tm.uncons ?_
        refine Tm.dInt ?_
        refine Tm.uncons ?_
        refine Tm.dInt ?_
        refine Tm.uncons ?_
        refine Tm.dInt ?_
        refine Tm.uncons ?_
        refine Tm.dStr ?_
        refine Tm.uncons ?_
        refine Tm.dInt ?_
        refine Tm.uncons ?_
        refine Tm.dSl ?_
        refine Tm.uncons ?_
        refine Tm.dSl ?_
        refine Tm.atEnd ?_
        refine Tm.atRow (by first | assumption | omega | (simp only [lim, maxLen_eq] at *; omega)) (by first | assumption | omega | (simp only [lim, maxLen_eq] at *; omega)) (fun x20 hx21 hm22 => ?_)
        rw [hx4] at hx21
        injection hx21 with hx21
        subst hx21
        refine Tm.uncons ?_
        refine Tm.dInt ?_
        refine Tm.uncons ?_
        refine Tm.dInt ?_
        refine Tm.uncons ?_
        refine Tm.dInt ?_
        refine Tm.uncons ?_
        refine Tm.dStr ?_
        refine Tm.uncons ?_
        refine Tm.dInt ?_
        refine Tm.uncons ?_
        refine Tm.dSl ?_
        refine Tm.uncons ?_
        refine Tm.dSl ?_
        refine Tm.atEnd ?_
        refine laws_eqWork.tm (fun i hi => hi.1) (laws_eqWork.T (by first | assumption | omega | (simp only [lim, maxLen_eq] at *; omega)) (by first | assumption | omega | (simp only [lim, maxLen_eq] at *; omega)) (by first | assumption | omega | (simp only [lim, maxLen_eq] at *; omega)) (by first | assumption | omega | (simp only [lim, maxLen_eq] at *; omega))) (fun y31 hy30 => ?_)
        subst hy30
        refine Tm.ite (fun h32 => ?_) (fun h32 => ?_)
        · try simp only [decide_eq_true_eq, decide_eq_false_iff_not, Int.not_lt, Int.not_le, bne_iff_ne, ne_eq, bne_eq_false_iff_eq, beq_iff_eq, beq_eq_false_iff_ne, Bool.not_eq_true', Bool.not_eq_false'] at h32
          exact Tm.ret (by first | rfl | (exfalso; simp [strEq_self] at *))
        · try simp only [decide_eq_true_eq, decide_eq_false_iff_not, Int.not_lt, Int.not_le, bne_iff_ne, ne_eq, bne_eq_false_iff_eq, beq_iff_eq, beq_eq_false_iff_ne, Bool.not_eq_true', Bool.not_eq_false'] at h32
          try rw [wrap_i64 (x := i + 1) (by omega) (by omega)]
          exact hL _ (by (try simp only []); omega) (by (try simp only []); omega)
      · try simp only [decide_eq_true_eq, decide_eq_false_iff_not, Int.not_lt, Int.not_le, bne_iff_ne, ne_eq, bne_eq_false_iff_eq, beq_iff_eq, beq_eq_false_iff_ne, Bool.not_eq_true', Bool.not_eq_false'] at h2
        exact Tm.ret (by first | rfl | (exfalso; simp [strEq_self] at *))
theorem laws_eqRun.f_of {β : Type} {k : Nat} {a0_0 : Int} {a0_1 : Int} {a1_0 : Int} {a1_1 : Int} {z0 : Bool} (h : laws_eqRun.t k a0_0 a0_1 a1_0 a1_1 = some z0) (K : Bool → Option β) : laws_eqRun.f k a0_0 a0_1 a1_0 a1_1 K = K z0 := by
  unfold laws_eqRun.f
  rw [h]
theorem laws_eqRun.tm {ι α : Type} {ok : ι → Prop} {ψ : α → Prop} {p : ι → Nat} {B : Nat} (hp : ∀ i, ok i → B ≤ p i) {a0_0 : Int} {a0_1 : Int} {a1_0 : Int} {a1_1 : Int} {φ : Bool → Prop} (h : Tm (fun k => B ≤ k) (fun k => laws_eqRun.t k a0_0 a0_1 a1_0 a1_1) φ) {G : ι → Bool → Option α} (hG : ∀ z0, φ z0 → Tm ok (fun i => G i z0) ψ) : Tm ok (fun i => laws_eqRun.f (p i) a0_0 a0_1 a1_0 a1_1 (G i)) ψ := by
  obtain ⟨z0, h1, h2⟩ := h
  exact (hG z0 h1).congr fun i hi => laws_eqRun.f_of (h2 (p i) (hp i hi)) _
theorem laws_eqRun.T {B : Nat} {a0_0 : Int} {a0_1 : Int} (hB : B ≤ 1099511627776) : Tm Fuel (fun k => laws_eqRun.t k a0_0 a0_1 a0_0 a0_1) (fun r => r = true) := by
  unfold laws_eqRun.t laws_eqRun.g
  have hm := maxLen_eq
  have hlim : lim = 1048576 := rfl
  refine Tm.ite (fun h1 => ?_) (fun h1 => ?_)
  · try simp only [decide_eq_true_eq, decide_eq_false_iff_not, Int.not_lt, Int.not_le, bne_iff_ne, ne_eq, bne_eq_false_iff_eq, beq_iff_eq, beq_eq_false_iff_ne, Bool.not_eq_true', Bool.not_eq_false'] at h1
    exact Tm.ret (by first | rfl | (exfalso; simp [strEq_self] at *))
  · try simp only [decide_eq_true_eq, decide_eq_false_iff_not, Int.not_lt, Int.not_le, bne_iff_ne, ne_eq, bne_eq_false_iff_eq, beq_iff_eq, beq_eq_false_iff_ne, Bool.not_eq_true', Bool.not_eq_false'] at h1
    refine Tm.ite (fun h2 => ?_) (fun h2 => ?_)
    · try simp only [decide_eq_true_eq, decide_eq_false_iff_not, Int.not_lt, Int.not_le, bne_iff_ne, ne_eq, bne_eq_false_iff_eq, beq_iff_eq, beq_eq_false_iff_ne, Bool.not_eq_true', Bool.not_eq_false'] at h2
      exact Tm.ret (by first | rfl | (exfalso; simp [strEq_self] at *))
    · try simp only [decide_eq_true_eq, decide_eq_false_iff_not, Int.not_lt, Int.not_le, bne_iff_ne, ne_eq, bne_eq_false_iff_eq, beq_iff_eq, beq_eq_false_iff_ne, Bool.not_eq_true', Bool.not_eq_false'] at h2
      exact Tm.ret (by first | rfl | (exfalso; simp [strEq_self] at *))
theorem laws_eqRunS.f_of {β : Type} {k : Nat} {a0 : List (List D)} {a1 : List (List D)} {z0 : Bool} (h : laws_eqRunS.t k a0 a1 = some z0) (K : Bool → Option β) : laws_eqRunS.f k a0 a1 K = K z0 := by
  unfold laws_eqRunS.f
  rw [h]
theorem laws_eqRunS.tm {ι α : Type} {ok : ι → Prop} {ψ : α → Prop} {p : ι → Nat} {B : Nat} (hp : ∀ i, ok i → B ≤ p i) {a0 : List (List D)} {a1 : List (List D)} {φ : Bool → Prop} (h : Tm (fun k => B ≤ k) (fun k => laws_eqRunS.t k a0 a1) φ) {G : ι → Bool → Option α} (hG : ∀ z0, φ z0 → Tm ok (fun i => G i z0) ψ) : Tm ok (fun i => laws_eqRunS.f (p i) a0 a1 (G i)) ψ := by
  obtain ⟨z0, h1, h2⟩ := h
  exact (hG z0 h1).congr fun i hi => laws_eqRunS.f_of (h2 (p i) (hp i hi)) _
def RII (B : Nat) (r : List D) : Prop := ∃ (c0 : Int) (c1 : Int), r = [.int .i64 c0, .int .i64 c1] ∧ (Lit.int .i64 c0).wf = true ∧ (Lit.int .i64 c1).wf = true ∧ True
theorem RII.open {B : Nat} {r : List D} (h : RII B r) : ∃ (c0 : Int) (c1 : Int), r = [.int .i64 c0, .int .i64 c1] ∧ (Lit.int .i64 c0).wf = true ∧ (Lit.int .i64 c1).wf = true ∧ True := h
theorem RII.mono {B B' : Nat} (hb : B ≤ B') {r : List D} (h : RII B r) : RII B' r := by
  obtain ⟨c0, c1, rfl, k0, k1, _⟩ := h
  exact ⟨_, _, rfl, k0, k1, trivial⟩
theorem RII.len {B : Nat} {r : List D} (h : RII B r) : r.length = 2 := by
  obtain ⟨c0, c1, rfl, _⟩ := h.open
  rfl
theorem RII.flat {B : Nat} {xs : List (List D)} (h : ∀ r ∈ xs, RII B r) : rowsFlat 2 xs := fun r hr => by
  obtain ⟨c0, c1, rfl, _⟩ := (h r hr).open
  exact ⟨rfl, by simp [isScal]⟩
theorem RII.wt {B : Nat} {xs : List (List D)} (h : ∀ r ∈ xs, RII B r) : wtRows xs = 2 * xs.length := wt_flat (R := RII B) (fun r h => by obtain ⟨c0, c1, rfl, _⟩ := h; rfl) xs h
theorem RII.deep {B : Nat} {xs : List (List D)} (h : ∀ r ∈ xs, RII B r) : deepRows xs = xs.map (·.map C.d) := deep_flat (R := RII B) (fun r h => by obtain ⟨c0, c1, rfl, _⟩ := h; rfl) xs h
theorem RII.gets {B : Nat} {xs : List (List D)} (h : ∀ r ∈ xs, RII B r) {v : Int} (h0 : 0 ≤ v) (h1 : v < xs.length) : gR xs v = [.int .i64 (gI xs v 0), .int .i64 (gI xs v 1)] ∧ (Lit.int .i64 (gI xs v 0)).wf = true ∧ (Lit.int .i64 (gI xs v 1)).wf = true ∧ True := by
  obtain ⟨c0, c1, e, k0, k1, _⟩ := (h (gR xs v) (gR_mem h0 h1)).open
  unfold gI
  rw [e]
  exact ⟨rfl, k0, k1, trivial⟩
theorem RII.rows {B : Nat} {xs : List (List D)} (h : ∀ r ∈ xs, RII B r) {v : Int} (h0 : 0 ≤ v) (h1 : v < xs.length) {β : Type} (F : List D → Option β) : atRow xs v F = F [.int .i64 (gI xs v 0), .int .i64 (gI xs v 1)] := by
  rw [← (RII.gets h h0 h1).1]
  exact atRow_gR h0 h1 F
theorem RII.get {B : Nat} {xs : List (List D)} (h : SlOk RII B xs) {v : Int} (h0 : 0 ≤ v) (h1 : v < xs.length) : gR xs v = [.int .i64 (gI xs v 0), .int .i64 (gI xs v 1)] ∧ (Lit.int .i64 (gI xs v 0)).wf = true ∧ (Lit.int .i64 (gI xs v 1)).wf = true ∧ True := RII.gets h.2 h0 h1
theorem RII.row {B : Nat} {xs : List (List D)} (h : SlOk RII B xs) {v : Int} (h0 : 0 ≤ v) (h1 : v < xs.length) {β : Type} (F : List D → Option β) : atRow xs v F = F [.int .i64 (gI xs v 0), .int .i64 (gI xs v 1)] := RII.rows h.2 h0 h1 F
theorem laws_eqRunS.T {B : Nat} {a0 : List (List D)} (ga0 : SlOk RII B a0) (hB : B ≤ 1099511627776) : Tm Fuel (fun k => laws_eqRunS.t k a0 a0) (fun r => r = true) := by
  unfold laws_eqRunS.t laws_eqRunS.g
  have hm := maxLen_eq
  have hlim : lim = 1048576 := rfl
  have hlen := ga0.1
  refine Tm.ite (fun h1 => ?_) (fun h1 => ?_)
  · try simp only [decide_eq_true_eq, decide_eq_false_iff_not, Int.not_lt, Int.not_le, bne_iff_ne, ne_eq, bne_eq_false_iff_eq, beq_iff_eq, beq_eq_false_iff_ne, Bool.not_eq_true', Bool.not_eq_false'] at h1
    exact Tm.ret (by first | rfl | (exfalso; simp [strEq_self] at *))
  · try simp only [decide_eq_true_eq, decide_eq_false_iff_not, Int.not_lt, Int.not_le, bne_iff_ne, ne_eq, bne_eq_false_iff_eq, beq_iff_eq, beq_eq_false_iff_ne, Bool.not_eq_true', Bool.not_eq_false'] at h1
    refine Tm.loop (okk := Fuel) (p := fun k => k) (fun i hi => hi) (b := fun k => laws_eqRunS.l0 k a0 a0 (fun z0 => some z0)) (fun i => (((a0.length : Int)) - i).toNat) (fun i => 0 ≤ i ∧ i ≤ (a0.length : Int)) ?_ ?_ ?_
    · rintro i hI
      try simp only [] at hI ⊢
      have : big = 2 ^ 64 := rfl
      have := ga0.1
      omega
    · ((try simp only []); omega)
    · rintro i hI L hL
      try simp only [] at hI
      obtain ⟨i0, i1⟩ := hI
      simp only [laws_eqRunS.l0]
      refine Tm.ite (fun h2 => ?_) (fun h2 => ?_)
      · try simp only [decide_eq_true_eq, decide_eq_false_iff_not, Int.not_lt, Int.not_le, bne_iff_ne, ne_eq, bne_eq_false_iff_eq, beq_iff_eq, beq_eq_false_iff_ne, Bool.not_eq_true', Bool.not_eq_false'] at h2
        refine Tm.atRow (by first | assumption | omega | (simp only [lim, maxLen_eq] at *; omega)) (by first | assumption | omega | (simp only [lim, maxLen_eq] at *; omega)) (fun x3 hx4 hm5 => ?_)
        obtain ⟨c6, c7, rfl, g8, g9, _⟩ := (ga0.2 x3 hm5).open
        refine Tm.uncons ?_
        refine Tm.dInt ?_
        refine Tm.uncons ?_
        refine Tm.dInt ?_
        refine Tm.atEnd ?_
        refine Tm.atRow (by first | assumption | omega | (simp only [lim, maxLen_eq] at *; omega)) (by first | assumption | omega | (simp only [lim, maxLen_eq] at *; omega)) (fun x10 hx11 hm12 => ?_)
        rw [hx4] at hx11
        injection hx11 with hx11
        subst hx11
        refine Tm.uncons ?_
        refine Tm.dInt ?_
        refine Tm.uncons ?_
        refine Tm.dInt ?_
        refine Tm.atEnd ?_
        refine laws_eqRun.tm (fun i hi => hi.1) (laws_eqRun.T (by first | assumption | omega | (simp only [lim, maxLen_eq] at *; omega))) (fun y16 hy15 => ?_)
        subst hy15
        refine Tm.ite (fun h17 => ?_) (fun h17 => ?_)
        · try simp only [decide_eq_true_eq, decide_eq_false_iff_not, Int.not_lt, Int.not_le, bne_iff_ne, ne_eq, bne_eq_false_iff_eq, beq_iff_eq, beq_eq_false_iff_ne, Bool.not_eq_true', Bool.not_eq_false'] at h17
          exact Tm.ret (by first | rfl | (exfalso; simp [strEq_self] at *))
        · try simp only [decide_eq_true_eq, decide_eq_false_iff_not, Int.not_lt, Int.not_le, bne_iff_ne, ne_eq, bne_eq_false_iff_eq, beq_iff_eq, beq_eq_false_iff_ne, Bool.not_eq_true', Bool.not_eq_false'] at h17
          try rw [wrap_i64 (x := i + 1) (by omega) (by omega)]
          exact hL _ (by (try simp only []); omega) (by (try simp only []); omega)
      · try simp only [decide_eq_true_eq, decide_eq_false_iff_not, Int.not_lt, Int.not_le, bne_iff_ne, ne_eq, bne_eq_false_iff_eq, beq_iff_eq, beq_eq_false_iff_ne, Bool.not_eq_true', Bool.not_eq_false'] at h2
        exact Tm.ret (by first | rfl | (exfalso; simp [strEq_self] at *))
theorem spec_IsleNew_t {a0 : ByteArray} {a1 : Int} (g0 : a0.size ≤ lim) {k : Nat} (hk : Fuel k) : spec_IsleNew.t k a0 a1 = some (bif spec_NameOk.v a0 && inB a1 0 10000 then (a0, a1, 0, [], [], true) else ((⟨#[]⟩ : ByteArray), 0, 0, [], [], false)) := by
  unfold spec_IsleNew.t spec_IsleNew.g
  rw [spec_NameOk.fv g0 hk, l1In_fv]
  cases spec_NameOk.v a0
  · rfl
  · cases inB a1 0 10000 <;> rfl
theorem spec_IsleNew.T {a0 : ByteArray} {a1 : Int} (g0 : a0.size ≤ lim) : Tm Fuel (fun k => spec_IsleNew.t k a0 a1) (fun z => z.1.size ≤ 2097152 ∧ SlOk RIIISILSELISILSELXEE 2097152 (C.immRows z.2.2.2.1) ∧ wtRows (C.immRows z.2.2.2.1) ≤ 1125899906842624 ∧ SlOk RII 2097152 (C.immRows z.2.2.2.2.1) ∧ wtRows (C.immRows z.2.2.2.2.1) ≤ 1125899906842624 ∧ True) := by
  refine Tm.of (fun k hk => spec_IsleNew_t g0 hk) ?_
  have e : ∀ (R : Nat → List D → Prop), SlOk R 2097152 (C.immRows []) := fun R => ⟨by simp [C.immRows], by simp [C.immRows]⟩
  have w : wtRows (C.immRows []) ≤ 1125899906842624 := by simp [C.immRows, wtRows]
  cases spec_NameOk.v a0 && inB a1 0 10000
  · exact ⟨(by show (⟨#[]⟩ : ByteArray).size ≤ 2097152; decide), e _, w, e _, w, trivial⟩
  · exact ⟨Nat.le_trans g0 (by decide), e _, w, e _, w, trivial⟩

theorem impl_IsleNew.same {a0 : ByteArray} {a1 : Int} (g0 : a0.size ≤ lim) {k : Nat} (hk : Fuel k) {z0 : ByteArray} {z1 z2 : Int} {z3 z4 : List (List C)} {z5 : Bool} (hz : spec_IsleNew.t k a0 a1 = some (z0, z1, z2, z3, z4, z5)) : impl_IsleNew.t k a0 a1 = some (z0, z1, z2, deepRows (C.immRows z3), deepRows (C.immRows z4), z5) := by
  rw [spec_IsleNew_t g0 hk] at hz
  have hc : ∀ {n : Int} {β : Type} (K : Bool → Option β), impl_isCopies.f k n K = K (inB n 0 10000) := fun K => isCopies_f K
  unfold impl_IsleNew.t impl_IsleNew.g
  rw [impl_NameOk_f, spec_NameOk.fv g0 hk, hc]
  cases hn : spec_NameOk.v a0 <;> cases hi : inB a1 0 10000 <;> rw [hn] at hz <;> (try rw [hi] at hz) <;> (injection hz with hz; simp only [Bool.false_and, Bool.true_and, Bool.and_self, Bool.and_false, cond_true, cond_false, Prod.mk.injEq] at hz; obtain ⟨rfl, rfl, rfl, rfl, rfl, rfl⟩ := hz; rfl)

theorem laws_eqIsle.f_of {β : Type} {k : Nat} {a0_0 : ByteArray} {a0_1 : Int} {a0_2 : Int} {a0_3 : List (List D)} {a0_4 : List (List D)} {a1_0 : ByteArray} {a1_1 : Int} {a1_2 : Int} {a1_3 : List (List D)} {a1_4 : List (List D)} {z0 : Bool} (h : laws_eqIsle.t k a0_0 a0_1 a0_2 a0_3 a0_4 a1_0 a1_1 a1_2 a1_3 a1_4 = some z0) (K : Bool → Option β) : laws_eqIsle.f k a0_0 a0_1 a0_2 a0_3 a0_4 a1_0 a1_1 a1_2 a1_3 a1_4 K = K z0 := by
  unfold laws_eqIsle.f
  rw [h]
theorem laws_eqIsle.tm {ι α : Type} {ok : ι → Prop} {ψ : α → Prop} {p : ι → Nat} {B : Nat} (hp : ∀ i, ok i → B ≤ p i) {a0_0 : ByteArray} {a0_1 : Int} {a0_2 : Int} {a0_3 : List (List D)} {a0_4 : List (List D)} {a1_0 : ByteArray} {a1_1 : Int} {a1_2 : Int} {a1_3 : List (List D)} {a1_4 : List (List D)} {φ : Bool → Prop} (h : Tm (fun k => B ≤ k) (fun k => laws_eqIsle.t k a0_0 a0_1 a0_2 a0_3 a0_4 a1_0 a1_1 a1_2 a1_3 a1_4) φ) {G : ι → Bool → Option α} (hG : ∀ z0, φ z0 → Tm ok (fun i => G i z0) ψ) : Tm ok (fun i => laws_eqIsle.f (p i) a0_0 a0_1 a0_2 a0_3 a0_4 a1_0 a1_1 a1_2 a1_3 a1_4 (G i)) ψ := by
  obtain ⟨z0, h1, h2⟩ := h
  exact (hG z0 h1).congr fun i hi => laws_eqIsle.f_of (h2 (p i) (hp i hi)) _
theorem laws_eqIsle.T {B : Nat} {a0_0 : ByteArray} {a0_1 : Int} {a0_2 : Int} {a0_3 : List (List D)} {a0_4 : List (List D)} (ga0_0 : a0_0.size ≤ B) (ga0_3 : SlOk RIIISILSELISILSELXEE B a0_3) (ga0_4 : SlOk RII B a0_4) (hB : B ≤ 1099511627776) : Tm (FuelN 1) (fun k => laws_eqIsle.t k a0_0 a0_1 a0_2 a0_3 a0_4 a0_0 a0_1 a0_2 a0_3 a0_4) (fun r => r = true) := by
  unfold laws_eqIsle.t laws_eqIsle.g
  have hm := maxLen_eq
  have hlim : lim = 1048576 := rfl
  refine Tm.ite (fun h1 => ?_) (fun h1 => ?_)
  · try simp only [decide_eq_true_eq, decide_eq_false_iff_not, Int.not_lt, Int.not_le, bne_iff_ne, ne_eq, bne_eq_false_iff_eq, beq_iff_eq, beq_eq_false_iff_ne, Bool.not_eq_true', Bool.not_eq_false'] at h1
    exact Tm.ret (by first | rfl | (exfalso; simp [strEq_self] at *))
  · try simp only [decide_eq_true_eq, decide_eq_false_iff_not, Int.not_lt, Int.not_le, bne_iff_ne, ne_eq, bne_eq_false_iff_eq, beq_iff_eq, beq_eq_false_iff_ne, Bool.not_eq_true', Bool.not_eq_false'] at h1
    refine Tm.ite (fun h2 => ?_) (fun h2 => ?_)
    · try simp only [decide_eq_true_eq, decide_eq_false_iff_not, Int.not_lt, Int.not_le, bne_iff_ne, ne_eq, bne_eq_false_iff_eq, beq_iff_eq, beq_eq_false_iff_ne, Bool.not_eq_true', Bool.not_eq_false'] at h2
      exact Tm.ret (by first | rfl | (exfalso; simp [strEq_self] at *))
    · try simp only [decide_eq_true_eq, decide_eq_false_iff_not, Int.not_lt, Int.not_le, bne_iff_ne, ne_eq, bne_eq_false_iff_eq, beq_iff_eq, beq_eq_false_iff_ne, Bool.not_eq_true', Bool.not_eq_false'] at h2
      refine Tm.ite (fun h3 => ?_) (fun h3 => ?_)
      · try simp only [decide_eq_true_eq, decide_eq_false_iff_not, Int.not_lt, Int.not_le, bne_iff_ne, ne_eq, bne_eq_false_iff_eq, beq_iff_eq, beq_eq_false_iff_ne, Bool.not_eq_true', Bool.not_eq_false'] at h3
        exact Tm.ret (by first | rfl | (exfalso; simp [strEq_self] at *))
      · try simp only [decide_eq_true_eq, decide_eq_false_iff_not, Int.not_lt, Int.not_le, bne_iff_ne, ne_eq, bne_eq_false_iff_eq, beq_iff_eq, beq_eq_false_iff_ne, Bool.not_eq_true', Bool.not_eq_false'] at h3
        refine laws_eqWorkS.tm (fun i hi => hi) (laws_eqWorkS.T (by first | assumption | omega | (simp only [lim, maxLen_eq] at *; omega)) (by first | assumption | omega | (simp only [lim, maxLen_eq] at *; omega))) (fun y5 hy4 => ?_)
        subst hy4
        refine Tm.ite (fun h6 => ?_) (fun h6 => ?_)
        · try simp only [decide_eq_true_eq, decide_eq_false_iff_not, Int.not_lt, Int.not_le, bne_iff_ne, ne_eq, bne_eq_false_iff_eq, beq_iff_eq, beq_eq_false_iff_ne, Bool.not_eq_true', Bool.not_eq_false'] at h6
          exact Tm.ret (by first | rfl | (exfalso; simp [strEq_self] at *))
        · try simp only [decide_eq_true_eq, decide_eq_false_iff_not, Int.not_lt, Int.not_le, bne_iff_ne, ne_eq, bne_eq_false_iff_eq, beq_iff_eq, beq_eq_false_iff_ne, Bool.not_eq_true', Bool.not_eq_false'] at h6
          refine laws_eqRunS.tm (fun i hi => up0 hi) (laws_eqRunS.T (by first | assumption | omega | (simp only [lim, maxLen_eq] at *; omega)) (by first | assumption | omega | (simp only [lim, maxLen_eq] at *; omega))) (fun y8 hy7 => ?_)
          subst hy7
          refine Tm.ite (fun h9 => ?_) (fun h9 => ?_)
          · try simp only [decide_eq_true_eq, decide_eq_false_iff_not, Int.not_lt, Int.not_le, bne_iff_ne, ne_eq, bne_eq_false_iff_eq, beq_iff_eq, beq_eq_false_iff_ne, Bool.not_eq_true', Bool.not_eq_false'] at h9
            exact Tm.ret (by first | rfl | (exfalso; simp [strEq_self] at *))
          · try simp only [decide_eq_true_eq, decide_eq_false_iff_not, Int.not_lt, Int.not_le, bne_iff_ne, ne_eq, bne_eq_false_iff_eq, beq_iff_eq, beq_eq_false_iff_ne, Bool.not_eq_true', Bool.not_eq_false'] at h9
            exact Tm.ret (by first | rfl | (exfalso; simp [strEq_self] at *))
theorem laws_markText.f_of {β : Type} {k : Nat} {a0 : Int} {z0 : ByteArray} (h : laws_markText.t k a0 = some z0) (K : ByteArray → Option β) : laws_markText.f k a0 K = K z0 := by
  unfold laws_markText.f
  rw [h]
theorem laws_markText.tm {ι α : Type} {ok : ι → Prop} {ψ : α → Prop} {p : ι → Nat} {B : Nat} (hp : ∀ i, ok i → B ≤ p i) {a0 : Int} {φ : ByteArray → Prop} (h : Tm (fun k => B ≤ k) (fun k => laws_markText.t k a0) φ) {G : ι → ByteArray → Option α} (hG : ∀ z0, φ z0 → Tm ok (fun i => G i z0) ψ) : Tm ok (fun i => laws_markText.f (p i) a0 (G i)) ψ := by
  obtain ⟨z0, h1, h2⟩ := h
  exact (hG z0 h1).congr fun i hi => laws_markText.f_of (h2 (p i) (hp i hi)) _
theorem laws_markText.T {a0 : Int} (h1 : a0 ≤ 4611686018427387904) : Tm Fuel (fun k => laws_markText.t k a0) (fun _ => True) := by
  unfold laws_markText.t laws_markText.g
  have hb : big = 2 ^ 64 := rfl
  refine Tm.ite (fun _ => Tm.ret trivial) (fun h => ?_)
  simp only [decide_eq_false_iff_not, Int.not_le] at h
  refine Tm.loop (okk := Fuel) (p := fun k => k) (fun i hi => hi) (b := fun k => laws_markText.l0 k (fun z0 => some z0)) (fun v => match v with | (u, s) => u.toNat) (fun v => match v with | (u, s) => 0 ≤ u ∧ u + s.size ≤ a0) ?_ ?_ ?_
  · rintro ⟨u, s⟩ hI
    simp only [] at hI ⊢
    omega
  · simp only []
    have : (⟨#[]⟩ : ByteArray).size = 0 := rfl
    omega
  · rintro ⟨u, s⟩ hI L hL
    simp only [] at hI
    obtain ⟨u0, u1⟩ := hI
    simp only [laws_markText.l0]
    refine Tm.ite (fun h4 => ?_) (fun h4 => ?_)
    · simp only [decide_eq_true_eq] at h4
      have e1 : ∀ x : UInt8, (⟨#[x]⟩ : ByteArray).size = 1 := fun _ => rfl
      have ed : Int.tdiv u 10 = u / 10 := Int.tdiv_eq_ediv_of_nonneg (by omega)
      refine Tm.guard (by decide) (Tm.guard (by rw [e1]; omega) (Tm.guard (by decide) ?_))
      rw [ed, wrap_i64 (x := u / 10) (by omega) (by omega)]
      refine hL (_, _) ⟨by omega, ?_⟩ (by simp only []; omega)
      rw [ByteArray.size_append, e1]
      omega
    · have e1 : (⟨#[109]⟩ : ByteArray).size = 1 := rfl
      exact Tm.guard (by rw [e1]; omega) (Tm.ret trivial)
noncomputable def laws_markText.v (a0 : Int) : ByteArray := (laws_markText.t big a0).getD default
theorem laws_markText.tv {a0 : Int} (h1 : a0 ≤ 4611686018427387904) {k : Nat} (hk : Fuel k) : laws_markText.t k a0 = some (laws_markText.v a0) := (laws_markText.T h1).val hk
theorem laws_markText.fv {a0 : Int} (h1 : a0 ≤ 4611686018427387904) {k : Nat} (hk : Fuel k) {β : Type} (K : ByteArray → Option β) : laws_markText.f k a0 K = K (laws_markText.v a0) := laws_markText.f_of (laws_markText.tv h1 hk) K

theorem laws_markStringS.f_of {β : Type} {k : Nat} {a0 : List (List C)} {a1 : Int} {z0 : Int} {z1 : List (List C)} (h : laws_markStringS.t k a0 a1 = some (z0, z1)) (K : Int → (List (List C)) → Option β) : laws_markStringS.f k a0 a1 K = K z0 z1 := by
  unfold laws_markStringS.f
  rw [h]
theorem laws_markStringS.tm {ι α : Type} {ok : ι → Prop} {ψ : α → Prop} {p : ι → Nat} {B : Nat} (hp : ∀ i, ok i → B ≤ p i) {a0 : List (List C)} {a1 : Int} {φ : Int × (List (List C)) → Prop} (h : Tm (fun k => B ≤ k) (fun k => laws_markStringS.t k a0 a1) φ) {G : ι → Int → (List (List C)) → Option α} (hG : ∀ z0 z1, φ (z0, z1) → Tm ok (fun i => G i z0 z1) ψ) : Tm ok (fun i => laws_markStringS.f (p i) a0 a1 (G i)) ψ := by
  obtain ⟨⟨z0, z1⟩, h1, h2⟩ := h
  exact (hG z0 z1 h1).congr fun i hi => laws_markStringS.f_of (h2 (p i) (hp i hi)) _
theorem laws_markValueS.f_of {β : Type} {k : Nat} {a0 : List (List C)} {a1 : Int} {z0 : Int} {z1 : List (List C)} (h : laws_markValueS.t k a0 a1 = some (z0, z1)) (K : Int → (List (List C)) → Option β) : laws_markValueS.f k a0 a1 K = K z0 z1 := by
  unfold laws_markValueS.f
  unfold laws_markValueS.w
  rw [h]
theorem laws_markValueS.tm {ι α : Type} {ok : ι → Prop} {ψ : α → Prop} {p : ι → Nat} {B : Nat} (hp : ∀ i, ok i → B ≤ p i) {a0 : List (List C)} {a1 : Int} {φ : Int × (List (List C)) → Prop} (h : Tm (fun k => B ≤ k) (fun k => laws_markValueS.t k a0 a1) φ) {G : ι → Int → (List (List C)) → Option α} (hG : ∀ z0 z1, φ (z0, z1) → Tm ok (fun i => G i z0 z1) ψ) : Tm ok (fun i => laws_markValueS.f (p i) a0 a1 (G i)) ψ := by
  obtain ⟨⟨z0, z1⟩, h1, h2⟩ := h
  exact (hG z0 z1 h1).congr fun i hi => laws_markValueS.f_of (h2 (p i) (hp i hi)) _
theorem laws_markWorkS.f_of {β : Type} {k : Nat} {a0 : List (List C)} {a1 : Int} {z0 : Int} {z1 : List (List C)} (h : laws_markWorkS.t k a0 a1 = some (z0, z1)) (K : Int → (List (List C)) → Option β) : laws_markWorkS.f k a0 a1 K = K z0 z1 := by
  unfold laws_markWorkS.f
  rw [h]
theorem laws_markWorkS.tm {ι α : Type} {ok : ι → Prop} {ψ : α → Prop} {p : ι → Nat} {B : Nat} (hp : ∀ i, ok i → B ≤ p i) {a0 : List (List C)} {a1 : Int} {φ : Int × (List (List C)) → Prop} (h : Tm (fun k => B ≤ k) (fun k => laws_markWorkS.t k a0 a1) φ) {G : ι → Int → (List (List C)) → Option α} (hG : ∀ z0 z1, φ (z0, z1) → Tm ok (fun i => G i z0 z1) ψ) : Tm ok (fun i => laws_markWorkS.f (p i) a0 a1 (G i)) ψ := by
  obtain ⟨⟨z0, z1⟩, h1, h2⟩ := h
  exact (hG z0 z1 h1).congr fun i hi => laws_markWorkS.f_of (h2 (p i) (hp i hi)) _
theorem laws_markRunS.f_of {β : Type} {k : Nat} {a0 : List (List C)} {a1 : Int} {z0 : Int} {z1 : List (List C)} (h : laws_markRunS.t k a0 a1 = some (z0, z1)) (K : Int → (List (List C)) → Option β) : laws_markRunS.f k a0 a1 K = K z0 z1 := by
  unfold laws_markRunS.f
  rw [h]
theorem laws_markRunS.tm {ι α : Type} {ok : ι → Prop} {ψ : α → Prop} {p : ι → Nat} {B : Nat} (hp : ∀ i, ok i → B ≤ p i) {a0 : List (List C)} {a1 : Int} {φ : Int × (List (List C)) → Prop} (h : Tm (fun k => B ≤ k) (fun k => laws_markRunS.t k a0 a1) φ) {G : ι → Int → (List (List C)) → Option α} (hG : ∀ z0 z1, φ (z0, z1) → Tm ok (fun i => G i z0 z1) ψ) : Tm ok (fun i => laws_markRunS.f (p i) a0 a1 (G i)) ψ := by
  obtain ⟨⟨z0, z1⟩, h1, h2⟩ := h
  exact (hG z0 z1 h1).congr fun i hi => laws_markRunS.f_of (h2 (p i) (hp i hi)) _
theorem laws_markIsle.f_of {β : Type} {k : Nat} {a0_0 : ByteArray} {a0_1 : Int} {a0_2 : Int} {a0_3 : List (List C)} {a0_4 : List (List C)} {a1 : Int} {z0 : Int} {z1 : List (List C)} {z2 : List (List C)} (h : laws_markIsle.t k a0_0 a0_1 a0_2 a0_3 a0_4 a1 = some (z0, z1, z2)) (K : Int → (List (List C)) → (List (List C)) → Option β) : laws_markIsle.f k a0_0 a0_1 a0_2 a0_3 a0_4 a1 K = K z0 z1 z2 := by
  unfold laws_markIsle.f
  rw [h]
theorem laws_markIsle.tm {ι α : Type} {ok : ι → Prop} {ψ : α → Prop} {p : ι → Nat} {B : Nat} (hp : ∀ i, ok i → B ≤ p i) {a0_0 : ByteArray} {a0_1 : Int} {a0_2 : Int} {a0_3 : List (List C)} {a0_4 : List (List C)} {a1 : Int} {φ : Int × (List (List C)) × (List (List C)) → Prop} (h : Tm (fun k => B ≤ k) (fun k => laws_markIsle.t k a0_0 a0_1 a0_2 a0_3 a0_4 a1) φ) {G : ι → Int → (List (List C)) → (List (List C)) → Option α} (hG : ∀ z0 z1 z2, φ (z0, z1, z2) → Tm ok (fun i => G i z0 z1 z2) ψ) : Tm ok (fun i => laws_markIsle.f (p i) a0_0 a0_1 a0_2 a0_3 a0_4 a1 (G i)) ψ := by
  obtain ⟨⟨z0, z1, z2⟩, h1, h2⟩ := h
  exact (hG z0 z1 z2 h1).congr fun i hi => laws_markIsle.f_of (h2 (p i) (hp i hi)) _
theorem laws_heldStringS.f_of {β : Type} {k : Nat} {a0 : List (List D)} {a1 : Int} {z0 : Int} (h : laws_heldStringS.t k a0 a1 = some z0) (K : Int → Option β) : laws_heldStringS.f k a0 a1 K = K z0 := by
  unfold laws_heldStringS.f
  rw [h]
theorem laws_heldStringS.tm {ι α : Type} {ok : ι → Prop} {ψ : α → Prop} {p : ι → Nat} {B : Nat} (hp : ∀ i, ok i → B ≤ p i) {a0 : List (List D)} {a1 : Int} {φ : Int → Prop} (h : Tm (fun k => B ≤ k) (fun k => laws_heldStringS.t k a0 a1) φ) {G : ι → Int → Option α} (hG : ∀ z0, φ z0 → Tm ok (fun i => G i z0) ψ) : Tm ok (fun i => laws_heldStringS.f (p i) a0 a1 (G i)) ψ := by
  obtain ⟨z0, h1, h2⟩ := h
  exact (hG z0 h1).congr fun i hi => laws_heldStringS.f_of (h2 (p i) (hp i hi)) _
set_option maxRecDepth 100000 in
set_option maxHeartbeats 8000000 in
theorem laws_heldStringS.step {u : Int}  (h0 : 0 ≤ u)  (h1 : u + 1 ≤ 4611686018427387904) {k : Nat} (hk : Fuel k) : HStep (fun xs L v => laws_heldStringS.l0 k xs (fun z0 => some z0) L v) u [.str (laws_markText.v (u))] (u + 1) := by
  have hk0 : Fuel k := hk
  intro xs i i0 i1 hl hr L
  simp (maxSteps := 4000000) (disch := first | assumption | omega) only [laws_heldStringS.l0, dec_true i1, cond_true, cond_false, atRow_gR i0 i1, hr, uncons_at, dInt_self, dStr_at, dBool_at, dSl_at, atEnd_at, wrap_i64, laws_markText.fv, strEq_self, bne_self_eq_false, beq_self_eq_true, Bool.not_true]
set_option maxRecDepth 100000 in
set_option maxHeartbeats 8000000 in
theorem laws_markStringS.T {B : Nat} (hB : B ≤ 1099511627776) {xs : List (List D)} {n : Int} (g : SlOk RS B xs) (h0 : 0 ≤ n) (h1 : n + wtRows xs ≤ 4611686018427387904) : Tm Fuel (fun k => laws_markStringS.t k (deepRows xs) n) (fun z => ∃ ys, z.2 = deepRows ys ∧ ys.length = xs.length ∧ z.1 = n + wtRows xs ∧ ∀ k, Fuel k → laws_heldStringS.t k ys n = some z.1) := by
  have hb : big = 2 ^ 64 := rfl
  have hl := g.1
  have key : Tm Fuel (fun k => laws_markStringS.t k (deepRows xs) n) (fun z => ∃ ys, z.2 = deepRows ys ∧ ys.length = xs.length ∧ z.1 = n + wtRows xs ∧ HeldL (fun u r u' => ∀ k, Fuel k → HStep (fun xs L v => laws_heldStringS.l0 k xs (fun z0 => some z0) L v) u r u') n ys z.1) := by
    unfold laws_markStringS.t laws_markStringS.g
    refine Tm.loop (okk := Fuel) (p := fun k => k) (fun i hi => hi) (b := fun k => laws_markStringS.l0 k (fun z0 z1 => some (z0, z1))) (fun v => match v with | (u, i, tab) => ((xs.length : Int) - i).toNat) (fun v => match v with | (u, i, tab) => 0 ≤ i ∧ i ≤ xs.length ∧ ∃ done : List (List D), done.length = i.toNat ∧ tab = deepRows done ++ deepRows (xs.drop i.toNat) ∧ u = n + wtRows (xs.take i.toNat) ∧ HeldL (fun u r u' => ∀ k, Fuel k → HStep (fun xs L v => laws_heldStringS.l0 k xs (fun z0 => some z0) L v) u r u') n done u) ?_ ?_ ?_
    · rintro ⟨u, i, tab⟩ hI
      simp only [] at hI ⊢
      omega
    · exact ⟨by omega, by omega, [], rfl, by simp [deepRows], by simp [wtRows], .nil⟩
    · rintro ⟨u, i, tab⟩ hI L hL
      simp only [] at hI
      obtain ⟨i0, i1, done, hd, rfl, hu, hH⟩ := hI
      have hA : (deepRows done).length = i.toNat := by rw [deepRows_length, hd]
      have hT : (deepRows done ++ deepRows (xs.drop i.toNat)).length = xs.length := by rw [List.length_append, hA, deepRows_length, List.length_drop]; omega
      simp only [laws_markStringS.l0]
      refine Tm.ite (fun h4 => ?_) (fun h4 => ?_)
      · simp only [decide_eq_true_eq, hT] at h4
        have hx := gR_at i0 h4
        obtain ⟨c0, e, k0, _⟩ := (g.2 _ (gR_mem i0 h4)).open
        rw [e] at hx
        have hdr := drop_at i0 hx
        have hw := wt_take i0 hx
        simp only [wtCells, wtD] at hw
        have hs := wt_split xs (i + 1).toNat
        rw [hdr] at hT ⊢
        simp only [deepRows, deepCells, deepD] at hT ⊢
        have hT2 := hT
        simp only [List.length_append, List.length_cons] at hT2
        try simp (disch := omega) only [wrap_i64]
        refine laws_markText.tm (fun i hi => hi.1) (Tm.at (ok := Fuel) (v := laws_markText.v _) (fun k hk => laws_markText.tv (by omega) hk)) (fun y hy => ?_)
        subst hy
        refine Tm.guard (by first | decide | (simp only [List.length_modify, List.length_append, List.length_cons]; omega)) ?_
        refine Tm.guard (by first | decide | (simp only [List.length_modify, List.length_append, List.length_cons]; omega)) ?_
        try simp (disch := omega) only [wrap_i64]
        try simp only [modify_mid hA, splice, List.take_zero, List.take_succ_cons, List.drop_succ_cons, List.drop_zero, List.nil_append, List.cons_append, List.length_cons, List.length_nil, Nat.zero_add, Nat.reduceAdd, List.set_cons_succ, List.set_cons_zero]
        refine hL (_, _, _) ⟨by omega, by omega, done ++ [[.str (laws_markText.v (u))]], by simp only [List.length_append, List.length_cons, List.length_nil]; omega, ?_, by omega, HeldL.snoc hH (fun k hk => laws_heldStringS.step (by omega) (by omega) hk)⟩ (by simp only []; omega)
        rw [deepRows_append]
        simp only [deepRows, deepCells, deepD, List.append_assoc, List.cons_append, List.nil_append]
      · simp only [decide_eq_false_iff_not, hT] at h4
        refine Tm.ret ⟨done, ?_, by omega, ?_, hH⟩
        · rw [List.drop_eq_nil_of_le (by omega)]
          simp only [deepRows, List.append_nil]
        · rw [List.take_of_length_le (by omega)] at hu
          exact hu
  obtain ⟨v, ⟨ys, e1, e2, e3, hH⟩, h2⟩ := key
  exact ⟨v, ⟨ys, e1, e2, e3, fun k hk => by
    have hk0 : Fuel k := hk
    unfold laws_heldStringS.t laws_heldStringS.g
    exact held_run (b := fun xs L v => laws_heldStringS.l0 k xs (fun z0 => some z0) L v) (by omega) (hH.mono fun _ _ _ h => h k hk) (by omega) (fun L => by simp [laws_heldStringS.l0])⟩, h2⟩
theorem laws_heldValueS.f_of {β : Type} {k : Nat} {a0 : List (List D)} {a1 : Int} {z0 : Int} (h : laws_heldValueS.t k a0 a1 = some z0) (K : Int → Option β) : laws_heldValueS.f k a0 a1 K = K z0 := by
  unfold laws_heldValueS.f
  unfold laws_heldValueS.w
  rw [h]
theorem laws_heldValueS.tm {ι α : Type} {ok : ι → Prop} {ψ : α → Prop} {p : ι → Nat} {B : Nat} (hp : ∀ i, ok i → B ≤ p i) {a0 : List (List D)} {a1 : Int} {φ : Int → Prop} (h : Tm (fun k => B ≤ k) (fun k => laws_heldValueS.t k a0 a1) φ) {G : ι → Int → Option α} (hG : ∀ z0, φ z0 → Tm ok (fun i => G i z0) ψ) : Tm ok (fun i => laws_heldValueS.f (p i) a0 a1 (G i)) ψ := by
  obtain ⟨z0, h1, h2⟩ := h
  exact (hG z0 h1).congr fun i hi => laws_heldValueS.f_of (h2 (p i) (hp i hi)) _
theorem laws_heldValueS.step {N : Nat} {u : Int} {ys3 : List (List D)} {n3 : Int} {ys4 : List (List D)} {n4 : Int} (h0 : 0 ≤ u) (hn3 : u + 1 + 1 + 1 ≤ n3) (hh3 : ∀ k, Fuel k → laws_heldStringS.t k ys3 (u + 1 + 1 + 1) = some n3) (hn4 : n3 ≤ n4) (hh4 : ∀ k, N ≤ k → laws_heldValueS.t k ys4 (n3) = some n4) (h1 : n4 ≤ 4611686018427387904) {k : Nat} (hk : N ≤ k) (hk0 : Fuel k) : HStep (fun xs L v => laws_heldValueS.l0 k (laws_heldValueS.f k) xs (fun z0 => some z0) L v) u [.int .i64 (u), .str (laws_markText.v (u + 1)), .int .i64 (u + 1 + 1), .sl ys3, .sl ys4] (n4) := by
  intro xs i i0 i1 hl hr L
  simp (disch := first | assumption | omega) only [laws_heldValueS.l0, dec_true i1, cond_true, cond_false, atRow_gR i0 i1, hr, uncons_at, dInt_self, dStr_at, dBool_at, dSl_at, atEnd_at, wrap_i64, laws_markText.fv, strEq_self, bne_self_eq_false, beq_self_eq_true, Bool.not_true, laws_heldStringS.f_of (hh3 k hk0), dec_false (show ¬ n3 < 0 by omega), laws_heldValueS.f_of (hh4 k hk), dec_false (show ¬ n4 < 0 by omega)]
theorem markVal {B : Nat} (hB : B ≤ 1099511627776) (h : Nat) : ∀ {xs : List (List D)} {n : Int}, xs.length ≤ B → (∀ r ∈ xs, RISILSELXE_h B h r) → 0 ≤ n → n + wtRows xs ≤ 4611686018427387904 → Tm (fun k => big + h + 1 ≤ k) (fun k => laws_markValueS.t k (deepRows xs) n) (fun z => ∃ ys, z.2 = deepRows ys ∧ ys.length = xs.length ∧ z.1 = n + wtRows xs ∧ ∀ k, big + h + 1 ≤ k → laws_heldValueS.t k ys n = some z.1) := by
  have hb : big = 2 ^ 64 := rfl
  induction h using Nat.strongRecOn with
  | ind h ih =>
  intro xs n hl g h0 h1
  have key : Tm (fun k => big + h ≤ k) (fun k => laws_markValueS.g k (deepRows xs) n (fun z0 z1 => some (z0, z1))) (fun z => ∃ ys, z.2 = deepRows ys ∧ ys.length = xs.length ∧ z.1 = n + wtRows xs ∧ HeldL (fun u r u' => ∀ k, big + h ≤ k → HStep (fun xs L v => laws_heldValueS.l0 k (laws_heldValueS.f k) xs (fun z0 => some z0) L v) u r u') n ys z.1) := by
    unfold laws_markValueS.g laws_markValueS.body
    refine Tm.loop (okk := fun k => big + h ≤ k) (p := fun k => k) (fun i hi => by omega) (b := fun k => laws_markValueS.l0 k (laws_markValueS.f k) (fun z0 z1 => some (z0, z1))) (fun v => match v with | (u, i, tab) => ((xs.length : Int) - i).toNat) (fun v => match v with | (u, i, tab) => 0 ≤ i ∧ i ≤ xs.length ∧ ∃ done : List (List D), done.length = i.toNat ∧ tab = deepRows done ++ deepRows (xs.drop i.toNat) ∧ u = n + wtRows (xs.take i.toNat) ∧ HeldL (fun u r u' => ∀ k, big + h ≤ k → HStep (fun xs L v => laws_heldValueS.l0 k (laws_heldValueS.f k) xs (fun z0 => some z0) L v) u r u') n done u) ?_ ?_ ?_
    · rintro ⟨u, i, tab⟩ hI
      simp only [] at hI ⊢
      omega
    · exact ⟨by omega, by omega, [], rfl, by simp [deepRows], by simp [wtRows], .nil⟩
    · rintro ⟨u, i, tab⟩ hI L hL
      simp only [] at hI
      obtain ⟨i0, i1, done, hd, rfl, hu, hH⟩ := hI
      have hA : (deepRows done).length = i.toNat := by rw [deepRows_length, hd]
      have hT : (deepRows done ++ deepRows (xs.drop i.toNat)).length = xs.length := by rw [List.length_append, hA, deepRows_length, List.length_drop]; omega
      simp only [laws_markValueS.l0]
      refine Tm.ite (fun h4 => ?_) (fun h4 => ?_)
      · simp only [decide_eq_true_eq, hT] at h4
        have hx := gR_at i0 h4
        obtain ⟨h', hh', c0, c1, c2, c3, c4, e, k3, l4, k4⟩ : ∃ h', h = h' + 1 ∧ ∃ c0 c1 c2 c3 c4, gR xs i = [.int .i64 c0, .str c1, .int .i64 c2, .sl c3, .sl c4] ∧ SlOk RS B c3 ∧ c4.length ≤ B ∧ ∀ r ∈ c4, RISILSELXE_h B h' r := by
          have := g _ (gR_mem i0 h4)
          generalize gR xs i = r at this
          cases this with
          | mk c0 c1 c2 c3 c4 w0 g1 w2 g3 l4 g4 => exact ⟨_, rfl, _, _, _, _, _, rfl, g3, l4, g4⟩
        rw [e] at hx
        have hdr := drop_at i0 hx
        have hw := wt_take i0 hx
        simp only [wtCells, wtD] at hw
        have hs := wt_split xs (i + 1).toNat
        rw [hdr] at hT ⊢
        simp only [deepRows, deepCells, deepD] at hT ⊢
        have hT2 := hT
        simp only [List.length_append, List.length_cons] at hT2
        refine Tm.guard (by first | decide | (simp only [List.length_modify, List.length_append, List.length_cons]; omega)) ?_
        refine Tm.guard (by first | decide | (simp only [List.length_modify, List.length_append, List.length_cons]; omega)) ?_
        try simp (disch := omega) only [wrap_i64]
        refine laws_markText.tm (B := big) (fun i hi => by have := hi.1; omega) (Tm.at (ok := Fuel) (v := laws_markText.v _) (fun k hk => laws_markText.tv (by omega) hk)) (fun y hy => ?_)
        subst hy
        refine Tm.guard (by first | decide | (simp only [List.length_modify, List.length_append, List.length_cons]; omega)) ?_
        refine Tm.guard (by first | decide | (simp only [List.length_modify, List.length_append, List.length_cons]; omega)) ?_
        refine Tm.guard (by first | decide | (simp only [List.length_modify, List.length_append, List.length_cons]; omega)) ?_
        refine Tm.guard (by first | decide | (simp only [List.length_modify, List.length_append, List.length_cons]; omega)) ?_
        refine Tm.guard (by first | decide | (simp only [List.length_modify, List.length_append, List.length_cons]; omega)) ?_
        try simp only [modify_mid hA, atNat_mid hA, splice, List.take_zero, List.take_succ_cons, List.drop_succ_cons, List.drop_zero, List.nil_append, List.cons_append, List.length_cons, List.length_nil, Nat.zero_add, Nat.reduceAdd, List.set_cons_succ, List.set_cons_zero]
        refine Tm.uncons ?_
        refine Tm.cOwn ?_
        try simp (disch := omega) only [wrap_i64]
        refine laws_markStringS.tm (B := big) (fun i hi => by have := hi.1; omega) (laws_markStringS.T hB k3 (by omega) (by omega)) (fun y3 t3 hy => ?_)
        obtain ⟨ys3, et3, el3, en3, hh3⟩ := hy
        simp only [] at et3 en3 hh3
        subst et3 en3
        refine Tm.guard (by first | decide | (simp only [List.length_modify, List.length_append, List.length_cons]; omega)) ?_
        try simp only [modify_mid hA, atNat_mid hA, splice, List.take_zero, List.take_succ_cons, List.drop_succ_cons, List.drop_zero, List.nil_append, List.cons_append, List.length_cons, List.length_nil, Nat.zero_add, Nat.reduceAdd, List.set_cons_succ, List.set_cons_zero]
        refine Tm.uncons ?_
        refine Tm.cOwn ?_
        try simp (disch := omega) only [wrap_i64]
        refine laws_markValueS.tm (B := big + h' + 1) (fun i hi => by have := hi.1; omega) (ih h' (by omega) l4 k4 (by omega) (by omega)) (fun y4 t4 hy => ?_)
        obtain ⟨ys4, et4, el4, en4, hh4⟩ := hy
        simp only [] at et4 en4 hh4
        subst et4 en4
        try simp (disch := omega) only [wrap_i64]
        try simp only [modify_mid hA, splice, List.take_zero, List.take_succ_cons, List.drop_succ_cons, List.drop_zero, List.nil_append, List.cons_append, List.length_cons, List.length_nil, Nat.zero_add, Nat.reduceAdd, List.set_cons_succ, List.set_cons_zero]
        refine hL (_, _, _) ⟨by omega, by omega, done ++ [[.int .i64 (u), .str (laws_markText.v (u + 1)), .int .i64 (u + 1 + 1), .sl ys3, .sl ys4]], by simp only [List.length_append, List.length_cons, List.length_nil]; omega, ?_, by omega, HeldL.snoc hH (fun k hk => laws_heldValueS.step (by omega) (by omega) hh3 (by omega) hh4 (by omega) (by omega) (by unfold Fuel; omega))⟩ (by simp only []; omega)
        rw [deepRows_append]
        simp only [deepRows, deepCells, deepD, List.append_assoc, List.cons_append, List.nil_append]
      · simp only [decide_eq_false_iff_not, hT] at h4
        refine Tm.ret ⟨done, ?_, by omega, ?_, hH⟩
        · rw [List.drop_eq_nil_of_le (by omega)]
          simp only [deepRows, List.append_nil]
        · rw [List.take_of_length_le (by omega)] at hu
          exact hu
  refine Tm.succ (g := fun k => laws_markValueS.g k (deepRows xs) n (fun z0 z1 => some (z0, z1))) (fun k => laws_markValueS.t_succ k (deepRows xs) n) ?_
  refine key.mono fun z hz => ?_
  obtain ⟨ys, e1, e2, e3, hH⟩ := hz
  refine ⟨ys, e1, e2, e3, fun k hk => ?_⟩
  cases k with
  | zero => omega
  | succ k =>
    rw [laws_heldValueS.t_succ]
    unfold laws_heldValueS.g laws_heldValueS.body
    exact held_run (b := fun xs L v => laws_heldValueS.l0 k (laws_heldValueS.f k) xs (fun z0 => some z0) L v) (by omega) (hH.mono fun _ _ _ h => h k (by omega)) (by omega) (fun L => by simp [laws_heldValueS.l0])
theorem laws_markValueS.T {B : Nat} (hB : B ≤ 1099511627776) {xs : List (List D)} {n : Int} (g : SlOk RISILSELXE B xs) (h0 : 0 ≤ n) (h1 : n + wtRows xs ≤ 4611686018427387904) : Tm (FuelN 1) (fun k => laws_markValueS.t k (deepRows xs) n) (fun z => ∃ ys, z.2 = deepRows ys ∧ ys.length = xs.length ∧ z.1 = n + wtRows xs ∧ ∀ k, (FuelN 1) k → laws_heldValueS.t k ys n = some z.1) := by
  have hb : big = 2 ^ 64 := rfl
  have h2 : lv 1 = 2 ^ 65 := rfl
  obtain ⟨H, hH⟩ : ∃ H : Nat, H = 1099511627776 := ⟨_, rfl⟩
  have g' : ∀ x ∈ xs, RISILSELXE_h B H x := fun x hx => by
    obtain ⟨h, hh, hx⟩ := g.2 x hx
    exact hx.mono (by have := hh hB; omega)
  have hN : big + H + 1 ≤ lv 1 := by omega
  refine ((markVal hB H g.1 g' h0 h1).up hN).mono fun z hz => ?_
  obtain ⟨ys, e1, e2, e3, hh⟩ := hz
  exact ⟨ys, e1, e2, e3, fun k hk => hh k (Nat.le_trans hN hk)⟩

theorem laws_heldWorkS.f_of {β : Type} {k : Nat} {a0 : List (List D)} {a1 : Int} {z0 : Int} (h : laws_heldWorkS.t k a0 a1 = some z0) (K : Int → Option β) : laws_heldWorkS.f k a0 a1 K = K z0 := by
  unfold laws_heldWorkS.f
  rw [h]
theorem laws_heldWorkS.tm {ι α : Type} {ok : ι → Prop} {ψ : α → Prop} {p : ι → Nat} {B : Nat} (hp : ∀ i, ok i → B ≤ p i) {a0 : List (List D)} {a1 : Int} {φ : Int → Prop} (h : Tm (fun k => B ≤ k) (fun k => laws_heldWorkS.t k a0 a1) φ) {G : ι → Int → Option α} (hG : ∀ z0, φ z0 → Tm ok (fun i => G i z0) ψ) : Tm ok (fun i => laws_heldWorkS.f (p i) a0 a1 (G i)) ψ := by
  obtain ⟨z0, h1, h2⟩ := h
  exact (hG z0 h1).congr fun i hi => laws_heldWorkS.f_of (h2 (p i) (hp i hi)) _
set_option maxRecDepth 100000 in
set_option maxHeartbeats 8000000 in
theorem laws_heldWorkS.step {u : Int} {ys5 : List (List D)} {n5 : Int} {ys6 : List (List D)} {n6 : Int} (h0 : 0 ≤ u) (hn5 : u + 1 + 1 + 1 + 1 + 1 ≤ n5) (hh5 : ∀ k, Fuel k → laws_heldStringS.t k ys5 (u + 1 + 1 + 1 + 1 + 1) = some n5) (hn6 : n5 ≤ n6) (hh6 : ∀ k, (FuelN 1) k → laws_heldValueS.t k ys6 (n5) = some n6) (h1 : n6 ≤ 4611686018427387904) {k : Nat} (hk : (FuelN 1) k) : HStep (fun xs L v => laws_heldWorkS.l0 k xs (fun z0 => some z0) L v) u [.int .i64 (u), .int .i64 (u + 1), .int .i64 (u + 1 + 1), .str (laws_markText.v (u + 1 + 1 + 1)), .int .i64 (u + 1 + 1 + 1 + 1), .sl ys5, .sl ys6] (n6) := by
  have hk0 : Fuel k := up0 hk
  intro xs i i0 i1 hl hr L
  simp (maxSteps := 4000000) (disch := first | assumption | omega) only [laws_heldWorkS.l0, dec_true i1, cond_true, cond_false, atRow_gR i0 i1, hr, uncons_at, dInt_self, dStr_at, dBool_at, dSl_at, atEnd_at, wrap_i64, laws_markText.fv, strEq_self, bne_self_eq_false, beq_self_eq_true, Bool.not_true, laws_heldStringS.f_of (hh5 k (up0 hk)), dec_false (show ¬ n5 < 0 by omega), laws_heldValueS.f_of (hh6 k hk), dec_false (show ¬ n6 < 0 by omega)]
set_option maxRecDepth 100000 in
set_option maxHeartbeats 8000000 in
theorem laws_markWorkS.T {B : Nat} (hB : B ≤ 1099511627776) {xs : List (List D)} {n : Int} (g : SlOk RIIISILSELISILSELXEE B xs) (h0 : 0 ≤ n) (h1 : n + wtRows xs ≤ 4611686018427387904) : Tm (FuelN 1) (fun k => laws_markWorkS.t k (deepRows xs) n) (fun z => ∃ ys, z.2 = deepRows ys ∧ ys.length = xs.length ∧ z.1 = n + wtRows xs ∧ ∀ k, (FuelN 1) k → laws_heldWorkS.t k ys n = some z.1) := by
  have hb : big = 2 ^ 64 := rfl
  have hl := g.1
  have key : Tm (FuelN 1) (fun k => laws_markWorkS.t k (deepRows xs) n) (fun z => ∃ ys, z.2 = deepRows ys ∧ ys.length = xs.length ∧ z.1 = n + wtRows xs ∧ HeldL (fun u r u' => ∀ k, (FuelN 1) k → HStep (fun xs L v => laws_heldWorkS.l0 k xs (fun z0 => some z0) L v) u r u') n ys z.1) := by
    unfold laws_markWorkS.t laws_markWorkS.g
    refine Tm.loop (okk := (FuelN 1)) (p := fun k => k) (fun i hi => up0 hi) (b := fun k => laws_markWorkS.l0 k (fun z0 z1 => some (z0, z1))) (fun v => match v with | (u, i, tab) => ((xs.length : Int) - i).toNat) (fun v => match v with | (u, i, tab) => 0 ≤ i ∧ i ≤ xs.length ∧ ∃ done : List (List D), done.length = i.toNat ∧ tab = deepRows done ++ deepRows (xs.drop i.toNat) ∧ u = n + wtRows (xs.take i.toNat) ∧ HeldL (fun u r u' => ∀ k, (FuelN 1) k → HStep (fun xs L v => laws_heldWorkS.l0 k xs (fun z0 => some z0) L v) u r u') n done u) ?_ ?_ ?_
    · rintro ⟨u, i, tab⟩ hI
      simp only [] at hI ⊢
      omega
    · exact ⟨by omega, by omega, [], rfl, by simp [deepRows], by simp [wtRows], .nil⟩
    · rintro ⟨u, i, tab⟩ hI L hL
      simp only [] at hI
      obtain ⟨i0, i1, done, hd, rfl, hu, hH⟩ := hI
      have hA : (deepRows done).length = i.toNat := by rw [deepRows_length, hd]
      have hT : (deepRows done ++ deepRows (xs.drop i.toNat)).length = xs.length := by rw [List.length_append, hA, deepRows_length, List.length_drop]; omega
      simp only [laws_markWorkS.l0]
      refine Tm.ite (fun h4 => ?_) (fun h4 => ?_)
      · simp only [decide_eq_true_eq, hT] at h4
        have hx := gR_at i0 h4
        obtain ⟨c0, c1, c2, c3, c4, c5, c6, e, k0, k1, k2, k3, k4, k5, k6, _⟩ := (g.2 _ (gR_mem i0 h4)).open
        rw [e] at hx
        have hdr := drop_at i0 hx
        have hw := wt_take i0 hx
        simp only [wtCells, wtD] at hw
        have hs := wt_split xs (i + 1).toNat
        rw [hdr] at hT ⊢
        simp only [deepRows, deepCells, deepD] at hT ⊢
        have hT2 := hT
        simp only [List.length_append, List.length_cons] at hT2
        refine Tm.guard (by first | decide | (simp only [List.length_modify, List.length_append, List.length_cons]; omega)) ?_
        refine Tm.guard (by first | decide | (simp only [List.length_modify, List.length_append, List.length_cons]; omega)) ?_
        refine Tm.guard (by first | decide | (simp only [List.length_modify, List.length_append, List.length_cons]; omega)) ?_
        refine Tm.guard (by first | decide | (simp only [List.length_modify, List.length_append, List.length_cons]; omega)) ?_
        refine Tm.guard (by first | decide | (simp only [List.length_modify, List.length_append, List.length_cons]; omega)) ?_
        refine Tm.guard (by first | decide | (simp only [List.length_modify, List.length_append, List.length_cons]; omega)) ?_
        try simp (disch := omega) only [wrap_i64]
        refine laws_markText.tm (fun i hi => up0 hi.1) (Tm.at (ok := Fuel) (v := laws_markText.v _) (fun k hk => laws_markText.tv (by omega) hk)) (fun y hy => ?_)
        subst hy
        refine Tm.guard (by first | decide | (simp only [List.length_modify, List.length_append, List.length_cons]; omega)) ?_
        refine Tm.guard (by first | decide | (simp only [List.length_modify, List.length_append, List.length_cons]; omega)) ?_
        refine Tm.guard (by first | decide | (simp only [List.length_modify, List.length_append, List.length_cons]; omega)) ?_
        refine Tm.guard (by first | decide | (simp only [List.length_modify, List.length_append, List.length_cons]; omega)) ?_
        refine Tm.guard (by first | decide | (simp only [List.length_modify, List.length_append, List.length_cons]; omega)) ?_
        try simp only [modify_mid hA, atNat_mid hA, splice, List.take_zero, List.take_succ_cons, List.drop_succ_cons, List.drop_zero, List.nil_append, List.cons_append, List.length_cons, List.length_nil, Nat.zero_add, Nat.reduceAdd, List.set_cons_succ, List.set_cons_zero]
        refine Tm.uncons ?_
        refine Tm.cOwn ?_
        try simp (disch := omega) only [wrap_i64]
        refine laws_markStringS.tm (fun i hi => up0 hi.1) (laws_markStringS.T hB k5 (by omega) (by omega)) (fun y5 t5 hy => ?_)
        obtain ⟨ys5, et5, el5, en5, hh5⟩ := hy
        simp only [] at et5 en5 hh5
        subst et5 en5
        refine Tm.guard (by first | decide | (simp only [List.length_modify, List.length_append, List.length_cons]; omega)) ?_
        try simp only [modify_mid hA, atNat_mid hA, splice, List.take_zero, List.take_succ_cons, List.drop_succ_cons, List.drop_zero, List.nil_append, List.cons_append, List.length_cons, List.length_nil, Nat.zero_add, Nat.reduceAdd, List.set_cons_succ, List.set_cons_zero]
        refine Tm.uncons ?_
        refine Tm.cOwn ?_
        try simp (disch := omega) only [wrap_i64]
        refine laws_markValueS.tm (fun i hi => hi.1) (laws_markValueS.T hB k6 (by omega) (by omega)) (fun y6 t6 hy => ?_)
        obtain ⟨ys6, et6, el6, en6, hh6⟩ := hy
        simp only [] at et6 en6 hh6
        subst et6 en6
        try simp (disch := omega) only [wrap_i64]
        try simp only [modify_mid hA, splice, List.take_zero, List.take_succ_cons, List.drop_succ_cons, List.drop_zero, List.nil_append, List.cons_append, List.length_cons, List.length_nil, Nat.zero_add, Nat.reduceAdd, List.set_cons_succ, List.set_cons_zero]
        refine hL (_, _, _) ⟨by omega, by omega, done ++ [[.int .i64 (u), .int .i64 (u + 1), .int .i64 (u + 1 + 1), .str (laws_markText.v (u + 1 + 1 + 1)), .int .i64 (u + 1 + 1 + 1 + 1), .sl ys5, .sl ys6]], by simp only [List.length_append, List.length_cons, List.length_nil]; omega, ?_, by omega, HeldL.snoc hH (fun k hk => laws_heldWorkS.step (by omega) (by omega) hh5 (by omega) hh6 (by omega) hk)⟩ (by simp only []; omega)
        rw [deepRows_append]
        simp only [deepRows, deepCells, deepD, List.append_assoc, List.cons_append, List.nil_append]
      · simp only [decide_eq_false_iff_not, hT] at h4
        refine Tm.ret ⟨done, ?_, by omega, ?_, hH⟩
        · rw [List.drop_eq_nil_of_le (by omega)]
          simp only [deepRows, List.append_nil]
        · rw [List.take_of_length_le (by omega)] at hu
          exact hu
  obtain ⟨v, ⟨ys, e1, e2, e3, hH⟩, h2⟩ := key
  exact ⟨v, ⟨ys, e1, e2, e3, fun k hk => by
    have hk0 : Fuel k := up0 hk
    unfold laws_heldWorkS.t laws_heldWorkS.g
    exact held_run (b := fun xs L v => laws_heldWorkS.l0 k xs (fun z0 => some z0) L v) (by omega) (hH.mono fun _ _ _ h => h k hk) (by omega) (fun L => by simp [laws_heldWorkS.l0])⟩, h2⟩
theorem laws_heldRunS.f_of {β : Type} {k : Nat} {a0 : List (List D)} {a1 : Int} {z0 : Int} (h : laws_heldRunS.t k a0 a1 = some z0) (K : Int → Option β) : laws_heldRunS.f k a0 a1 K = K z0 := by
  unfold laws_heldRunS.f
  rw [h]
theorem laws_heldRunS.tm {ι α : Type} {ok : ι → Prop} {ψ : α → Prop} {p : ι → Nat} {B : Nat} (hp : ∀ i, ok i → B ≤ p i) {a0 : List (List D)} {a1 : Int} {φ : Int → Prop} (h : Tm (fun k => B ≤ k) (fun k => laws_heldRunS.t k a0 a1) φ) {G : ι → Int → Option α} (hG : ∀ z0, φ z0 → Tm ok (fun i => G i z0) ψ) : Tm ok (fun i => laws_heldRunS.f (p i) a0 a1 (G i)) ψ := by
  obtain ⟨z0, h1, h2⟩ := h
  exact (hG z0 h1).congr fun i hi => laws_heldRunS.f_of (h2 (p i) (hp i hi)) _
set_option maxRecDepth 100000 in
set_option maxHeartbeats 8000000 in
theorem laws_heldRunS.step {u : Int}  (h0 : 0 ≤ u)  (h1 : u + 1 + 1 ≤ 4611686018427387904) {k : Nat} (hk : Fuel k) : HStep (fun xs L v => laws_heldRunS.l0 k xs (fun z0 => some z0) L v) u [.int .i64 (u), .int .i64 (u + 1)] (u + 1 + 1) := by
  have hk0 : Fuel k := hk
  intro xs i i0 i1 hl hr L
  simp (maxSteps := 4000000) (disch := first | assumption | omega) only [laws_heldRunS.l0, dec_true i1, cond_true, cond_false, atRow_gR i0 i1, hr, uncons_at, dInt_self, dStr_at, dBool_at, dSl_at, atEnd_at, wrap_i64, laws_markText.fv, strEq_self, bne_self_eq_false, beq_self_eq_true, Bool.not_true]
set_option maxRecDepth 100000 in
set_option maxHeartbeats 8000000 in
theorem laws_markRunS.T {B : Nat} (hB : B ≤ 1099511627776) {xs : List (List D)} {n : Int} (g : SlOk RII B xs) (h0 : 0 ≤ n) (h1 : n + wtRows xs ≤ 4611686018427387904) : Tm Fuel (fun k => laws_markRunS.t k (deepRows xs) n) (fun z => ∃ ys, z.2 = deepRows ys ∧ ys.length = xs.length ∧ z.1 = n + wtRows xs ∧ ∀ k, Fuel k → laws_heldRunS.t k ys n = some z.1) := by
  have hb : big = 2 ^ 64 := rfl
  have hl := g.1
  have key : Tm Fuel (fun k => laws_markRunS.t k (deepRows xs) n) (fun z => ∃ ys, z.2 = deepRows ys ∧ ys.length = xs.length ∧ z.1 = n + wtRows xs ∧ HeldL (fun u r u' => ∀ k, Fuel k → HStep (fun xs L v => laws_heldRunS.l0 k xs (fun z0 => some z0) L v) u r u') n ys z.1) := by
    unfold laws_markRunS.t laws_markRunS.g
    refine Tm.loop (okk := Fuel) (p := fun k => k) (fun i hi => hi) (b := fun k => laws_markRunS.l0 k (fun z0 z1 => some (z0, z1))) (fun v => match v with | (u, i, tab) => ((xs.length : Int) - i).toNat) (fun v => match v with | (u, i, tab) => 0 ≤ i ∧ i ≤ xs.length ∧ ∃ done : List (List D), done.length = i.toNat ∧ tab = deepRows done ++ deepRows (xs.drop i.toNat) ∧ u = n + wtRows (xs.take i.toNat) ∧ HeldL (fun u r u' => ∀ k, Fuel k → HStep (fun xs L v => laws_heldRunS.l0 k xs (fun z0 => some z0) L v) u r u') n done u) ?_ ?_ ?_
    · rintro ⟨u, i, tab⟩ hI
      simp only [] at hI ⊢
      omega
    · exact ⟨by omega, by omega, [], rfl, by simp [deepRows], by simp [wtRows], .nil⟩
    · rintro ⟨u, i, tab⟩ hI L hL
      simp only [] at hI
      obtain ⟨i0, i1, done, hd, rfl, hu, hH⟩ := hI
      have hA : (deepRows done).length = i.toNat := by rw [deepRows_length, hd]
      have hT : (deepRows done ++ deepRows (xs.drop i.toNat)).length = xs.length := by rw [List.length_append, hA, deepRows_length, List.length_drop]; omega
      simp only [laws_markRunS.l0]
      refine Tm.ite (fun h4 => ?_) (fun h4 => ?_)
      · simp only [decide_eq_true_eq, hT] at h4
        have hx := gR_at i0 h4
        obtain ⟨c0, c1, e, k0, k1, _⟩ := (g.2 _ (gR_mem i0 h4)).open
        rw [e] at hx
        have hdr := drop_at i0 hx
        have hw := wt_take i0 hx
        simp only [wtCells, wtD] at hw
        have hs := wt_split xs (i + 1).toNat
        rw [hdr] at hT ⊢
        simp only [deepRows, deepCells, deepD] at hT ⊢
        have hT2 := hT
        simp only [List.length_append, List.length_cons] at hT2
        refine Tm.guard (by first | decide | (simp only [List.length_modify, List.length_append, List.length_cons]; omega)) ?_
        refine Tm.guard (by first | decide | (simp only [List.length_modify, List.length_append, List.length_cons]; omega)) ?_
        refine Tm.guard (by first | decide | (simp only [List.length_modify, List.length_append, List.length_cons]; omega)) ?_
        refine Tm.guard (by first | decide | (simp only [List.length_modify, List.length_append, List.length_cons]; omega)) ?_
        try simp (disch := omega) only [wrap_i64]
        try simp only [modify_mid hA, splice, List.take_zero, List.take_succ_cons, List.drop_succ_cons, List.drop_zero, List.nil_append, List.cons_append, List.length_cons, List.length_nil, Nat.zero_add, Nat.reduceAdd, List.set_cons_succ, List.set_cons_zero]
        refine hL (_, _, _) ⟨by omega, by omega, done ++ [[.int .i64 (u), .int .i64 (u + 1)]], by simp only [List.length_append, List.length_cons, List.length_nil]; omega, ?_, by omega, HeldL.snoc hH (fun k hk => laws_heldRunS.step (by omega) (by omega) hk)⟩ (by simp only []; omega)
        rw [deepRows_append]
        simp only [deepRows, deepCells, deepD, List.append_assoc, List.cons_append, List.nil_append]
      · simp only [decide_eq_false_iff_not, hT] at h4
        refine Tm.ret ⟨done, ?_, by omega, ?_, hH⟩
        · rw [List.drop_eq_nil_of_le (by omega)]
          simp only [deepRows, List.append_nil]
        · rw [List.take_of_length_le (by omega)] at hu
          exact hu
  obtain ⟨v, ⟨ys, e1, e2, e3, hH⟩, h2⟩ := key
  exact ⟨v, ⟨ys, e1, e2, e3, fun k hk => by
    have hk0 : Fuel k := hk
    unfold laws_heldRunS.t laws_heldRunS.g
    exact held_run (b := fun xs L v => laws_heldRunS.l0 k xs (fun z0 => some z0) L v) (by omega) (hH.mono fun _ _ _ h => h k hk) (by omega) (fun L => by simp [laws_heldRunS.l0])⟩, h2⟩
theorem laws_heldIsle.f_of {β : Type} {k : Nat} {a0_0 : ByteArray} {a0_1 : Int} {a0_2 : Int} {a0_3 : List (List D)} {a0_4 : List (List D)} {a1 : Int} {z0 : Int} (h : laws_heldIsle.t k a0_0 a0_1 a0_2 a0_3 a0_4 a1 = some z0) (K : Int → Option β) : laws_heldIsle.f k a0_0 a0_1 a0_2 a0_3 a0_4 a1 K = K z0 := by
  unfold laws_heldIsle.f
  rw [h]
theorem laws_heldIsle.tm {ι α : Type} {ok : ι → Prop} {ψ : α → Prop} {p : ι → Nat} {B : Nat} (hp : ∀ i, ok i → B ≤ p i) {a0_0 : ByteArray} {a0_1 : Int} {a0_2 : Int} {a0_3 : List (List D)} {a0_4 : List (List D)} {a1 : Int} {φ : Int → Prop} (h : Tm (fun k => B ≤ k) (fun k => laws_heldIsle.t k a0_0 a0_1 a0_2 a0_3 a0_4 a1) φ) {G : ι → Int → Option α} (hG : ∀ z0, φ z0 → Tm ok (fun i => G i z0) ψ) : Tm ok (fun i => laws_heldIsle.f (p i) a0_0 a0_1 a0_2 a0_3 a0_4 a1 (G i)) ψ := by
  obtain ⟨z0, h1, h2⟩ := h
  exact (hG z0 h1).congr fun i hi => laws_heldIsle.f_of (h2 (p i) (hp i hi)) _
set_option maxRecDepth 100000 in
set_option maxHeartbeats 8000000 in
theorem laws_markIsle.T {B : Nat} (hB : B ≤ 1099511627776) {c0 : ByteArray} {c1 : Int} {c2 : Int} {a3 a4 : List (List D)} {n : Int} (g3 : SlOk RIIISILSELISILSELXEE B a3) (g4 : SlOk RII B a4) (h0 : 0 ≤ n) (h1 : n + wtRows a3 + wtRows a4 ≤ 4611686018427387904) : Tm (FuelN 1) (fun k => laws_markIsle.t k c0 c1 c2 (deepRows a3) (deepRows a4) n) (fun z => ∃ ys3 ys4, z.1 = n + wtRows a3 + wtRows a4 ∧ z.2.1 = deepRows ys3 ∧ z.2.2 = deepRows ys4 ∧ ys3.length = a3.length ∧ ys4.length = a4.length ∧ ∀ k, (FuelN 1) k → laws_heldIsle.t k c0 c1 c2 ys3 ys4 n = some z.1) := by
  unfold laws_markIsle.t laws_markIsle.g
  refine laws_markWorkS.tm (fun i hi => hi) (laws_markWorkS.T hB g3 (by omega) (by omega)) (fun y3 t3 hy => ?_)
  obtain ⟨ys3, et3, el3, en3, hh3⟩ := hy
  simp only [] at et3 en3 hh3
  subst et3 en3
  try refine Tm.guard (by rw [deepRows_length, deepRows_length]; exact el3) ?_
  refine laws_markRunS.tm (fun i hi => up0 hi) (laws_markRunS.T hB g4 (by omega) (by omega)) (fun y4 t4 hy => ?_)
  obtain ⟨ys4, et4, el4, en4, hh4⟩ := hy
  simp only [] at et4 en4 hh4
  subst et4 en4
  try refine Tm.guard (by rw [deepRows_length, deepRows_length]; exact el4) ?_
  exact Tm.ret ⟨ys3, ys4, rfl, rfl, rfl, el3, el4, fun k hk => by
    unfold laws_heldIsle.t laws_heldIsle.g
    rw [laws_heldWorkS.f_of (hh3 k hk)]; simp only [dec_false (show ¬ (n + (wtRows a3 : Int)) < 0 by omega), cond_false]
    rw [laws_heldRunS.f_of (hh4 k (up0 hk))]; simp only [dec_false (show ¬ (n + (wtRows a3 : Int) + (wtRows a4 : Int)) < 0 by omega), cond_false]⟩
end Go.Proofs.Ytnlhhhkeigjnoaa
