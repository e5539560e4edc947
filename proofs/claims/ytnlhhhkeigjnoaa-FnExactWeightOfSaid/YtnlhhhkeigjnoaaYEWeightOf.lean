/- Printed: the functions that FnExactWeightOf reaches come to their end. -/
import Derived.Test.YtnlhhhkeigjnoaaXEWeightOf0
import Derived.KernelRfl
set_option linter.unusedVariables false
set_option linter.unusedSimpArgs false
namespace Go.Proofs.Ytnlhhhkeigjnoaa
open Go Go.T Go.Proofs
theorem laws_szStringS.f_of {β : Type} {k : Nat} {a0 : List (List D)} {a1 : Int} {z0 : Int} (h : laws_szStringS.t k a0 a1 = some z0) (K : Int → Option β) : laws_szStringS.f k a0 a1 K = K z0 := by
  unfold laws_szStringS.f
  rw [h]
theorem laws_szStringS.tm {ι α : Type} {ok : ι → Prop} {ψ : α → Prop} {p : ι → Nat} (hp : ∀ i, ok i → big ≤ p i) {a0 : List (List D)} {a1 : Int} {φ : Int → Prop} (h : Tm Fuel (fun k => laws_szStringS.t k a0 a1) φ) {G : ι → Int → Option α} (hG : ∀ z0, φ z0 → Tm ok (fun i => G i z0) ψ) : Tm ok (fun i => laws_szStringS.f (p i) a0 a1 (G i)) ψ := by
  obtain ⟨z0, h1, h2⟩ := h
  exact (hG z0 h1).congr fun i hi => laws_szStringS.f_of (h2 (p i) (hp i hi)) _
def RS (B : Nat) (r : List D) : Prop := ∃ (c0 : ByteArray), r = [.str c0] ∧ c0.size ≤ B ∧ True
theorem laws_szStringS.T {a0 : List (List D)} {a1 : Int} (h0 : 0 ≤ a1) (h1 : a1 ≤ 1048576) (ga0 : SlOk RS maxLen a0) : Tm Fuel (fun k => laws_szStringS.t k a0 a1) (fun r => r < 0 ∨ 0 ≤ r ∧ r ≤ a1 ∧ SlOk RS lim a0 ∧ True) := by
  unfold laws_szStringS.t laws_szStringS.g
  have hm := maxLen_eq
  have hlim : lim = 1048576 := rfl
  have hlen := ga0.1
  try rw [wrap_i64 (x := a1 - (a0.length : Int)) (by omega) (by omega)]
  refine Tm.ite (fun h1 => ?_) (fun h1 => ?_)
  · try simp only [decide_eq_true_eq, decide_eq_false_iff_not, Int.not_lt, Int.not_le, bne_iff_ne, ne_eq, bne_eq_false_iff_eq, Bool.not_eq_true', Bool.not_eq_false'] at h1
    exact Tm.ret (by first | (left; omega) | (right; refine ⟨?_, ?_, ?_, trivial⟩ <;> first | assumption | omega))
  · try simp only [decide_eq_true_eq, decide_eq_false_iff_not, Int.not_lt, Int.not_le, bne_iff_ne, ne_eq, bne_eq_false_iff_eq, Bool.not_eq_true', Bool.not_eq_false'] at h1
    refine Tm.loop (okk := Fuel) (p := fun k => k) (fun i hi => hi) (b := fun k => laws_szStringS.l0 k a0 (fun z0 => some z0)) (fun v => match v with | (u0, i) => (((a0.length : Int)) - i).toNat) (fun v => match v with | (u0, i) => 0 ≤ u0 ∧ u0 ≤ a1 ∧ 0 ≤ i ∧ i ≤ (a0.length : Int) ∧ ∀ r ∈ a0.take i.toNat, RS lim r) ?_ ?_ ?_
    · rintro ⟨u0, i⟩ hI
      try simp only [] at hI ⊢
      have : big = 2 ^ 100 := rfl
      have := ga0.1
      omega
    · exact ⟨by omega, by omega, by omega, by simp, by simp⟩
    · rintro ⟨u0, i⟩ hI L hL
      try simp only [] at hI
      obtain ⟨u0a, u0b, i0, i1, hr⟩ := hI
      simp only [laws_szStringS.l0]
      refine Tm.ite (fun h2 => ?_) (fun h2 => ?_)
      · try simp only [decide_eq_true_eq, decide_eq_false_iff_not, Int.not_lt, Int.not_le, bne_iff_ne, ne_eq, bne_eq_false_iff_eq, Bool.not_eq_true', Bool.not_eq_false'] at h2
        refine Tm.atRow (by first | assumption | omega | (simp only [lim, maxLen_eq] at *; omega)) (by first | assumption | omega | (simp only [lim, maxLen_eq] at *; omega)) (fun x3 hx4 hm5 => ?_)
        obtain ⟨c6, rfl, g7, _⟩ := ga0.2 x3 hm5
        refine Tm.uncons ?_
        refine Tm.dStr ?_
        refine Tm.atEnd ?_
        try rw [wrap_i64 (x := u0 - (c6.size : Int)) (by omega) (by omega)]
        refine Tm.ite (fun h8 => ?_) (fun h8 => ?_)
        · try simp only [decide_eq_true_eq, decide_eq_false_iff_not, Int.not_lt, Int.not_le, bne_iff_ne, ne_eq, bne_eq_false_iff_eq, Bool.not_eq_true', Bool.not_eq_false'] at h8
          exact Tm.ret (by first | (left; omega) | exact .inr ⟨by omega, by omega, ⟨by simp only [lim]; omega, all_rows (by omega) hr⟩, trivial⟩)
        · try simp only [decide_eq_true_eq, decide_eq_false_iff_not, Int.not_lt, Int.not_le, bne_iff_ne, ne_eq, bne_eq_false_iff_eq, Bool.not_eq_true', Bool.not_eq_false'] at h8
          try rw [wrap_i64 (x := i + 1) (by omega) (by omega)]
          refine hL ((u0 - (c6.size : Int)), (i + 1)) ⟨by omega, by omega, by omega, by omega, take_rows i0 hx4 hr ⟨_, rfl, by first | assumption | omega, trivial⟩⟩ (by (try simp only []); omega)
      · try simp only [decide_eq_true_eq, decide_eq_false_iff_not, Int.not_lt, Int.not_le, bne_iff_ne, ne_eq, bne_eq_false_iff_eq, Bool.not_eq_true', Bool.not_eq_false'] at h2
        exact Tm.ret (by first | (left; omega) | exact .inr ⟨by omega, by omega, ⟨by simp only [lim]; omega, all_rows (by omega) hr⟩, trivial⟩)
theorem laws_szTerm.f_of {β : Type} {k : Nat} {a0_0 : Int} {a0_1 : ByteArray} {a0_2 : List (List D)} {a1 : Int} {z0 : Int} (h : laws_szTerm.t k a0_0 a0_1 a0_2 a1 = some z0) (K : Int → Option β) : laws_szTerm.f k a0_0 a0_1 a0_2 a1 K = K z0 := by
  unfold laws_szTerm.f
  rw [h]
theorem laws_szTerm.tm {ι α : Type} {ok : ι → Prop} {ψ : α → Prop} {p : ι → Nat} (hp : ∀ i, ok i → big ≤ p i) {a0_0 : Int} {a0_1 : ByteArray} {a0_2 : List (List D)} {a1 : Int} {φ : Int → Prop} (h : Tm Fuel (fun k => laws_szTerm.t k a0_0 a0_1 a0_2 a1) φ) {G : ι → Int → Option α} (hG : ∀ z0, φ z0 → Tm ok (fun i => G i z0) ψ) : Tm ok (fun i => laws_szTerm.f (p i) a0_0 a0_1 a0_2 a1 (G i)) ψ := by
  obtain ⟨z0, h1, h2⟩ := h
  exact (hG z0 h1).congr fun i hi => laws_szTerm.f_of (h2 (p i) (hp i hi)) _
theorem laws_szTerm.T {a0_0 : Int} {a0_1 : ByteArray} {a0_2 : List (List D)} {a1 : Int} (h0 : 0 ≤ a1) (h1 : a1 ≤ 1048576) (ga0_1 : a0_1.size ≤ maxLen) (ga0_2 : SlOk RS maxLen a0_2) : Tm Fuel (fun k => laws_szTerm.t k a0_0 a0_1 a0_2 a1) (fun r => r < 0 ∨ 0 ≤ r ∧ r ≤ a1 ∧ a0_1.size ≤ lim ∧ SlOk RS lim a0_2 ∧ True) := by
  unfold laws_szTerm.t laws_szTerm.g
  have hm := maxLen_eq
  have hlim : lim = 1048576 := rfl
  try rw [wrap_i64 (x := a1 - (a0_1.size : Int)) (by omega) (by omega)]
  refine Tm.ite (fun h1 => ?_) (fun h1 => ?_)
  · try simp only [decide_eq_true_eq, decide_eq_false_iff_not, Int.not_lt, Int.not_le, bne_iff_ne, ne_eq, bne_eq_false_iff_eq, Bool.not_eq_true', Bool.not_eq_false'] at h1
    exact Tm.ret (by first | (left; omega) | (right; refine ⟨?_, ?_, ?_, ?_, trivial⟩ <;> first | assumption | omega))
  · try simp only [decide_eq_true_eq, decide_eq_false_iff_not, Int.not_lt, Int.not_le, bne_iff_ne, ne_eq, bne_eq_false_iff_eq, Bool.not_eq_true', Bool.not_eq_false'] at h1
    refine laws_szStringS.tm (fun i hi => hi) (laws_szStringS.T (by first | assumption | omega | (simp only [lim, maxLen_eq] at *; omega)) (by first | assumption | omega | (simp only [lim, maxLen_eq] at *; omega)) (by first | assumption | omega | (simp only [lim, maxLen_eq] at *; omega))) (fun y3 hy2 => ?_)
    rcases hy2 with hy2 | ⟨p5, p6, q4, _⟩
    · exact Tm.ite (fun _ => Tm.ret (by left; omega)) (fun h => by simp at h; omega)
    refine Tm.ite (fun h7 => ?_) (fun h7 => ?_)
    · try simp only [decide_eq_true_eq, decide_eq_false_iff_not, Int.not_lt, Int.not_le, bne_iff_ne, ne_eq, bne_eq_false_iff_eq, Bool.not_eq_true', Bool.not_eq_false'] at h7
      exact Tm.ret (by first | (left; omega) | (right; refine ⟨?_, ?_, ?_, ?_, trivial⟩ <;> first | assumption | omega))
    · try simp only [decide_eq_true_eq, decide_eq_false_iff_not, Int.not_lt, Int.not_le, bne_iff_ne, ne_eq, bne_eq_false_iff_eq, Bool.not_eq_true', Bool.not_eq_false'] at h7
      exact Tm.ret (by first | (left; omega) | (right; refine ⟨?_, ?_, ?_, ?_, trivial⟩ <;> first | assumption | omega))
theorem laws_szTermS.f_of {β : Type} {k : Nat} {a0 : List (List D)} {a1 : Int} {z0 : Int} (h : laws_szTermS.t k a0 a1 = some z0) (K : Int → Option β) : laws_szTermS.f k a0 a1 K = K z0 := by
  unfold laws_szTermS.f
  rw [h]
theorem laws_szTermS.tm {ι α : Type} {ok : ι → Prop} {ψ : α → Prop} {p : ι → Nat} (hp : ∀ i, ok i → big ≤ p i) {a0 : List (List D)} {a1 : Int} {φ : Int → Prop} (h : Tm Fuel (fun k => laws_szTermS.t k a0 a1) φ) {G : ι → Int → Option α} (hG : ∀ z0, φ z0 → Tm ok (fun i => G i z0) ψ) : Tm ok (fun i => laws_szTermS.f (p i) a0 a1 (G i)) ψ := by
  obtain ⟨z0, h1, h2⟩ := h
  exact (hG z0 h1).congr fun i hi => laws_szTermS.f_of (h2 (p i) (hp i hi)) _
def RISLSE (B : Nat) (r : List D) : Prop := ∃ (c0 : Int) (c1 : ByteArray) (c2 : List (List D)), r = [.int .i64 c0, .str c1, .sl c2] ∧ (Lit.int .i64 c0).wf = true ∧ c1.size ≤ B ∧ SlOk RS B c2 ∧ True
theorem laws_szTermS.T {a0 : List (List D)} {a1 : Int} (h0 : 0 ≤ a1) (h1 : a1 ≤ 1048576) (ga0 : SlOk RISLSE maxLen a0) : Tm Fuel (fun k => laws_szTermS.t k a0 a1) (fun r => r < 0 ∨ 0 ≤ r ∧ r ≤ a1 ∧ SlOk RISLSE lim a0 ∧ True) := by
  unfold laws_szTermS.t laws_szTermS.g
  have hm := maxLen_eq
  have hlim : lim = 1048576 := rfl
  have hlen := ga0.1
  try rw [wrap_i64 (x := a1 - (a0.length : Int)) (by omega) (by omega)]
  refine Tm.ite (fun h1 => ?_) (fun h1 => ?_)
  · try simp only [decide_eq_true_eq, decide_eq_false_iff_not, Int.not_lt, Int.not_le, bne_iff_ne, ne_eq, bne_eq_false_iff_eq, Bool.not_eq_true', Bool.not_eq_false'] at h1
    exact Tm.ret (by first | (left; omega) | (right; refine ⟨?_, ?_, ?_, trivial⟩ <;> first | assumption | omega))
  · try simp only [decide_eq_true_eq, decide_eq_false_iff_not, Int.not_lt, Int.not_le, bne_iff_ne, ne_eq, bne_eq_false_iff_eq, Bool.not_eq_true', Bool.not_eq_false'] at h1
    refine Tm.loop (okk := Fuel) (p := fun k => k) (fun i hi => hi) (b := fun k => laws_szTermS.l0 k a0 (fun z0 => some z0)) (fun v => match v with | (u0, i) => (((a0.length : Int)) - i).toNat) (fun v => match v with | (u0, i) => 0 ≤ u0 ∧ u0 ≤ a1 ∧ 0 ≤ i ∧ i ≤ (a0.length : Int) ∧ ∀ r ∈ a0.take i.toNat, RISLSE lim r) ?_ ?_ ?_
    · rintro ⟨u0, i⟩ hI
      try simp only [] at hI ⊢
      have : big = 2 ^ 100 := rfl
      have := ga0.1
      omega
    · exact ⟨by omega, by omega, by omega, by simp, by simp⟩
    · rintro ⟨u0, i⟩ hI L hL
      try simp only [] at hI
      obtain ⟨u0a, u0b, i0, i1, hr⟩ := hI
      simp only [laws_szTermS.l0]
      refine Tm.ite (fun h2 => ?_) (fun h2 => ?_)
      · try simp only [decide_eq_true_eq, decide_eq_false_iff_not, Int.not_lt, Int.not_le, bne_iff_ne, ne_eq, bne_eq_false_iff_eq, Bool.not_eq_true', Bool.not_eq_false'] at h2
        refine Tm.atRow (by first | assumption | omega | (simp only [lim, maxLen_eq] at *; omega)) (by first | assumption | omega | (simp only [lim, maxLen_eq] at *; omega)) (fun x3 hx4 hm5 => ?_)
        obtain ⟨c6, c7, c8, rfl, g9, g10, g11, _⟩ := ga0.2 x3 hm5
        refine Tm.uncons ?_
        refine Tm.dInt ?_
        refine Tm.uncons ?_
        refine Tm.dStr ?_
        refine Tm.uncons ?_
        refine Tm.dSl ?_
        refine Tm.atEnd ?_
        refine laws_szTerm.tm (fun i hi => hi.1) (laws_szTerm.T (by first | assumption | omega | (simp only [lim, maxLen_eq] at *; omega)) (by first | assumption | omega | (simp only [lim, maxLen_eq] at *; omega)) (by first | assumption | omega | (simp only [lim, maxLen_eq] at *; omega)) (by first | assumption | omega | (simp only [lim, maxLen_eq] at *; omega))) (fun y13 hy12 => ?_)
        rcases hy12 with hy12 | ⟨p16, p17, q14, q15, _⟩
        · exact Tm.ite (fun _ => Tm.ret (by left; omega)) (fun h => by simp at h; omega)
        refine Tm.ite (fun h18 => ?_) (fun h18 => ?_)
        · try simp only [decide_eq_true_eq, decide_eq_false_iff_not, Int.not_lt, Int.not_le, bne_iff_ne, ne_eq, bne_eq_false_iff_eq, Bool.not_eq_true', Bool.not_eq_false'] at h18
          exact Tm.ret (by first | (left; omega) | exact .inr ⟨by omega, by omega, ⟨by simp only [lim]; omega, all_rows (by omega) hr⟩, trivial⟩)
        · try simp only [decide_eq_true_eq, decide_eq_false_iff_not, Int.not_lt, Int.not_le, bne_iff_ne, ne_eq, bne_eq_false_iff_eq, Bool.not_eq_true', Bool.not_eq_false'] at h18
          try rw [wrap_i64 (x := i + 1) (by omega) (by omega)]
          refine hL (y13, (i + 1)) ⟨by omega, by omega, by omega, by omega, take_rows i0 hx4 hr ⟨_, _, _, rfl, by first | assumption | omega, by first | assumption | omega, by first | assumption | omega, trivial⟩⟩ (by (try simp only []); omega)
      · try simp only [decide_eq_true_eq, decide_eq_false_iff_not, Int.not_lt, Int.not_le, bne_iff_ne, ne_eq, bne_eq_false_iff_eq, Bool.not_eq_true', Bool.not_eq_false'] at h2
        exact Tm.ret (by first | (left; omega) | exact .inr ⟨by omega, by omega, ⟨by simp only [lim]; omega, all_rows (by omega) hr⟩, trivial⟩)
theorem laws_szWeigh.f_of {β : Type} {k : Nat} {a0_0 : ByteArray} {a0_1 : Int} {a1 : Int} {z0 : Int} (h : laws_szWeigh.t k a0_0 a0_1 a1 = some z0) (K : Int → Option β) : laws_szWeigh.f k a0_0 a0_1 a1 K = K z0 := by
  unfold laws_szWeigh.f
  rw [h]
theorem laws_szWeigh.tm {ι α : Type} {ok : ι → Prop} {ψ : α → Prop} {p : ι → Nat} (hp : ∀ i, ok i → big ≤ p i) {a0_0 : ByteArray} {a0_1 : Int} {a1 : Int} {φ : Int → Prop} (h : Tm Fuel (fun k => laws_szWeigh.t k a0_0 a0_1 a1) φ) {G : ι → Int → Option α} (hG : ∀ z0, φ z0 → Tm ok (fun i => G i z0) ψ) : Tm ok (fun i => laws_szWeigh.f (p i) a0_0 a0_1 a1 (G i)) ψ := by
  obtain ⟨z0, h1, h2⟩ := h
  exact (hG z0 h1).congr fun i hi => laws_szWeigh.f_of (h2 (p i) (hp i hi)) _
theorem laws_szWeigh.T {a0_0 : ByteArray} {a0_1 : Int} {a1 : Int} (h0 : 0 ≤ a1) (h1 : a1 ≤ 1048576) (ga0_0 : a0_0.size ≤ maxLen) : Tm Fuel (fun k => laws_szWeigh.t k a0_0 a0_1 a1) (fun r => r < 0 ∨ 0 ≤ r ∧ r ≤ a1 ∧ a0_0.size ≤ lim ∧ True) := by
  unfold laws_szWeigh.t laws_szWeigh.g
  have hm := maxLen_eq
  have hlim : lim = 1048576 := rfl
  try rw [wrap_i64 (x := a1 - (a0_0.size : Int)) (by omega) (by omega)]
  refine Tm.ite (fun h1 => ?_) (fun h1 => ?_)
  · try simp only [decide_eq_true_eq, decide_eq_false_iff_not, Int.not_lt, Int.not_le, bne_iff_ne, ne_eq, bne_eq_false_iff_eq, Bool.not_eq_true', Bool.not_eq_false'] at h1
    exact Tm.ret (by first | (left; omega) | (right; refine ⟨?_, ?_, ?_, trivial⟩ <;> first | assumption | omega))
  · try simp only [decide_eq_true_eq, decide_eq_false_iff_not, Int.not_lt, Int.not_le, bne_iff_ne, ne_eq, bne_eq_false_iff_eq, Bool.not_eq_true', Bool.not_eq_false'] at h1
    exact Tm.ret (by first | (left; omega) | (right; refine ⟨?_, ?_, ?_, trivial⟩ <;> first | assumption | omega))
theorem laws_szWeighS.f_of {β : Type} {k : Nat} {a0 : List (List D)} {a1 : Int} {z0 : Int} (h : laws_szWeighS.t k a0 a1 = some z0) (K : Int → Option β) : laws_szWeighS.f k a0 a1 K = K z0 := by
  unfold laws_szWeighS.f
  rw [h]
theorem laws_szWeighS.tm {ι α : Type} {ok : ι → Prop} {ψ : α → Prop} {p : ι → Nat} (hp : ∀ i, ok i → big ≤ p i) {a0 : List (List D)} {a1 : Int} {φ : Int → Prop} (h : Tm Fuel (fun k => laws_szWeighS.t k a0 a1) φ) {G : ι → Int → Option α} (hG : ∀ z0, φ z0 → Tm ok (fun i => G i z0) ψ) : Tm ok (fun i => laws_szWeighS.f (p i) a0 a1 (G i)) ψ := by
  obtain ⟨z0, h1, h2⟩ := h
  exact (hG z0 h1).congr fun i hi => laws_szWeighS.f_of (h2 (p i) (hp i hi)) _
def RSI (B : Nat) (r : List D) : Prop := ∃ (c0 : ByteArray) (c1 : Int), r = [.str c0, .int .i64 c1] ∧ c0.size ≤ B ∧ (Lit.int .i64 c1).wf = true ∧ True
theorem laws_szWeighS.T {a0 : List (List D)} {a1 : Int} (h0 : 0 ≤ a1) (h1 : a1 ≤ 1048576) (ga0 : SlOk RSI maxLen a0) : Tm Fuel (fun k => laws_szWeighS.t k a0 a1) (fun r => r < 0 ∨ 0 ≤ r ∧ r ≤ a1 ∧ SlOk RSI lim a0 ∧ True) := by
  unfold laws_szWeighS.t laws_szWeighS.g
  have hm := maxLen_eq
  have hlim : lim = 1048576 := rfl
  have hlen := ga0.1
  try rw [wrap_i64 (x := a1 - (a0.length : Int)) (by omega) (by omega)]
  refine Tm.ite (fun h1 => ?_) (fun h1 => ?_)
  · try simp only [decide_eq_true_eq, decide_eq_false_iff_not, Int.not_lt, Int.not_le, bne_iff_ne, ne_eq, bne_eq_false_iff_eq, Bool.not_eq_true', Bool.not_eq_false'] at h1
    exact Tm.ret (by first | (left; omega) | (right; refine ⟨?_, ?_, ?_, trivial⟩ <;> first | assumption | omega))
  · try simp only [decide_eq_true_eq, decide_eq_false_iff_not, Int.not_lt, Int.not_le, bne_iff_ne, ne_eq, bne_eq_false_iff_eq, Bool.not_eq_true', Bool.not_eq_false'] at h1
    refine Tm.loop (okk := Fuel) (p := fun k => k) (fun i hi => hi) (b := fun k => laws_szWeighS.l0 k a0 (fun z0 => some z0)) (fun v => match v with | (u0, i) => (((a0.length : Int)) - i).toNat) (fun v => match v with | (u0, i) => 0 ≤ u0 ∧ u0 ≤ a1 ∧ 0 ≤ i ∧ i ≤ (a0.length : Int) ∧ ∀ r ∈ a0.take i.toNat, RSI lim r) ?_ ?_ ?_
    · rintro ⟨u0, i⟩ hI
      try simp only [] at hI ⊢
      have : big = 2 ^ 100 := rfl
      have := ga0.1
      omega
    · exact ⟨by omega, by omega, by omega, by simp, by simp⟩
    · rintro ⟨u0, i⟩ hI L hL
      try simp only [] at hI
      obtain ⟨u0a, u0b, i0, i1, hr⟩ := hI
      simp only [laws_szWeighS.l0]
      refine Tm.ite (fun h2 => ?_) (fun h2 => ?_)
      · try simp only [decide_eq_true_eq, decide_eq_false_iff_not, Int.not_lt, Int.not_le, bne_iff_ne, ne_eq, bne_eq_false_iff_eq, Bool.not_eq_true', Bool.not_eq_false'] at h2
        refine Tm.atRow (by first | assumption | omega | (simp only [lim, maxLen_eq] at *; omega)) (by first | assumption | omega | (simp only [lim, maxLen_eq] at *; omega)) (fun x3 hx4 hm5 => ?_)
        obtain ⟨c6, c7, rfl, g8, g9, _⟩ := ga0.2 x3 hm5
        refine Tm.uncons ?_
        refine Tm.dStr ?_
        refine Tm.uncons ?_
        refine Tm.dInt ?_
        refine Tm.atEnd ?_
        refine laws_szWeigh.tm (fun i hi => hi.1) (laws_szWeigh.T (by first | assumption | omega | (simp only [lim, maxLen_eq] at *; omega)) (by first | assumption | omega | (simp only [lim, maxLen_eq] at *; omega)) (by first | assumption | omega | (simp only [lim, maxLen_eq] at *; omega))) (fun y11 hy10 => ?_)
        rcases hy10 with hy10 | ⟨p13, p14, q12, _⟩
        · exact Tm.ite (fun _ => Tm.ret (by left; omega)) (fun h => by simp at h; omega)
        refine Tm.ite (fun h15 => ?_) (fun h15 => ?_)
        · try simp only [decide_eq_true_eq, decide_eq_false_iff_not, Int.not_lt, Int.not_le, bne_iff_ne, ne_eq, bne_eq_false_iff_eq, Bool.not_eq_true', Bool.not_eq_false'] at h15
          exact Tm.ret (by first | (left; omega) | exact .inr ⟨by omega, by omega, ⟨by simp only [lim]; omega, all_rows (by omega) hr⟩, trivial⟩)
        · try simp only [decide_eq_true_eq, decide_eq_false_iff_not, Int.not_lt, Int.not_le, bne_iff_ne, ne_eq, bne_eq_false_iff_eq, Bool.not_eq_true', Bool.not_eq_false'] at h15
          try rw [wrap_i64 (x := i + 1) (by omega) (by omega)]
          refine hL (y11, (i + 1)) ⟨by omega, by omega, by omega, by omega, take_rows i0 hx4 hr ⟨_, _, rfl, by first | assumption | omega, by first | assumption | omega, trivial⟩⟩ (by (try simp only []); omega)
      · try simp only [decide_eq_true_eq, decide_eq_false_iff_not, Int.not_lt, Int.not_le, bne_iff_ne, ne_eq, bne_eq_false_iff_eq, Bool.not_eq_true', Bool.not_eq_false'] at h2
        exact Tm.ret (by first | (left; omega) | exact .inr ⟨by omega, by omega, ⟨by simp only [lim]; omega, all_rows (by omega) hr⟩, trivial⟩)
theorem laws_szWant.f_of {β : Type} {k : Nat} {a0_0 : Int} {a0_1 : List (List D)} {a0_2 : List (List D)} {a0_3 : List (List D)} {a1 : Int} {z0 : Int} (h : laws_szWant.t k a0_0 a0_1 a0_2 a0_3 a1 = some z0) (K : Int → Option β) : laws_szWant.f k a0_0 a0_1 a0_2 a0_3 a1 K = K z0 := by
  unfold laws_szWant.f
  rw [h]
theorem laws_szWant.tm {ι α : Type} {ok : ι → Prop} {ψ : α → Prop} {p : ι → Nat} (hp : ∀ i, ok i → big ≤ p i) {a0_0 : Int} {a0_1 : List (List D)} {a0_2 : List (List D)} {a0_3 : List (List D)} {a1 : Int} {φ : Int → Prop} (h : Tm Fuel (fun k => laws_szWant.t k a0_0 a0_1 a0_2 a0_3 a1) φ) {G : ι → Int → Option α} (hG : ∀ z0, φ z0 → Tm ok (fun i => G i z0) ψ) : Tm ok (fun i => laws_szWant.f (p i) a0_0 a0_1 a0_2 a0_3 a1 (G i)) ψ := by
  obtain ⟨z0, h1, h2⟩ := h
  exact (hG z0 h1).congr fun i hi => laws_szWant.f_of (h2 (p i) (hp i hi)) _
theorem laws_szWant.T {a0_0 : Int} {a0_1 : List (List D)} {a0_2 : List (List D)} {a0_3 : List (List D)} {a1 : Int} (h0 : 0 ≤ a1) (h1 : a1 ≤ 1048576) (ga0_1 : SlOk RISLSE maxLen a0_1) (ga0_2 : SlOk RS maxLen a0_2) (ga0_3 : SlOk RSI maxLen a0_3) : Tm Fuel (fun k => laws_szWant.t k a0_0 a0_1 a0_2 a0_3 a1) (fun r => r < 0 ∨ 0 ≤ r ∧ r ≤ a1 ∧ SlOk RISLSE lim a0_1 ∧ SlOk RS lim a0_2 ∧ SlOk RSI lim a0_3 ∧ True) := by
  unfold laws_szWant.t laws_szWant.g
  have hm := maxLen_eq
  have hlim : lim = 1048576 := rfl
  refine laws_szTermS.tm (fun i hi => hi) (laws_szTermS.T (by first | assumption | omega | (simp only [lim, maxLen_eq] at *; omega)) (by first | assumption | omega | (simp only [lim, maxLen_eq] at *; omega)) (by first | assumption | omega | (simp only [lim, maxLen_eq] at *; omega))) (fun y2 hy1 => ?_)
  rcases hy1 with hy1 | ⟨p4, p5, q3, _⟩
  · exact Tm.ite (fun _ => Tm.ret (by left; omega)) (fun h => by simp at h; omega)
  refine Tm.ite (fun h6 => ?_) (fun h6 => ?_)
  · try simp only [decide_eq_true_eq, decide_eq_false_iff_not, Int.not_lt, Int.not_le, bne_iff_ne, ne_eq, bne_eq_false_iff_eq, Bool.not_eq_true', Bool.not_eq_false'] at h6
    exact Tm.ret (by first | (left; omega) | (right; refine ⟨?_, ?_, ?_, ?_, ?_, trivial⟩ <;> first | assumption | omega))
  · try simp only [decide_eq_true_eq, decide_eq_false_iff_not, Int.not_lt, Int.not_le, bne_iff_ne, ne_eq, bne_eq_false_iff_eq, Bool.not_eq_true', Bool.not_eq_false'] at h6
    refine laws_szStringS.tm (fun i hi => hi) (laws_szStringS.T (by first | assumption | omega | (simp only [lim, maxLen_eq] at *; omega)) (by first | assumption | omega | (simp only [lim, maxLen_eq] at *; omega)) (by first | assumption | omega | (simp only [lim, maxLen_eq] at *; omega))) (fun y8 hy7 => ?_)
    rcases hy7 with hy7 | ⟨p10, p11, q9, _⟩
    · exact Tm.ite (fun _ => Tm.ret (by left; omega)) (fun h => by simp at h; omega)
    refine Tm.ite (fun h12 => ?_) (fun h12 => ?_)
    · try simp only [decide_eq_true_eq, decide_eq_false_iff_not, Int.not_lt, Int.not_le, bne_iff_ne, ne_eq, bne_eq_false_iff_eq, Bool.not_eq_true', Bool.not_eq_false'] at h12
      exact Tm.ret (by first | (left; omega) | (right; refine ⟨?_, ?_, ?_, ?_, ?_, trivial⟩ <;> first | assumption | omega))
    · try simp only [decide_eq_true_eq, decide_eq_false_iff_not, Int.not_lt, Int.not_le, bne_iff_ne, ne_eq, bne_eq_false_iff_eq, Bool.not_eq_true', Bool.not_eq_false'] at h12
      refine laws_szWeighS.tm (fun i hi => hi) (laws_szWeighS.T (by first | assumption | omega | (simp only [lim, maxLen_eq] at *; omega)) (by first | assumption | omega | (simp only [lim, maxLen_eq] at *; omega)) (by first | assumption | omega | (simp only [lim, maxLen_eq] at *; omega))) (fun y14 hy13 => ?_)
      rcases hy13 with hy13 | ⟨p16, p17, q15, _⟩
      · exact Tm.ite (fun _ => Tm.ret (by left; omega)) (fun h => by simp at h; omega)
      refine Tm.ite (fun h18 => ?_) (fun h18 => ?_)
      · try simp only [decide_eq_true_eq, decide_eq_false_iff_not, Int.not_lt, Int.not_le, bne_iff_ne, ne_eq, bne_eq_false_iff_eq, Bool.not_eq_true', Bool.not_eq_false'] at h18
        exact Tm.ret (by first | (left; omega) | (right; refine ⟨?_, ?_, ?_, ?_, ?_, trivial⟩ <;> first | assumption | omega))
      · try simp only [decide_eq_true_eq, decide_eq_false_iff_not, Int.not_lt, Int.not_le, bne_iff_ne, ne_eq, bne_eq_false_iff_eq, Bool.not_eq_true', Bool.not_eq_false'] at h18
        exact Tm.ret (by first | (left; omega) | (right; refine ⟨?_, ?_, ?_, ?_, ?_, trivial⟩ <;> first | assumption | omega))
theorem laws_toStringS.f_of {β : Type} {k : Nat} {a0 : List (List D)} {z0 : List (List C)} (h : laws_toStringS.t k a0 = some z0) (K : (List (List C)) → Option β) : laws_toStringS.f k a0 K = K z0 := by
  unfold laws_toStringS.f
  rw [h]
theorem laws_toStringS.tm {ι α : Type} {ok : ι → Prop} {ψ : α → Prop} {p : ι → Nat} (hp : ∀ i, ok i → big ≤ p i) {a0 : List (List D)} {φ : (List (List C)) → Prop} (h : Tm Fuel (fun k => laws_toStringS.t k a0) φ) {G : ι → (List (List C)) → Option α} (hG : ∀ z0, φ z0 → Tm ok (fun i => G i z0) ψ) : Tm ok (fun i => laws_toStringS.f (p i) a0 (G i)) ψ := by
  obtain ⟨z0, h1, h2⟩ := h
  exact (hG z0 h1).congr fun i hi => laws_toStringS.f_of (h2 (p i) (hp i hi)) _
theorem laws_toStringS.T {a0 : List (List D)} (ga0 : SlOk RS lim a0) : Tm Fuel (fun k => laws_toStringS.t k a0) (fun z => C.immRows z = a0 ∧ True) := by
  unfold laws_toStringS.t laws_toStringS.g
  have hm := maxLen_eq
  have hlim : lim = 1048576 := rfl
  have hlen := ga0.1
  refine Tm.guard (by first | omega | (simp only [lim, maxLen_eq, most] at *; omega) | (simp only [lim, most] at *; refine ⟨?_, ?_, ?_, ?_⟩ <;> omega)) ?_
  refine Tm.loop (okk := Fuel) (p := fun k => k) (fun i hi => hi) (b := fun k => laws_toStringS.l0 k a0 (fun z0 => some z0)) (fun v => match v with | (i, u1) => (((a0.length : Int)) - i).toNat) (fun v => match v with | (i, u1) => 0 ≤ i ∧ i ≤ (a0.length : Int) ∧ Filled a0 ([.d (.str (⟨#[]⟩ : ByteArray))] : List C) i u1) ?_ ?_ ?_
  · rintro ⟨i, u1⟩ hI
    try simp only [] at hI ⊢
    have : big = 2 ^ 100 := rfl
    have := ga0.1
    simp only [lim] at this
    omega
  · exact ⟨by omega, by simp, Filled.start _ _⟩
  · rintro ⟨i, u1⟩ hI L hL
    try simp only [] at hI
    obtain ⟨i0, i1, hF⟩ := hI
    have hFl := hF.len i1
    simp only [laws_toStringS.l0]
    refine Tm.ite (fun h1 => ?_) (fun h1 => ?_)
    · try simp only [decide_eq_true_eq, decide_eq_false_iff_not, Int.not_lt, Int.not_le, bne_iff_ne, ne_eq, bne_eq_false_iff_eq, Bool.not_eq_true', Bool.not_eq_false'] at h1
      refine Tm.atRow (by first | assumption | omega | (simp only [lim, maxLen_eq] at *; omega)) (by first | assumption | omega | (simp only [lim, maxLen_eq] at *; omega)) (fun x2 hx3 hm4 => ?_)
      obtain ⟨c5, rfl, g6, _⟩ := ga0.2 x2 hm4
      refine Tm.uncons ?_
      refine Tm.dStr ?_
      refine Tm.atEnd ?_
      refine Tm.guard (by first | omega | (simp only [lim, maxLen_eq, most] at *; omega) | (simp only [lim, most] at *; refine ⟨?_, ?_, ?_, ?_⟩ <;> omega)) ?_
      refine Tm.guard (by first | omega | (simp only [lim, maxLen_eq, most] at *; omega) | (simp only [lim, most] at *; refine ⟨?_, ?_, ?_, ?_⟩ <;> omega)) ?_
      try rw [wrap_i64 (x := i + 1) (by omega) (by omega)]
      refine hL (_, _) ⟨by omega, by omega, hF.next i0 hx3 rfl (by simp [C.immCells, C.imm])⟩ (by (try simp only []); omega)
    · try simp only [decide_eq_true_eq, decide_eq_false_iff_not, Int.not_lt, Int.not_le, bne_iff_ne, ne_eq, bne_eq_false_iff_eq, Bool.not_eq_true', Bool.not_eq_false'] at h1
      exact Tm.ret (by exact ⟨hF.all (by omega), trivial⟩)
theorem laws_toTerm.f_of {β : Type} {k : Nat} {a0_0 : Int} {a0_1 : ByteArray} {a0_2 : List (List D)} {z0 : Int} {z1 : ByteArray} {z2 : List (List C)} (h : laws_toTerm.t k a0_0 a0_1 a0_2 = some (z0, z1, z2)) (K : Int → ByteArray → (List (List C)) → Option β) : laws_toTerm.f k a0_0 a0_1 a0_2 K = K z0 z1 z2 := by
  unfold laws_toTerm.f
  rw [h]
theorem laws_toTerm.tm {ι α : Type} {ok : ι → Prop} {ψ : α → Prop} {p : ι → Nat} (hp : ∀ i, ok i → big ≤ p i) {a0_0 : Int} {a0_1 : ByteArray} {a0_2 : List (List D)} {φ : Int × ByteArray × (List (List C)) → Prop} (h : Tm Fuel (fun k => laws_toTerm.t k a0_0 a0_1 a0_2) φ) {G : ι → Int → ByteArray → (List (List C)) → Option α} (hG : ∀ z0 z1 z2, φ (z0, z1, z2) → Tm ok (fun i => G i z0 z1 z2) ψ) : Tm ok (fun i => laws_toTerm.f (p i) a0_0 a0_1 a0_2 (G i)) ψ := by
  obtain ⟨⟨z0, z1, z2⟩, h1, h2⟩ := h
  exact (hG z0 z1 z2 h1).congr fun i hi => laws_toTerm.f_of (h2 (p i) (hp i hi)) _
theorem laws_toTerm.T {a0_0 : Int} {a0_1 : ByteArray} {a0_2 : List (List D)} (ga0_1 : a0_1.size ≤ lim) (ga0_2 : SlOk RS lim a0_2) : Tm Fuel (fun k => laws_toTerm.t k a0_0 a0_1 a0_2) (fun z => z.1 = a0_0 ∧ z.2.1 = a0_1 ∧ C.immRows z.2.2 = a0_2 ∧ True) := by
  unfold laws_toTerm.t laws_toTerm.g
  have hm := maxLen_eq
  have hlim : lim = 1048576 := rfl
  refine laws_toStringS.tm (fun i hi => hi) (laws_toStringS.T (by first | assumption | omega | (simp only [lim, maxLen_eq] at *; omega))) (fun y2 hy1 => ?_)
  try simp only [] at hy1
  obtain ⟨e3, _⟩ := hy1
  try simp only [e3]
  exact Tm.ret (by exact ⟨by first | rfl | assumption, by first | rfl | assumption, by first | rfl | assumption, trivial⟩)
theorem laws_toTermS.f_of {β : Type} {k : Nat} {a0 : List (List D)} {z0 : List (List C)} (h : laws_toTermS.t k a0 = some z0) (K : (List (List C)) → Option β) : laws_toTermS.f k a0 K = K z0 := by
  unfold laws_toTermS.f
  rw [h]
theorem laws_toTermS.tm {ι α : Type} {ok : ι → Prop} {ψ : α → Prop} {p : ι → Nat} (hp : ∀ i, ok i → big ≤ p i) {a0 : List (List D)} {φ : (List (List C)) → Prop} (h : Tm Fuel (fun k => laws_toTermS.t k a0) φ) {G : ι → (List (List C)) → Option α} (hG : ∀ z0, φ z0 → Tm ok (fun i => G i z0) ψ) : Tm ok (fun i => laws_toTermS.f (p i) a0 (G i)) ψ := by
  obtain ⟨z0, h1, h2⟩ := h
  exact (hG z0 h1).congr fun i hi => laws_toTermS.f_of (h2 (p i) (hp i hi)) _
theorem laws_toTermS.T {a0 : List (List D)} (ga0 : SlOk RISLSE lim a0) : Tm Fuel (fun k => laws_toTermS.t k a0) (fun z => C.immRows z = a0 ∧ True) := by
  unfold laws_toTermS.t laws_toTermS.g
  have hm := maxLen_eq
  have hlim : lim = 1048576 := rfl
  have hlen := ga0.1
  refine Tm.guard (by first | omega | (simp only [lim, maxLen_eq, most] at *; omega) | (simp only [lim, most] at *; refine ⟨?_, ?_, ?_, ?_⟩ <;> omega)) ?_
  refine Tm.loop (okk := Fuel) (p := fun k => k) (fun i hi => hi) (b := fun k => laws_toTermS.l0 k a0 (fun z0 => some z0)) (fun v => match v with | (i, u1) => (((a0.length : Int)) - i).toNat) (fun v => match v with | (i, u1) => 0 ≤ i ∧ i ≤ (a0.length : Int) ∧ Filled a0 ([.d (.int .i64 0), .d (.str (⟨#[]⟩ : ByteArray)), .own ([] : List (List C))] : List C) i u1) ?_ ?_ ?_
  · rintro ⟨i, u1⟩ hI
    try simp only [] at hI ⊢
    have : big = 2 ^ 100 := rfl
    have := ga0.1
    simp only [lim] at this
    omega
  · exact ⟨by omega, by simp, Filled.start _ _⟩
  · rintro ⟨i, u1⟩ hI L hL
    try simp only [] at hI
    obtain ⟨i0, i1, hF⟩ := hI
    have hFl := hF.len i1
    simp only [laws_toTermS.l0]
    refine Tm.ite (fun h1 => ?_) (fun h1 => ?_)
    · try simp only [decide_eq_true_eq, decide_eq_false_iff_not, Int.not_lt, Int.not_le, bne_iff_ne, ne_eq, bne_eq_false_iff_eq, Bool.not_eq_true', Bool.not_eq_false'] at h1
      refine Tm.atRow (by first | assumption | omega | (simp only [lim, maxLen_eq] at *; omega)) (by first | assumption | omega | (simp only [lim, maxLen_eq] at *; omega)) (fun x2 hx3 hm4 => ?_)
      obtain ⟨c5, c6, c7, rfl, g8, g9, g10, _⟩ := ga0.2 x2 hm4
      refine Tm.uncons ?_
      refine Tm.dInt ?_
      refine Tm.uncons ?_
      refine Tm.dStr ?_
      refine Tm.uncons ?_
      refine Tm.dSl ?_
      refine Tm.atEnd ?_
      refine laws_toTerm.tm (fun i hi => hi.1) (laws_toTerm.T (by first | assumption | omega | (simp only [lim, maxLen_eq] at *; omega)) (by first | assumption | omega | (simp only [lim, maxLen_eq] at *; omega))) (fun y12 y13 y14 hy11 => ?_)
      try simp only [] at hy11
      obtain ⟨rfl, rfl, e15, _⟩ := hy11
      try simp only [e15]
      refine Tm.guard (by first | omega | (simp only [lim, maxLen_eq, most] at *; omega) | (simp only [lim, most] at *; refine ⟨?_, ?_, ?_, ?_⟩ <;> omega)) ?_
      refine Tm.guard (by first | omega | (simp only [lim, maxLen_eq, most] at *; omega) | (simp only [lim, most] at *; refine ⟨?_, ?_, ?_, ?_⟩ <;> omega)) ?_
      try rw [wrap_i64 (x := i + 1) (by omega) (by omega)]
      refine hL (_, _) ⟨by omega, by omega, hF.next i0 hx3 rfl (by simp [C.immCells, C.imm, e15])⟩ (by (try simp only []); omega)
    · try simp only [decide_eq_true_eq, decide_eq_false_iff_not, Int.not_lt, Int.not_le, bne_iff_ne, ne_eq, bne_eq_false_iff_eq, Bool.not_eq_true', Bool.not_eq_false'] at h1
      exact Tm.ret (by exact ⟨hF.all (by omega), trivial⟩)
theorem laws_toWeigh.f_of {β : Type} {k : Nat} {a0_0 : ByteArray} {a0_1 : Int} {z0 : ByteArray} {z1 : Int} (h : laws_toWeigh.t k a0_0 a0_1 = some (z0, z1)) (K : ByteArray → Int → Option β) : laws_toWeigh.f k a0_0 a0_1 K = K z0 z1 := by
  unfold laws_toWeigh.f
  rw [h]
theorem laws_toWeigh.tm {ι α : Type} {ok : ι → Prop} {ψ : α → Prop} {p : ι → Nat} (hp : ∀ i, ok i → big ≤ p i) {a0_0 : ByteArray} {a0_1 : Int} {φ : ByteArray × Int → Prop} (h : Tm Fuel (fun k => laws_toWeigh.t k a0_0 a0_1) φ) {G : ι → ByteArray → Int → Option α} (hG : ∀ z0 z1, φ (z0, z1) → Tm ok (fun i => G i z0 z1) ψ) : Tm ok (fun i => laws_toWeigh.f (p i) a0_0 a0_1 (G i)) ψ := by
  obtain ⟨⟨z0, z1⟩, h1, h2⟩ := h
  exact (hG z0 z1 h1).congr fun i hi => laws_toWeigh.f_of (h2 (p i) (hp i hi)) _
theorem laws_toWeigh.T {a0_0 : ByteArray} {a0_1 : Int} (ga0_0 : a0_0.size ≤ lim) : Tm Fuel (fun k => laws_toWeigh.t k a0_0 a0_1) (fun z => z.1 = a0_0 ∧ z.2 = a0_1 ∧ True) := by
  unfold laws_toWeigh.t laws_toWeigh.g
  have hm := maxLen_eq
  have hlim : lim = 1048576 := rfl
  exact Tm.ret (by exact ⟨by first | rfl | assumption, by first | rfl | assumption, trivial⟩)
theorem laws_toWeighS.f_of {β : Type} {k : Nat} {a0 : List (List D)} {z0 : List (List C)} (h : laws_toWeighS.t k a0 = some z0) (K : (List (List C)) → Option β) : laws_toWeighS.f k a0 K = K z0 := by
  unfold laws_toWeighS.f
  rw [h]
theorem laws_toWeighS.tm {ι α : Type} {ok : ι → Prop} {ψ : α → Prop} {p : ι → Nat} (hp : ∀ i, ok i → big ≤ p i) {a0 : List (List D)} {φ : (List (List C)) → Prop} (h : Tm Fuel (fun k => laws_toWeighS.t k a0) φ) {G : ι → (List (List C)) → Option α} (hG : ∀ z0, φ z0 → Tm ok (fun i => G i z0) ψ) : Tm ok (fun i => laws_toWeighS.f (p i) a0 (G i)) ψ := by
  obtain ⟨z0, h1, h2⟩ := h
  exact (hG z0 h1).congr fun i hi => laws_toWeighS.f_of (h2 (p i) (hp i hi)) _
theorem laws_toWeighS.T {a0 : List (List D)} (ga0 : SlOk RSI lim a0) : Tm Fuel (fun k => laws_toWeighS.t k a0) (fun z => C.immRows z = a0 ∧ True) := by
  unfold laws_toWeighS.t laws_toWeighS.g
  have hm := maxLen_eq
  have hlim : lim = 1048576 := rfl
  have hlen := ga0.1
  refine Tm.guard (by first | omega | (simp only [lim, maxLen_eq, most] at *; omega) | (simp only [lim, most] at *; refine ⟨?_, ?_, ?_, ?_⟩ <;> omega)) ?_
  refine Tm.loop (okk := Fuel) (p := fun k => k) (fun i hi => hi) (b := fun k => laws_toWeighS.l0 k a0 (fun z0 => some z0)) (fun v => match v with | (i, u1) => (((a0.length : Int)) - i).toNat) (fun v => match v with | (i, u1) => 0 ≤ i ∧ i ≤ (a0.length : Int) ∧ Filled a0 ([.d (.str (⟨#[]⟩ : ByteArray)), .d (.int .i64 0)] : List C) i u1) ?_ ?_ ?_
  · rintro ⟨i, u1⟩ hI
    try simp only [] at hI ⊢
    have : big = 2 ^ 100 := rfl
    have := ga0.1
    simp only [lim] at this
    omega
  · exact ⟨by omega, by simp, Filled.start _ _⟩
  · rintro ⟨i, u1⟩ hI L hL
    try simp only [] at hI
    obtain ⟨i0, i1, hF⟩ := hI
    have hFl := hF.len i1
    simp only [laws_toWeighS.l0]
    refine Tm.ite (fun h1 => ?_) (fun h1 => ?_)
    · try simp only [decide_eq_true_eq, decide_eq_false_iff_not, Int.not_lt, Int.not_le, bne_iff_ne, ne_eq, bne_eq_false_iff_eq, Bool.not_eq_true', Bool.not_eq_false'] at h1
      refine Tm.atRow (by first | assumption | omega | (simp only [lim, maxLen_eq] at *; omega)) (by first | assumption | omega | (simp only [lim, maxLen_eq] at *; omega)) (fun x2 hx3 hm4 => ?_)
      obtain ⟨c5, c6, rfl, g7, g8, _⟩ := ga0.2 x2 hm4
      refine Tm.uncons ?_
      refine Tm.dStr ?_
      refine Tm.uncons ?_
      refine Tm.dInt ?_
      refine Tm.atEnd ?_
      refine laws_toWeigh.tm (fun i hi => hi.1) (laws_toWeigh.T (by first | assumption | omega | (simp only [lim, maxLen_eq] at *; omega))) (fun y10 y11 hy9 => ?_)
      try simp only [] at hy9
      obtain ⟨rfl, rfl, _⟩ := hy9
      refine Tm.guard (by first | omega | (simp only [lim, maxLen_eq, most] at *; omega) | (simp only [lim, most] at *; refine ⟨?_, ?_, ?_, ?_⟩ <;> omega)) ?_
      refine Tm.guard (by first | omega | (simp only [lim, maxLen_eq, most] at *; omega) | (simp only [lim, most] at *; refine ⟨?_, ?_, ?_, ?_⟩ <;> omega)) ?_
      try rw [wrap_i64 (x := i + 1) (by omega) (by omega)]
      refine hL (_, _) ⟨by omega, by omega, hF.next i0 hx3 rfl (by simp [C.immCells, C.imm])⟩ (by (try simp only []); omega)
    · try simp only [decide_eq_true_eq, decide_eq_false_iff_not, Int.not_lt, Int.not_le, bne_iff_ne, ne_eq, bne_eq_false_iff_eq, Bool.not_eq_true', Bool.not_eq_false'] at h1
      exact Tm.ret (by exact ⟨hF.all (by omega), trivial⟩)
theorem laws_toWant.f_of {β : Type} {k : Nat} {a0_0 : Int} {a0_1 : List (List D)} {a0_2 : List (List D)} {a0_3 : List (List D)} {z0 : Int} {z1 : List (List C)} {z2 : List (List C)} {z3 : List (List C)} (h : laws_toWant.t k a0_0 a0_1 a0_2 a0_3 = some (z0, z1, z2, z3)) (K : Int → (List (List C)) → (List (List C)) → (List (List C)) → Option β) : laws_toWant.f k a0_0 a0_1 a0_2 a0_3 K = K z0 z1 z2 z3 := by
  unfold laws_toWant.f
  rw [h]
theorem laws_toWant.tm {ι α : Type} {ok : ι → Prop} {ψ : α → Prop} {p : ι → Nat} (hp : ∀ i, ok i → big ≤ p i) {a0_0 : Int} {a0_1 : List (List D)} {a0_2 : List (List D)} {a0_3 : List (List D)} {φ : Int × (List (List C)) × (List (List C)) × (List (List C)) → Prop} (h : Tm Fuel (fun k => laws_toWant.t k a0_0 a0_1 a0_2 a0_3) φ) {G : ι → Int → (List (List C)) → (List (List C)) → (List (List C)) → Option α} (hG : ∀ z0 z1 z2 z3, φ (z0, z1, z2, z3) → Tm ok (fun i => G i z0 z1 z2 z3) ψ) : Tm ok (fun i => laws_toWant.f (p i) a0_0 a0_1 a0_2 a0_3 (G i)) ψ := by
  obtain ⟨⟨z0, z1, z2, z3⟩, h1, h2⟩ := h
  exact (hG z0 z1 z2 z3 h1).congr fun i hi => laws_toWant.f_of (h2 (p i) (hp i hi)) _
theorem laws_toWant.T {a0_0 : Int} {a0_1 : List (List D)} {a0_2 : List (List D)} {a0_3 : List (List D)} (ga0_1 : SlOk RISLSE lim a0_1) (ga0_2 : SlOk RS lim a0_2) (ga0_3 : SlOk RSI lim a0_3) : Tm Fuel (fun k => laws_toWant.t k a0_0 a0_1 a0_2 a0_3) (fun z => z.1 = a0_0 ∧ C.immRows z.2.1 = a0_1 ∧ C.immRows z.2.2.1 = a0_2 ∧ C.immRows z.2.2.2 = a0_3 ∧ True) := by
  unfold laws_toWant.t laws_toWant.g
  have hm := maxLen_eq
  have hlim : lim = 1048576 := rfl
  refine laws_toTermS.tm (fun i hi => hi) (laws_toTermS.T (by first | assumption | omega | (simp only [lim, maxLen_eq] at *; omega))) (fun y2 hy1 => ?_)
  try simp only [] at hy1
  obtain ⟨e3, _⟩ := hy1
  try simp only [e3]
  refine laws_toStringS.tm (fun i hi => hi) (laws_toStringS.T (by first | assumption | omega | (simp only [lim, maxLen_eq] at *; omega))) (fun y5 hy4 => ?_)
  try simp only [] at hy4
  obtain ⟨e6, _⟩ := hy4
  try simp only [e6]
  refine laws_toWeighS.tm (fun i hi => hi) (laws_toWeighS.T (by first | assumption | omega | (simp only [lim, maxLen_eq] at *; omega))) (fun y8 hy7 => ?_)
  try simp only [] at hy7
  obtain ⟨e9, _⟩ := hy7
  try simp only [e9]
  exact Tm.ret (by exact ⟨by first | rfl | assumption, by first | rfl | assumption, by first | rfl | assumption, by first | rfl | assumption, trivial⟩)
theorem spec_WeightOf.f_of {β : Type} {k : Nat} {a0_0 : Int} {a0_1 : List (List D)} {a0_2 : List (List D)} {a0_3 : List (List D)} {a1 : ByteArray} {z0 : Int} (h : spec_WeightOf.t k a0_0 a0_1 a0_2 a0_3 a1 = some z0) (K : Int → Option β) : spec_WeightOf.f k a0_0 a0_1 a0_2 a0_3 a1 K = K z0 := by
  unfold spec_WeightOf.f
  rw [h]
theorem spec_WeightOf.tm {ι α : Type} {ok : ι → Prop} {ψ : α → Prop} {p : ι → Nat} (hp : ∀ i, ok i → big ≤ p i) {a0_0 : Int} {a0_1 : List (List D)} {a0_2 : List (List D)} {a0_3 : List (List D)} {a1 : ByteArray} {φ : Int → Prop} (h : Tm Fuel (fun k => spec_WeightOf.t k a0_0 a0_1 a0_2 a0_3 a1) φ) {G : ι → Int → Option α} (hG : ∀ z0, φ z0 → Tm ok (fun i => G i z0) ψ) : Tm ok (fun i => spec_WeightOf.f (p i) a0_0 a0_1 a0_2 a0_3 a1 (G i)) ψ := by
  obtain ⟨z0, h1, h2⟩ := h
  exact (hG z0 h1).congr fun i hi => spec_WeightOf.f_of (h2 (p i) (hp i hi)) _
theorem spec_WeightOf.T {a0_0 : Int} {a0_1 : List (List D)} {a0_2 : List (List D)} {a0_3 : List (List D)} {a1 : ByteArray} (ga0_1 : SlOk RISLSE lim a0_1) (ga0_2 : SlOk RS lim a0_2) (ga0_3 : SlOk RSI lim a0_3) (ga1 : a1.size ≤ lim) : Tm Fuel (fun k => spec_WeightOf.t k a0_0 a0_1 a0_2 a0_3 a1) (fun _ => True) := by
  unfold spec_WeightOf.t spec_WeightOf.g
  have hm := maxLen_eq
  have hlim : lim = 1048576 := rfl
  have la0_1 := ga0_1.1
  have la0_2 := ga0_2.1
  have la0_3 := ga0_3.1
  refine Tm.loop (okk := Fuel) (p := fun k => k) (fun i hi => hi) (b := fun k => spec_WeightOf.l0 k a1 a0_0 a0_1 a0_2 a0_3 (fun z0 => some z0)) (fun i => (((a0_3.length : Int)) - i).toNat) (fun i => 0 ≤ i ∧ i ≤ (a0_3.length : Int)) ?_ ?_ ?_
  · rintro i hI
    try simp only [] at hI ⊢
    have : big = 2 ^ 100 := rfl
    omega
  · ((try simp only []); omega)
  · rintro i hI L hL
    try simp only [] at hI
    obtain ⟨i0, i1⟩ := hI
    simp only [spec_WeightOf.l0]
    refine Tm.ite (fun h1 => ?_) (fun h1 => ?_)
    · try simp only [decide_eq_true_eq, decide_eq_false_iff_not, Int.not_lt, Int.not_le, bne_iff_ne, ne_eq, bne_eq_false_iff_eq, Bool.not_eq_true', Bool.not_eq_false'] at h1
      refine Tm.atRow (by first | assumption | omega | (simp only [lim, maxLen_eq] at *; omega)) (by first | assumption | omega | (simp only [lim, maxLen_eq] at *; omega)) (fun x2 hx3 hm4 => ?_)
      obtain ⟨c5, c6, rfl, g7, g8, _⟩ := ga0_3.2 x2 hm4
      refine Tm.uncons ?_
      refine Tm.dStr ?_
      refine Tm.uncons ?_
      refine Tm.dInt ?_
      refine Tm.atEnd ?_
      refine Tm.ite (fun h9 => ?_) (fun h9 => ?_)
      · try simp only [decide_eq_true_eq, decide_eq_false_iff_not, Int.not_lt, Int.not_le, bne_iff_ne, ne_eq, bne_eq_false_iff_eq, Bool.not_eq_true', Bool.not_eq_false'] at h9
        refine Tm.atRow (by first | assumption | omega | (simp only [lim, maxLen_eq] at *; omega)) (by first | assumption | omega | (simp only [lim, maxLen_eq] at *; omega)) (fun x10 hx11 hm12 => ?_)
        rw [hx3] at hx11
        injection hx11 with hx11
        subst hx11
        refine Tm.uncons ?_
        refine Tm.dStr ?_
        refine Tm.uncons ?_
        refine Tm.dInt ?_
        refine Tm.atEnd ?_
        exact Tm.ret (by trivial)
      · try simp only [decide_eq_true_eq, decide_eq_false_iff_not, Int.not_lt, Int.not_le, bne_iff_ne, ne_eq, bne_eq_false_iff_eq, Bool.not_eq_true', Bool.not_eq_false'] at h9
        try rw [wrap_i64 (x := i + 1) (by omega) (by omega)]
        exact hL ((i + 1)) (by (try simp only []); omega) (by (try simp only []); omega)
    · try simp only [decide_eq_true_eq, decide_eq_false_iff_not, Int.not_lt, Int.not_le, bne_iff_ne, ne_eq, bne_eq_false_iff_eq, Bool.not_eq_true', Bool.not_eq_false'] at h1
      exact Tm.ret (by trivial)
theorem impl_WeightOf.f_of {β : Type} {k : Nat} {a0_0 : Int} {a0_1 : List (List D)} {a0_2 : List (List D)} {a0_3 : List (List D)} {a1 : ByteArray} {z0 : Int} (h : impl_WeightOf.t k a0_0 a0_1 a0_2 a0_3 a1 = some z0) (K : Int → Option β) : impl_WeightOf.f k a0_0 a0_1 a0_2 a0_3 a1 K = K z0 := by
  unfold impl_WeightOf.f
  rw [h]
theorem impl_WeightOf.tm {ι α : Type} {ok : ι → Prop} {ψ : α → Prop} {p : ι → Nat} (hp : ∀ i, ok i → big ≤ p i) {a0_0 : Int} {a0_1 : List (List D)} {a0_2 : List (List D)} {a0_3 : List (List D)} {a1 : ByteArray} {φ : Int → Prop} (h : Tm Fuel (fun k => impl_WeightOf.t k a0_0 a0_1 a0_2 a0_3 a1) φ) {G : ι → Int → Option α} (hG : ∀ z0, φ z0 → Tm ok (fun i => G i z0) ψ) : Tm ok (fun i => impl_WeightOf.f (p i) a0_0 a0_1 a0_2 a0_3 a1 (G i)) ψ := by
  obtain ⟨z0, h1, h2⟩ := h
  exact (hG z0 h1).congr fun i hi => impl_WeightOf.f_of (h2 (p i) (hp i hi)) _
theorem laws_eqStringS.f_of {β : Type} {k : Nat} {a0 : List (List D)} {a1 : List (List D)} {z0 : Bool} (h : laws_eqStringS.t k a0 a1 = some z0) (K : Bool → Option β) : laws_eqStringS.f k a0 a1 K = K z0 := by
  unfold laws_eqStringS.f
  rw [h]
theorem laws_eqStringS.tm {ι α : Type} {ok : ι → Prop} {ψ : α → Prop} {p : ι → Nat} (hp : ∀ i, ok i → big ≤ p i) {a0 : List (List D)} {a1 : List (List D)} {φ : Bool → Prop} (h : Tm Fuel (fun k => laws_eqStringS.t k a0 a1) φ) {G : ι → Bool → Option α} (hG : ∀ z0, φ z0 → Tm ok (fun i => G i z0) ψ) : Tm ok (fun i => laws_eqStringS.f (p i) a0 a1 (G i)) ψ := by
  obtain ⟨z0, h1, h2⟩ := h
  exact (hG z0 h1).congr fun i hi => laws_eqStringS.f_of (h2 (p i) (hp i hi)) _
theorem laws_eqStringS.T {a0 : List (List D)} (ga0 : SlOk RS lim a0) : Tm Fuel (fun k => laws_eqStringS.t k a0 a0) (fun r => r = true) := by
  unfold laws_eqStringS.t laws_eqStringS.g
  have hm := maxLen_eq
  have hlim : lim = 1048576 := rfl
  have hlen := ga0.1
  refine Tm.ite (fun h1 => ?_) (fun h1 => ?_)
  · try simp only [decide_eq_true_eq, decide_eq_false_iff_not, Int.not_lt, Int.not_le, bne_iff_ne, ne_eq, bne_eq_false_iff_eq, Bool.not_eq_true', Bool.not_eq_false'] at h1
    exact Tm.ret (by first | rfl | (exfalso; simp [strEq_self] at *))
  · try simp only [decide_eq_true_eq, decide_eq_false_iff_not, Int.not_lt, Int.not_le, bne_iff_ne, ne_eq, bne_eq_false_iff_eq, Bool.not_eq_true', Bool.not_eq_false'] at h1
    refine Tm.loop (okk := Fuel) (p := fun k => k) (fun i hi => hi) (b := fun k => laws_eqStringS.l0 k a0 a0 (fun z0 => some z0)) (fun i => (((a0.length : Int)) - i).toNat) (fun i => 0 ≤ i ∧ i ≤ (a0.length : Int)) ?_ ?_ ?_
    · rintro i hI
      try simp only [] at hI ⊢
      have : big = 2 ^ 100 := rfl
      have := ga0.1
      simp only [lim] at this
      omega
    · ((try simp only []); omega)
    · rintro i hI L hL
      try simp only [] at hI
      obtain ⟨i0, i1⟩ := hI
      simp only [laws_eqStringS.l0]
      refine Tm.ite (fun h2 => ?_) (fun h2 => ?_)
      · try simp only [decide_eq_true_eq, decide_eq_false_iff_not, Int.not_lt, Int.not_le, bne_iff_ne, ne_eq, bne_eq_false_iff_eq, Bool.not_eq_true', Bool.not_eq_false'] at h2
        refine Tm.atRow (by first | assumption | omega | (simp only [lim, maxLen_eq] at *; omega)) (by first | assumption | omega | (simp only [lim, maxLen_eq] at *; omega)) (fun x3 hx4 hm5 => ?_)
        obtain ⟨c6, rfl, g7, _⟩ := ga0.2 x3 hm5
        refine Tm.uncons ?_
        refine Tm.dStr ?_
        refine Tm.atEnd ?_
        refine Tm.atRow (by first | assumption | omega | (simp only [lim, maxLen_eq] at *; omega)) (by first | assumption | omega | (simp only [lim, maxLen_eq] at *; omega)) (fun x8 hx9 hm10 => ?_)
        rw [hx4] at hx9
        injection hx9 with hx9
        subst hx9
        refine Tm.uncons ?_
        refine Tm.dStr ?_
        refine Tm.atEnd ?_
        refine Tm.ite (fun h12 => ?_) (fun h12 => ?_)
        · try simp only [decide_eq_true_eq, decide_eq_false_iff_not, Int.not_lt, Int.not_le, bne_iff_ne, ne_eq, bne_eq_false_iff_eq, Bool.not_eq_true', Bool.not_eq_false'] at h12
          exact Tm.ret (by first | rfl | (exfalso; simp [strEq_self] at *))
        · try simp only [decide_eq_true_eq, decide_eq_false_iff_not, Int.not_lt, Int.not_le, bne_iff_ne, ne_eq, bne_eq_false_iff_eq, Bool.not_eq_true', Bool.not_eq_false'] at h12
          try rw [wrap_i64 (x := i + 1) (by omega) (by omega)]
          exact hL ((i + 1)) (by (try simp only []); omega) (by (try simp only []); omega)
      · try simp only [decide_eq_true_eq, decide_eq_false_iff_not, Int.not_lt, Int.not_le, bne_iff_ne, ne_eq, bne_eq_false_iff_eq, Bool.not_eq_true', Bool.not_eq_false'] at h2
        exact Tm.ret (by first | rfl | (exfalso; simp [strEq_self] at *))
theorem laws_eqTerm.f_of {β : Type} {k : Nat} {a0_0 : Int} {a0_1 : ByteArray} {a0_2 : List (List D)} {a1_0 : Int} {a1_1 : ByteArray} {a1_2 : List (List D)} {z0 : Bool} (h : laws_eqTerm.t k a0_0 a0_1 a0_2 a1_0 a1_1 a1_2 = some z0) (K : Bool → Option β) : laws_eqTerm.f k a0_0 a0_1 a0_2 a1_0 a1_1 a1_2 K = K z0 := by
  unfold laws_eqTerm.f
  rw [h]
theorem laws_eqTerm.tm {ι α : Type} {ok : ι → Prop} {ψ : α → Prop} {p : ι → Nat} (hp : ∀ i, ok i → big ≤ p i) {a0_0 : Int} {a0_1 : ByteArray} {a0_2 : List (List D)} {a1_0 : Int} {a1_1 : ByteArray} {a1_2 : List (List D)} {φ : Bool → Prop} (h : Tm Fuel (fun k => laws_eqTerm.t k a0_0 a0_1 a0_2 a1_0 a1_1 a1_2) φ) {G : ι → Bool → Option α} (hG : ∀ z0, φ z0 → Tm ok (fun i => G i z0) ψ) : Tm ok (fun i => laws_eqTerm.f (p i) a0_0 a0_1 a0_2 a1_0 a1_1 a1_2 (G i)) ψ := by
  obtain ⟨z0, h1, h2⟩ := h
  exact (hG z0 h1).congr fun i hi => laws_eqTerm.f_of (h2 (p i) (hp i hi)) _
theorem laws_eqTerm.T {a0_0 : Int} {a0_1 : ByteArray} {a0_2 : List (List D)} (ga0_1 : a0_1.size ≤ lim) (ga0_2 : SlOk RS lim a0_2) : Tm Fuel (fun k => laws_eqTerm.t k a0_0 a0_1 a0_2 a0_0 a0_1 a0_2) (fun r => r = true) := by
  unfold laws_eqTerm.t laws_eqTerm.g
  have hm := maxLen_eq
  have hlim : lim = 1048576 := rfl
  refine Tm.ite (fun h1 => ?_) (fun h1 => ?_)
  · try simp only [decide_eq_true_eq, decide_eq_false_iff_not, Int.not_lt, Int.not_le, bne_iff_ne, ne_eq, bne_eq_false_iff_eq, Bool.not_eq_true', Bool.not_eq_false'] at h1
    exact Tm.ret (by first | rfl | (exfalso; simp [strEq_self] at *))
  · try simp only [decide_eq_true_eq, decide_eq_false_iff_not, Int.not_lt, Int.not_le, bne_iff_ne, ne_eq, bne_eq_false_iff_eq, Bool.not_eq_true', Bool.not_eq_false'] at h1
    refine Tm.ite (fun h2 => ?_) (fun h2 => ?_)
    · try simp only [decide_eq_true_eq, decide_eq_false_iff_not, Int.not_lt, Int.not_le, bne_iff_ne, ne_eq, bne_eq_false_iff_eq, Bool.not_eq_true', Bool.not_eq_false'] at h2
      exact Tm.ret (by first | rfl | (exfalso; simp [strEq_self] at *))
    · try simp only [decide_eq_true_eq, decide_eq_false_iff_not, Int.not_lt, Int.not_le, bne_iff_ne, ne_eq, bne_eq_false_iff_eq, Bool.not_eq_true', Bool.not_eq_false'] at h2
      refine laws_eqStringS.tm (fun i hi => hi) (laws_eqStringS.T (by first | assumption | omega | (simp only [lim, maxLen_eq] at *; omega))) (fun y4 hy3 => ?_)
      subst hy3
      refine Tm.ite (fun h5 => ?_) (fun h5 => ?_)
      · try simp only [decide_eq_true_eq, decide_eq_false_iff_not, Int.not_lt, Int.not_le, bne_iff_ne, ne_eq, bne_eq_false_iff_eq, Bool.not_eq_true', Bool.not_eq_false'] at h5
        exact Tm.ret (by first | rfl | (exfalso; simp [strEq_self] at *))
      · try simp only [decide_eq_true_eq, decide_eq_false_iff_not, Int.not_lt, Int.not_le, bne_iff_ne, ne_eq, bne_eq_false_iff_eq, Bool.not_eq_true', Bool.not_eq_false'] at h5
        exact Tm.ret (by first | rfl | (exfalso; simp [strEq_self] at *))
theorem laws_eqTermS.f_of {β : Type} {k : Nat} {a0 : List (List D)} {a1 : List (List D)} {z0 : Bool} (h : laws_eqTermS.t k a0 a1 = some z0) (K : Bool → Option β) : laws_eqTermS.f k a0 a1 K = K z0 := by
  unfold laws_eqTermS.f
  rw [h]
theorem laws_eqTermS.tm {ι α : Type} {ok : ι → Prop} {ψ : α → Prop} {p : ι → Nat} (hp : ∀ i, ok i → big ≤ p i) {a0 : List (List D)} {a1 : List (List D)} {φ : Bool → Prop} (h : Tm Fuel (fun k => laws_eqTermS.t k a0 a1) φ) {G : ι → Bool → Option α} (hG : ∀ z0, φ z0 → Tm ok (fun i => G i z0) ψ) : Tm ok (fun i => laws_eqTermS.f (p i) a0 a1 (G i)) ψ := by
  obtain ⟨z0, h1, h2⟩ := h
  exact (hG z0 h1).congr fun i hi => laws_eqTermS.f_of (h2 (p i) (hp i hi)) _
theorem laws_eqTermS.T {a0 : List (List D)} (ga0 : SlOk RISLSE lim a0) : Tm Fuel (fun k => laws_eqTermS.t k a0 a0) (fun r => r = true) := by
  unfold laws_eqTermS.t laws_eqTermS.g
  have hm := maxLen_eq
  have hlim : lim = 1048576 := rfl
  have hlen := ga0.1
  refine Tm.ite (fun h1 => ?_) (fun h1 => ?_)
  · try simp only [decide_eq_true_eq, decide_eq_false_iff_not, Int.not_lt, Int.not_le, bne_iff_ne, ne_eq, bne_eq_false_iff_eq, Bool.not_eq_true', Bool.not_eq_false'] at h1
    exact Tm.ret (by first | rfl | (exfalso; simp [strEq_self] at *))
  · try simp only [decide_eq_true_eq, decide_eq_false_iff_not, Int.not_lt, Int.not_le, bne_iff_ne, ne_eq, bne_eq_false_iff_eq, Bool.not_eq_true', Bool.not_eq_false'] at h1
    refine Tm.loop (okk := Fuel) (p := fun k => k) (fun i hi => hi) (b := fun k => laws_eqTermS.l0 k a0 a0 (fun z0 => some z0)) (fun i => (((a0.length : Int)) - i).toNat) (fun i => 0 ≤ i ∧ i ≤ (a0.length : Int)) ?_ ?_ ?_
    · rintro i hI
      try simp only [] at hI ⊢
      have : big = 2 ^ 100 := rfl
      have := ga0.1
      simp only [lim] at this
      omega
    · ((try simp only []); omega)
    · rintro i hI L hL
      try simp only [] at hI
      obtain ⟨i0, i1⟩ := hI
      simp only [laws_eqTermS.l0]
      refine Tm.ite (fun h2 => ?_) (fun h2 => ?_)
      · try simp only [decide_eq_true_eq, decide_eq_false_iff_not, Int.not_lt, Int.not_le, bne_iff_ne, ne_eq, bne_eq_false_iff_eq, Bool.not_eq_true', Bool.not_eq_false'] at h2
        refine Tm.atRow (by first | assumption | omega | (simp only [lim, maxLen_eq] at *; omega)) (by first | assumption | omega | (simp only [lim, maxLen_eq] at *; omega)) (fun x3 hx4 hm5 => ?_)
        obtain ⟨c6, c7, c8, rfl, g9, g10, g11, _⟩ := ga0.2 x3 hm5
        refine Tm.uncons ?_
        refine Tm.dInt ?_
        refine Tm.uncons ?_
        refine Tm.dStr ?_
        refine Tm.uncons ?_
        refine Tm.dSl ?_
        refine Tm.atEnd ?_
        refine Tm.atRow (by first | assumption | omega | (simp only [lim, maxLen_eq] at *; omega)) (by first | assumption | omega | (simp only [lim, maxLen_eq] at *; omega)) (fun x12 hx13 hm14 => ?_)
        rw [hx4] at hx13
        injection hx13 with hx13
        subst hx13
        refine Tm.uncons ?_
        refine Tm.dInt ?_
        refine Tm.uncons ?_
        refine Tm.dStr ?_
        refine Tm.uncons ?_
        refine Tm.dSl ?_
        refine Tm.atEnd ?_
        refine laws_eqTerm.tm (fun i hi => hi.1) (laws_eqTerm.T (by first | assumption | omega | (simp only [lim, maxLen_eq] at *; omega)) (by first | assumption | omega | (simp only [lim, maxLen_eq] at *; omega))) (fun y19 hy18 => ?_)
        subst hy18
        refine Tm.ite (fun h20 => ?_) (fun h20 => ?_)
        · try simp only [decide_eq_true_eq, decide_eq_false_iff_not, Int.not_lt, Int.not_le, bne_iff_ne, ne_eq, bne_eq_false_iff_eq, Bool.not_eq_true', Bool.not_eq_false'] at h20
          exact Tm.ret (by first | rfl | (exfalso; simp [strEq_self] at *))
        · try simp only [decide_eq_true_eq, decide_eq_false_iff_not, Int.not_lt, Int.not_le, bne_iff_ne, ne_eq, bne_eq_false_iff_eq, Bool.not_eq_true', Bool.not_eq_false'] at h20
          try rw [wrap_i64 (x := i + 1) (by omega) (by omega)]
          exact hL ((i + 1)) (by (try simp only []); omega) (by (try simp only []); omega)
      · try simp only [decide_eq_true_eq, decide_eq_false_iff_not, Int.not_lt, Int.not_le, bne_iff_ne, ne_eq, bne_eq_false_iff_eq, Bool.not_eq_true', Bool.not_eq_false'] at h2
        exact Tm.ret (by first | rfl | (exfalso; simp [strEq_self] at *))
theorem laws_eqWeigh.f_of {β : Type} {k : Nat} {a0_0 : ByteArray} {a0_1 : Int} {a1_0 : ByteArray} {a1_1 : Int} {z0 : Bool} (h : laws_eqWeigh.t k a0_0 a0_1 a1_0 a1_1 = some z0) (K : Bool → Option β) : laws_eqWeigh.f k a0_0 a0_1 a1_0 a1_1 K = K z0 := by
  unfold laws_eqWeigh.f
  rw [h]
theorem laws_eqWeigh.tm {ι α : Type} {ok : ι → Prop} {ψ : α → Prop} {p : ι → Nat} (hp : ∀ i, ok i → big ≤ p i) {a0_0 : ByteArray} {a0_1 : Int} {a1_0 : ByteArray} {a1_1 : Int} {φ : Bool → Prop} (h : Tm Fuel (fun k => laws_eqWeigh.t k a0_0 a0_1 a1_0 a1_1) φ) {G : ι → Bool → Option α} (hG : ∀ z0, φ z0 → Tm ok (fun i => G i z0) ψ) : Tm ok (fun i => laws_eqWeigh.f (p i) a0_0 a0_1 a1_0 a1_1 (G i)) ψ := by
  obtain ⟨z0, h1, h2⟩ := h
  exact (hG z0 h1).congr fun i hi => laws_eqWeigh.f_of (h2 (p i) (hp i hi)) _
theorem laws_eqWeigh.T {a0_0 : ByteArray} {a0_1 : Int} (ga0_0 : a0_0.size ≤ lim) : Tm Fuel (fun k => laws_eqWeigh.t k a0_0 a0_1 a0_0 a0_1) (fun r => r = true) := by
  unfold laws_eqWeigh.t laws_eqWeigh.g
  have hm := maxLen_eq
  have hlim : lim = 1048576 := rfl
  refine Tm.ite (fun h1 => ?_) (fun h1 => ?_)
  · try simp only [decide_eq_true_eq, decide_eq_false_iff_not, Int.not_lt, Int.not_le, bne_iff_ne, ne_eq, bne_eq_false_iff_eq, Bool.not_eq_true', Bool.not_eq_false'] at h1
    exact Tm.ret (by first | rfl | (exfalso; simp [strEq_self] at *))
  · try simp only [decide_eq_true_eq, decide_eq_false_iff_not, Int.not_lt, Int.not_le, bne_iff_ne, ne_eq, bne_eq_false_iff_eq, Bool.not_eq_true', Bool.not_eq_false'] at h1
    refine Tm.ite (fun h2 => ?_) (fun h2 => ?_)
    · try simp only [decide_eq_true_eq, decide_eq_false_iff_not, Int.not_lt, Int.not_le, bne_iff_ne, ne_eq, bne_eq_false_iff_eq, Bool.not_eq_true', Bool.not_eq_false'] at h2
      exact Tm.ret (by first | rfl | (exfalso; simp [strEq_self] at *))
    · try simp only [decide_eq_true_eq, decide_eq_false_iff_not, Int.not_lt, Int.not_le, bne_iff_ne, ne_eq, bne_eq_false_iff_eq, Bool.not_eq_true', Bool.not_eq_false'] at h2
      exact Tm.ret (by first | rfl | (exfalso; simp [strEq_self] at *))
theorem laws_eqWeighS.f_of {β : Type} {k : Nat} {a0 : List (List D)} {a1 : List (List D)} {z0 : Bool} (h : laws_eqWeighS.t k a0 a1 = some z0) (K : Bool → Option β) : laws_eqWeighS.f k a0 a1 K = K z0 := by
  unfold laws_eqWeighS.f
  rw [h]
theorem laws_eqWeighS.tm {ι α : Type} {ok : ι → Prop} {ψ : α → Prop} {p : ι → Nat} (hp : ∀ i, ok i → big ≤ p i) {a0 : List (List D)} {a1 : List (List D)} {φ : Bool → Prop} (h : Tm Fuel (fun k => laws_eqWeighS.t k a0 a1) φ) {G : ι → Bool → Option α} (hG : ∀ z0, φ z0 → Tm ok (fun i => G i z0) ψ) : Tm ok (fun i => laws_eqWeighS.f (p i) a0 a1 (G i)) ψ := by
  obtain ⟨z0, h1, h2⟩ := h
  exact (hG z0 h1).congr fun i hi => laws_eqWeighS.f_of (h2 (p i) (hp i hi)) _
theorem laws_eqWeighS.T {a0 : List (List D)} (ga0 : SlOk RSI lim a0) : Tm Fuel (fun k => laws_eqWeighS.t k a0 a0) (fun r => r = true) := by
  unfold laws_eqWeighS.t laws_eqWeighS.g
  have hm := maxLen_eq
  have hlim : lim = 1048576 := rfl
  have hlen := ga0.1
  refine Tm.ite (fun h1 => ?_) (fun h1 => ?_)
  · try simp only [decide_eq_true_eq, decide_eq_false_iff_not, Int.not_lt, Int.not_le, bne_iff_ne, ne_eq, bne_eq_false_iff_eq, Bool.not_eq_true', Bool.not_eq_false'] at h1
    exact Tm.ret (by first | rfl | (exfalso; simp [strEq_self] at *))
  · try simp only [decide_eq_true_eq, decide_eq_false_iff_not, Int.not_lt, Int.not_le, bne_iff_ne, ne_eq, bne_eq_false_iff_eq, Bool.not_eq_true', Bool.not_eq_false'] at h1
    refine Tm.loop (okk := Fuel) (p := fun k => k) (fun i hi => hi) (b := fun k => laws_eqWeighS.l0 k a0 a0 (fun z0 => some z0)) (fun i => (((a0.length : Int)) - i).toNat) (fun i => 0 ≤ i ∧ i ≤ (a0.length : Int)) ?_ ?_ ?_
    · rintro i hI
      try simp only [] at hI ⊢
      have : big = 2 ^ 100 := rfl
      have := ga0.1
      simp only [lim] at this
      omega
    · ((try simp only []); omega)
    · rintro i hI L hL
      try simp only [] at hI
      obtain ⟨i0, i1⟩ := hI
      simp only [laws_eqWeighS.l0]
      refine Tm.ite (fun h2 => ?_) (fun h2 => ?_)
      · try simp only [decide_eq_true_eq, decide_eq_false_iff_not, Int.not_lt, Int.not_le, bne_iff_ne, ne_eq, bne_eq_false_iff_eq, Bool.not_eq_true', Bool.not_eq_false'] at h2
        refine Tm.atRow (by first | assumption | omega | (simp only [lim, maxLen_eq] at *; omega)) (by first | assumption | omega | (simp only [lim, maxLen_eq] at *; omega)) (fun x3 hx4 hm5 => ?_)
        obtain ⟨c6, c7, rfl, g8, g9, _⟩ := ga0.2 x3 hm5
        refine Tm.uncons ?_
        refine Tm.dStr ?_
        refine Tm.uncons ?_
        refine Tm.dInt ?_
        refine Tm.atEnd ?_
        refine Tm.atRow (by first | assumption | omega | (simp only [lim, maxLen_eq] at *; omega)) (by first | assumption | omega | (simp only [lim, maxLen_eq] at *; omega)) (fun x10 hx11 hm12 => ?_)
        rw [hx4] at hx11
        injection hx11 with hx11
        subst hx11
        refine Tm.uncons ?_
        refine Tm.dStr ?_
        refine Tm.uncons ?_
        refine Tm.dInt ?_
        refine Tm.atEnd ?_
        refine laws_eqWeigh.tm (fun i hi => hi.1) (laws_eqWeigh.T (by first | assumption | omega | (simp only [lim, maxLen_eq] at *; omega))) (fun y16 hy15 => ?_)
        subst hy15
        refine Tm.ite (fun h17 => ?_) (fun h17 => ?_)
        · try simp only [decide_eq_true_eq, decide_eq_false_iff_not, Int.not_lt, Int.not_le, bne_iff_ne, ne_eq, bne_eq_false_iff_eq, Bool.not_eq_true', Bool.not_eq_false'] at h17
          exact Tm.ret (by first | rfl | (exfalso; simp [strEq_self] at *))
        · try simp only [decide_eq_true_eq, decide_eq_false_iff_not, Int.not_lt, Int.not_le, bne_iff_ne, ne_eq, bne_eq_false_iff_eq, Bool.not_eq_true', Bool.not_eq_false'] at h17
          try rw [wrap_i64 (x := i + 1) (by omega) (by omega)]
          exact hL ((i + 1)) (by (try simp only []); omega) (by (try simp only []); omega)
      · try simp only [decide_eq_true_eq, decide_eq_false_iff_not, Int.not_lt, Int.not_le, bne_iff_ne, ne_eq, bne_eq_false_iff_eq, Bool.not_eq_true', Bool.not_eq_false'] at h2
        exact Tm.ret (by first | rfl | (exfalso; simp [strEq_self] at *))
theorem laws_eqWant.f_of {β : Type} {k : Nat} {a0_0 : Int} {a0_1 : List (List D)} {a0_2 : List (List D)} {a0_3 : List (List D)} {a1_0 : Int} {a1_1 : List (List D)} {a1_2 : List (List D)} {a1_3 : List (List D)} {z0 : Bool} (h : laws_eqWant.t k a0_0 a0_1 a0_2 a0_3 a1_0 a1_1 a1_2 a1_3 = some z0) (K : Bool → Option β) : laws_eqWant.f k a0_0 a0_1 a0_2 a0_3 a1_0 a1_1 a1_2 a1_3 K = K z0 := by
  unfold laws_eqWant.f
  rw [h]
theorem laws_eqWant.tm {ι α : Type} {ok : ι → Prop} {ψ : α → Prop} {p : ι → Nat} (hp : ∀ i, ok i → big ≤ p i) {a0_0 : Int} {a0_1 : List (List D)} {a0_2 : List (List D)} {a0_3 : List (List D)} {a1_0 : Int} {a1_1 : List (List D)} {a1_2 : List (List D)} {a1_3 : List (List D)} {φ : Bool → Prop} (h : Tm Fuel (fun k => laws_eqWant.t k a0_0 a0_1 a0_2 a0_3 a1_0 a1_1 a1_2 a1_3) φ) {G : ι → Bool → Option α} (hG : ∀ z0, φ z0 → Tm ok (fun i => G i z0) ψ) : Tm ok (fun i => laws_eqWant.f (p i) a0_0 a0_1 a0_2 a0_3 a1_0 a1_1 a1_2 a1_3 (G i)) ψ := by
  obtain ⟨z0, h1, h2⟩ := h
  exact (hG z0 h1).congr fun i hi => laws_eqWant.f_of (h2 (p i) (hp i hi)) _
theorem laws_eqWant.T {a0_0 : Int} {a0_1 : List (List D)} {a0_2 : List (List D)} {a0_3 : List (List D)} (ga0_1 : SlOk RISLSE lim a0_1) (ga0_2 : SlOk RS lim a0_2) (ga0_3 : SlOk RSI lim a0_3) : Tm Fuel (fun k => laws_eqWant.t k a0_0 a0_1 a0_2 a0_3 a0_0 a0_1 a0_2 a0_3) (fun r => r = true) := by
  unfold laws_eqWant.t laws_eqWant.g
  have hm := maxLen_eq
  have hlim : lim = 1048576 := rfl
  refine Tm.ite (fun h1 => ?_) (fun h1 => ?_)
  · try simp only [decide_eq_true_eq, decide_eq_false_iff_not, Int.not_lt, Int.not_le, bne_iff_ne, ne_eq, bne_eq_false_iff_eq, Bool.not_eq_true', Bool.not_eq_false'] at h1
    exact Tm.ret (by first | rfl | (exfalso; simp [strEq_self] at *))
  · try simp only [decide_eq_true_eq, decide_eq_false_iff_not, Int.not_lt, Int.not_le, bne_iff_ne, ne_eq, bne_eq_false_iff_eq, Bool.not_eq_true', Bool.not_eq_false'] at h1
    refine laws_eqTermS.tm (fun i hi => hi) (laws_eqTermS.T (by first | assumption | omega | (simp only [lim, maxLen_eq] at *; omega))) (fun y3 hy2 => ?_)
    subst hy2
    refine Tm.ite (fun h4 => ?_) (fun h4 => ?_)
    · try simp only [decide_eq_true_eq, decide_eq_false_iff_not, Int.not_lt, Int.not_le, bne_iff_ne, ne_eq, bne_eq_false_iff_eq, Bool.not_eq_true', Bool.not_eq_false'] at h4
      exact Tm.ret (by first | rfl | (exfalso; simp [strEq_self] at *))
    · try simp only [decide_eq_true_eq, decide_eq_false_iff_not, Int.not_lt, Int.not_le, bne_iff_ne, ne_eq, bne_eq_false_iff_eq, Bool.not_eq_true', Bool.not_eq_false'] at h4
      refine laws_eqStringS.tm (fun i hi => hi) (laws_eqStringS.T (by first | assumption | omega | (simp only [lim, maxLen_eq] at *; omega))) (fun y6 hy5 => ?_)
      subst hy5
      refine Tm.ite (fun h7 => ?_) (fun h7 => ?_)
      · try simp only [decide_eq_true_eq, decide_eq_false_iff_not, Int.not_lt, Int.not_le, bne_iff_ne, ne_eq, bne_eq_false_iff_eq, Bool.not_eq_true', Bool.not_eq_false'] at h7
        exact Tm.ret (by first | rfl | (exfalso; simp [strEq_self] at *))
      · try simp only [decide_eq_true_eq, decide_eq_false_iff_not, Int.not_lt, Int.not_le, bne_iff_ne, ne_eq, bne_eq_false_iff_eq, Bool.not_eq_true', Bool.not_eq_false'] at h7
        refine laws_eqWeighS.tm (fun i hi => hi) (laws_eqWeighS.T (by first | assumption | omega | (simp only [lim, maxLen_eq] at *; omega))) (fun y9 hy8 => ?_)
        subst hy8
        refine Tm.ite (fun h10 => ?_) (fun h10 => ?_)
        · try simp only [decide_eq_true_eq, decide_eq_false_iff_not, Int.not_lt, Int.not_le, bne_iff_ne, ne_eq, bne_eq_false_iff_eq, Bool.not_eq_true', Bool.not_eq_false'] at h10
          exact Tm.ret (by first | rfl | (exfalso; simp [strEq_self] at *))
        · try simp only [decide_eq_true_eq, decide_eq_false_iff_not, Int.not_lt, Int.not_le, bne_iff_ne, ne_eq, bne_eq_false_iff_eq, Bool.not_eq_true', Bool.not_eq_false'] at h10
          exact Tm.ret (by first | rfl | (exfalso; simp [strEq_self] at *))
end Go.Proofs.Ytnlhhhkeigjnoaa
