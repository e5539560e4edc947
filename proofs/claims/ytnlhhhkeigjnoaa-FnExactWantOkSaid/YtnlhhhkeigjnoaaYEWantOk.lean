/- Printed: the functions that FnExactWantOk reaches come to their end. -/
import Derived.Test.YtnlhhhkeigjnoaaXEWantOk0
import Derived.KernelRfl
set_option linter.unusedVariables false
set_option linter.unusedSimpArgs false
namespace Go.Proofs.Ytnlhhhkeigjnoaa
open Go Go.T Go.Proofs
theorem laws_szStringS.f_of {β : Type} {k : Nat} {a0 : List (List D)} {a1 : Int} {z0 : Int} (h : laws_szStringS.t k a0 a1 = some z0) (K : Int → Option β) : laws_szStringS.f k a0 a1 K = K z0 := by
  unfold laws_szStringS.f
  rw [h]
theorem laws_szStringS.tm {ι α : Type} {ok : ι → Prop} {ψ : α → Prop} {p : ι → Nat} (hp : ∀ i, ok i → big ≤ p i) {a0 : List (List D)} {a1 : Int} {φ : Int → Prop} (h : Tm Fuel (fun k => laws_szStringS.t k a0 a1) φ) {G : ι → Int → Option α} (hG : ∀ z0, φ z0 → Tm ok (fun i => G i z0) ψ) : Tm ok (fun i => laws_szStringS.f (p i) a0 a1 (G i)) ψ := by
  obtain ⟨z0, h1, h2⟩ := h
  exact (hG z0 h1).congr fun i hi => laws_szStringS.f_of (h2 (p i) (hp i hi)) _
def RS (B : Nat) (r : List D) : Prop := ∃ (c0 : ByteArray), r = [.str c0] ∧ c0.size ≤ B ∧ True
theorem RS.get {B : Nat} {xs : List (List D)} (h : SlOk RS B xs) {v : Int} (h0 : 0 ≤ v) (h1 : v < xs.length) : gR xs v = [.str (gS xs v 0)] ∧ (gS xs v 0).size ≤ B ∧ True := by
  obtain ⟨c0, e, k0, _⟩ := h.2 (gR xs v) (gR_mem h0 h1)
  unfold gS
  rw [e]
  exact ⟨rfl, k0, trivial⟩
theorem RS.row {B : Nat} {xs : List (List D)} (h : SlOk RS B xs) {v : Int} (h0 : 0 ≤ v) (h1 : v < xs.length) {β : Type} (F : List D → Option β) : atRow xs v F = F [.str (gS xs v 0)] := by
  rw [← (RS.get h h0 h1).1]
  exact atRow_gR h0 h1 F
theorem laws_szStringS.T {a0 : List (List D)} {a1 : Int} (h0 : 0 ≤ a1) (h1 : a1 ≤ 1048576) (ga0 : SlOk RS maxLen a0) : Tm Fuel (fun k => laws_szStringS.t k a0 a1) (fun r => r < 0 ∨ 0 ≤ r ∧ r ≤ a1 ∧ SlOk RS lim a0 ∧ True) := by
  unfold laws_szStringS.t laws_szStringS.g
  have hm := maxLen_eq
  have hlim : lim = 1048576 := rfl
  have hlen := ga0.1
  try rw [wrap_i64 (x := a1 - (a0.length : Int)) (by omega) (by omega)]
  refine Tm.ite (fun h1 => ?_) (fun h1 => ?_)
  · try simp only [decide_eq_true_eq, decide_eq_false_iff_not, Int.not_lt, Int.not_le, bne_iff_ne, ne_eq, bne_eq_false_iff_eq, Bool.not_eq_true', Bool.not_eq_false'] at h1
    exact Tm.ret (by first | (left; omega) | (right; refine ⟨?_, ?_, ?_, trivial⟩ <;> first | assumption | omega))
  · try simp only [decide_eq_true_eq, decide_eq_false_iff_not, Int.not_lt, Int.not_le, bne_iff_ne, ne_eq, bne_eq_false_iff_eq, Bool.not_eq_true', Bool.not_eq_false'] at h1
    refine Tm.loop (okk := Fuel) (p := fun k => k) (fun i hi => hi) (b := fun k => laws_szStringS.l0 k a0 (fun z0 => some z0)) (fun v => match v with | (u0, i) => (((a0.length : Int)) - i).toNat) (fun v => match v with | (u0, i) => 0 ≤ u0 ∧ u0 ≤ a1 ∧ 0 ≤ i ∧ i ≤ (a0.length : Int) ∧ ∀ r ∈ a0.take i.toNat, RS lim r) ?_ ?_ ?_
    · rintro ⟨u0, i⟩ hI
      try simp only [] at hI ⊢
      have : big = 2 ^ 100 := rfl
      have := ga0.1
      omega
    · exact ⟨by omega, by omega, by omega, by simp, by simp⟩
    · rintro ⟨u0, i⟩ hI L hL
      try simp only [] at hI
      obtain ⟨u0a, u0b, i0, i1, hr⟩ := hI
      simp only [laws_szStringS.l0]
      refine Tm.ite (fun h2 => ?_) (fun h2 => ?_)
      · try simp only [decide_eq_true_eq, decide_eq_false_iff_not, Int.not_lt, Int.not_le, bne_iff_ne, ne_eq, bne_eq_false_iff_eq, Bool.not_eq_true', Bool.not_eq_false'] at h2
        refine Tm.atRow (by first | assumption | omega | (simp only [lim, maxLen_eq] at *; omega)) (by first | assumption | omega | (simp only [lim, maxLen_eq] at *; omega)) (fun x3 hx4 hm5 => ?_)
        obtain ⟨c6, rfl, g7, _⟩ := ga0.2 x3 hm5
        refine Tm.uncons ?_
        refine Tm.dStr ?_
        refine Tm.atEnd ?_
        try rw [wrap_i64 (x := u0 - (c6.size : Int)) (by omega) (by omega)]
        refine Tm.ite (fun h8 => ?_) (fun h8 => ?_)
        · try simp only [decide_eq_true_eq, decide_eq_false_iff_not, Int.not_lt, Int.not_le, bne_iff_ne, ne_eq, bne_eq_false_iff_eq, Bool.not_eq_true', Bool.not_eq_false'] at h8
          exact Tm.ret (by first | (left; omega) | exact .inr ⟨by omega, by omega, ⟨by simp only [lim]; omega, all_rows (by omega) hr⟩, trivial⟩)
        · try simp only [decide_eq_true_eq, decide_eq_false_iff_not, Int.not_lt, Int.not_le, bne_iff_ne, ne_eq, bne_eq_false_iff_eq, Bool.not_eq_true', Bool.not_eq_false'] at h8
          try rw [wrap_i64 (x := i + 1) (by omega) (by omega)]
          refine hL ((u0 - (c6.size : Int)), (i + 1)) ⟨by omega, by omega, by omega, by omega, take_rows i0 hx4 hr ⟨_, rfl, by first | assumption | omega, trivial⟩⟩ (by (try simp only []); omega)
      · try simp only [decide_eq_true_eq, decide_eq_false_iff_not, Int.not_lt, Int.not_le, bne_iff_ne, ne_eq, bne_eq_false_iff_eq, Bool.not_eq_true', Bool.not_eq_false'] at h2
        exact Tm.ret (by first | (left; omega) | exact .inr ⟨by omega, by omega, ⟨by simp only [lim]; omega, all_rows (by omega) hr⟩, trivial⟩)
theorem laws_szTerm.f_of {β : Type} {k : Nat} {a0_0 : Int} {a0_1 : ByteArray} {a0_2 : List (List D)} {a1 : Int} {z0 : Int} (h : laws_szTerm.t k a0_0 a0_1 a0_2 a1 = some z0) (K : Int → Option β) : laws_szTerm.f k a0_0 a0_1 a0_2 a1 K = K z0 := by
  unfold laws_szTerm.f
  rw [h]
theorem laws_szTerm.tm {ι α : Type} {ok : ι → Prop} {ψ : α → Prop} {p : ι → Nat} (hp : ∀ i, ok i → big ≤ p i) {a0_0 : Int} {a0_1 : ByteArray} {a0_2 : List (List D)} {a1 : Int} {φ : Int → Prop} (h : Tm Fuel (fun k => laws_szTerm.t k a0_0 a0_1 a0_2 a1) φ) {G : ι → Int → Option α} (hG : ∀ z0, φ z0 → Tm ok (fun i => G i z0) ψ) : Tm ok (fun i => laws_szTerm.f (p i) a0_0 a0_1 a0_2 a1 (G i)) ψ := by
  obtain ⟨z0, h1, h2⟩ := h
  exact (hG z0 h1).congr fun i hi => laws_szTerm.f_of (h2 (p i) (hp i hi)) _
theorem laws_szTerm.T {a0_0 : Int} {a0_1 : ByteArray} {a0_2 : List (List D)} {a1 : Int} (h0 : 0 ≤ a1) (h1 : a1 ≤ 1048576) (ga0_1 : a0_1.size ≤ maxLen) (ga0_2 : SlOk RS maxLen a0_2) : Tm Fuel (fun k => laws_szTerm.t k a0_0 a0_1 a0_2 a1) (fun r => r < 0 ∨ 0 ≤ r ∧ r ≤ a1 ∧ a0_1.size ≤ lim ∧ SlOk RS lim a0_2 ∧ True) := by
  unfold laws_szTerm.t laws_szTerm.g
  have hm := maxLen_eq
  have hlim : lim = 1048576 := rfl
  try rw [wrap_i64 (x := a1 - (a0_1.size : Int)) (by omega) (by omega)]
  refine Tm.ite (fun h1 => ?_) (fun h1 => ?_)
  · try simp only [decide_eq_true_eq, decide_eq_false_iff_not, Int.not_lt, Int.not_le, bne_iff_ne, ne_eq, bne_eq_false_iff_eq, Bool.not_eq_true', Bool.not_eq_false'] at h1
    exact Tm.ret (by first | (left; omega) | (right; refine ⟨?_, ?_, ?_, ?_, trivial⟩ <;> first | assumption | omega))
  · try simp only [decide_eq_true_eq, decide_eq_false_iff_not, Int.not_lt, Int.not_le, bne_iff_ne, ne_eq, bne_eq_false_iff_eq, Bool.not_eq_true', Bool.not_eq_false'] at h1
    refine laws_szStringS.tm (fun i hi => hi) (laws_szStringS.T (by first | assumption | omega | (simp only [lim, maxLen_eq] at *; omega)) (by first | assumption | omega | (simp only [lim, maxLen_eq] at *; omega)) (by first | assumption | omega | (simp only [lim, maxLen_eq] at *; omega))) (fun y3 hy2 => ?_)
    rcases hy2 with hy2 | ⟨p5, p6, q4, _⟩
    · exact Tm.ite (fun _ => Tm.ret (by left; omega)) (fun h => by simp at h; omega)
    refine Tm.ite (fun h7 => ?_) (fun h7 => ?_)
    · try simp only [decide_eq_true_eq, decide_eq_false_iff_not, Int.not_lt, Int.not_le, bne_iff_ne, ne_eq, bne_eq_false_iff_eq, Bool.not_eq_true', Bool.not_eq_false'] at h7
      exact Tm.ret (by first | (left; omega) | (right; refine ⟨?_, ?_, ?_, ?_, trivial⟩ <;> first | assumption | omega))
    · try simp only [decide_eq_true_eq, decide_eq_false_iff_not, Int.not_lt, Int.not_le, bne_iff_ne, ne_eq, bne_eq_false_iff_eq, Bool.not_eq_true', Bool.not_eq_false'] at h7
      exact Tm.ret (by first | (left; omega) | (right; refine ⟨?_, ?_, ?_, ?_, trivial⟩ <;> first | assumption | omega))
theorem laws_szTermS.f_of {β : Type} {k : Nat} {a0 : List (List D)} {a1 : Int} {z0 : Int} (h : laws_szTermS.t k a0 a1 = some z0) (K : Int → Option β) : laws_szTermS.f k a0 a1 K = K z0 := by
  unfold laws_szTermS.f
  rw [h]
theorem laws_szTermS.tm {ι α : Type} {ok : ι → Prop} {ψ : α → Prop} {p : ι → Nat} (hp : ∀ i, ok i → big ≤ p i) {a0 : List (List D)} {a1 : Int} {φ : Int → Prop} (h : Tm Fuel (fun k => laws_szTermS.t k a0 a1) φ) {G : ι → Int → Option α} (hG : ∀ z0, φ z0 → Tm ok (fun i => G i z0) ψ) : Tm ok (fun i => laws_szTermS.f (p i) a0 a1 (G i)) ψ := by
  obtain ⟨z0, h1, h2⟩ := h
  exact (hG z0 h1).congr fun i hi => laws_szTermS.f_of (h2 (p i) (hp i hi)) _
def RISLSE (B : Nat) (r : List D) : Prop := ∃ (c0 : Int) (c1 : ByteArray) (c2 : List (List D)), r = [.int .i64 c0, .str c1, .sl c2] ∧ (Lit.int .i64 c0).wf = true ∧ c1.size ≤ B ∧ SlOk RS B c2 ∧ True
theorem RISLSE.get {B : Nat} {xs : List (List D)} (h : SlOk RISLSE B xs) {v : Int} (h0 : 0 ≤ v) (h1 : v < xs.length) : gR xs v = [.int .i64 (gI xs v 0), .str (gS xs v 1), .sl (gL xs v 2)] ∧ (Lit.int .i64 (gI xs v 0)).wf = true ∧ (gS xs v 1).size ≤ B ∧ SlOk RS B (gL xs v 2) ∧ True := by
  obtain ⟨c0, c1, c2, e, k0, k1, k2, _⟩ := h.2 (gR xs v) (gR_mem h0 h1)
  unfold gI gL gS
  rw [e]
  exact ⟨rfl, k0, k1, k2, trivial⟩
theorem RISLSE.row {B : Nat} {xs : List (List D)} (h : SlOk RISLSE B xs) {v : Int} (h0 : 0 ≤ v) (h1 : v < xs.length) {β : Type} (F : List D → Option β) : atRow xs v F = F [.int .i64 (gI xs v 0), .str (gS xs v 1), .sl (gL xs v 2)] := by
  rw [← (RISLSE.get h h0 h1).1]
  exact atRow_gR h0 h1 F
theorem laws_szTermS.T {a0 : List (List D)} {a1 : Int} (h0 : 0 ≤ a1) (h1 : a1 ≤ 1048576) (ga0 : SlOk RISLSE maxLen a0) : Tm Fuel (fun k => laws_szTermS.t k a0 a1) (fun r => r < 0 ∨ 0 ≤ r ∧ r ≤ a1 ∧ SlOk RISLSE lim a0 ∧ True) := by
  unfold laws_szTermS.t laws_szTermS.g
  have hm := maxLen_eq
  have hlim : lim = 1048576 := rfl
  have hlen := ga0.1
  try rw [wrap_i64 (x := a1 - (a0.length : Int)) (by omega) (by omega)]
  refine Tm.ite (fun h1 => ?_) (fun h1 => ?_)
  · try simp only [decide_eq_true_eq, decide_eq_false_iff_not, Int.not_lt, Int.not_le, bne_iff_ne, ne_eq, bne_eq_false_iff_eq, Bool.not_eq_true', Bool.not_eq_false'] at h1
    exact Tm.ret (by first | (left; omega) | (right; refine ⟨?_, ?_, ?_, trivial⟩ <;> first | assumption | omega))
  · try simp only [decide_eq_true_eq, decide_eq_false_iff_not, Int.not_lt, Int.not_le, bne_iff_ne, ne_eq, bne_eq_false_iff_eq, Bool.not_eq_true', Bool.not_eq_false'] at h1
    refine Tm.loop (okk := Fuel) (p := fun k => k) (fun i hi => hi) (b := fun k => laws_szTermS.l0 k a0 (fun z0 => some z0)) (fun v => match v with | (u0, i) => (((a0.length : Int)) - i).toNat) (fun v => match v with | (u0, i) => 0 ≤ u0 ∧ u0 ≤ a1 ∧ 0 ≤ i ∧ i ≤ (a0.length : Int) ∧ ∀ r ∈ a0.take i.toNat, RISLSE lim r) ?_ ?_ ?_
    · rintro ⟨u0, i⟩ hI
      try simp only [] at hI ⊢
      have : big = 2 ^ 100 := rfl
      have := ga0.1
      omega
    · exact ⟨by omega, by omega, by omega, by simp, by simp⟩
    · rintro ⟨u0, i⟩ hI L hL
      try simp only [] at hI
      obtain ⟨u0a, u0b, i0, i1, hr⟩ := hI
      simp only [laws_szTermS.l0]
      refine Tm.ite (fun h2 => ?_) (fun h2 => ?_)
      · try simp only [decide_eq_true_eq, decide_eq_false_iff_not, Int.not_lt, Int.not_le, bne_iff_ne, ne_eq, bne_eq_false_iff_eq, Bool.not_eq_true', Bool.not_eq_false'] at h2
        refine Tm.atRow (by first | assumption | omega | (simp only [lim, maxLen_eq] at *; omega)) (by first | assumption | omega | (simp only [lim, maxLen_eq] at *; omega)) (fun x3 hx4 hm5 => ?_)
        obtain ⟨c6, c7, c8, rfl, g9, g10, g11, _⟩ := ga0.2 x3 hm5
        refine Tm.uncons ?_
        refine Tm.dInt ?_
        refine Tm.uncons ?_
        refine Tm.dStr ?_
        refine Tm.uncons ?_
        refine Tm.dSl ?_
        refine Tm.atEnd ?_
        refine laws_szTerm.tm (fun i hi => hi.1) (laws_szTerm.T (by first | assumption | omega | (simp only [lim, maxLen_eq] at *; omega)) (by first | assumption | omega | (simp only [lim, maxLen_eq] at *; omega)) (by first | assumption | omega | (simp only [lim, maxLen_eq] at *; omega)) (by first | assumption | omega | (simp only [lim, maxLen_eq] at *; omega))) (fun y13 hy12 => ?_)
        rcases hy12 with hy12 | ⟨p16, p17, q14, q15, _⟩
        · exact Tm.ite (fun _ => Tm.ret (by left; omega)) (fun h => by simp at h; omega)
        refine Tm.ite (fun h18 => ?_) (fun h18 => ?_)
        · try simp only [decide_eq_true_eq, decide_eq_false_iff_not, Int.not_lt, Int.not_le, bne_iff_ne, ne_eq, bne_eq_false_iff_eq, Bool.not_eq_true', Bool.not_eq_false'] at h18
          exact Tm.ret (by first | (left; omega) | exact .inr ⟨by omega, by omega, ⟨by simp only [lim]; omega, all_rows (by omega) hr⟩, trivial⟩)
        · try simp only [decide_eq_true_eq, decide_eq_false_iff_not, Int.not_lt, Int.not_le, bne_iff_ne, ne_eq, bne_eq_false_iff_eq, Bool.not_eq_true', Bool.not_eq_false'] at h18
          try rw [wrap_i64 (x := i + 1) (by omega) (by omega)]
          refine hL (y13, (i + 1)) ⟨by omega, by omega, by omega, by omega, take_rows i0 hx4 hr ⟨_, _, _, rfl, by first | assumption | omega, by first | assumption | omega, by first | assumption | omega, trivial⟩⟩ (by (try simp only []); omega)
      · try simp only [decide_eq_true_eq, decide_eq_false_iff_not, Int.not_lt, Int.not_le, bne_iff_ne, ne_eq, bne_eq_false_iff_eq, Bool.not_eq_true', Bool.not_eq_false'] at h2
        exact Tm.ret (by first | (left; omega) | exact .inr ⟨by omega, by omega, ⟨by simp only [lim]; omega, all_rows (by omega) hr⟩, trivial⟩)
theorem laws_szWeigh.f_of {β : Type} {k : Nat} {a0_0 : ByteArray} {a0_1 : Int} {a1 : Int} {z0 : Int} (h : laws_szWeigh.t k a0_0 a0_1 a1 = some z0) (K : Int → Option β) : laws_szWeigh.f k a0_0 a0_1 a1 K = K z0 := by
  unfold laws_szWeigh.f
  rw [h]
theorem laws_szWeigh.tm {ι α : Type} {ok : ι → Prop} {ψ : α → Prop} {p : ι → Nat} (hp : ∀ i, ok i → big ≤ p i) {a0_0 : ByteArray} {a0_1 : Int} {a1 : Int} {φ : Int → Prop} (h : Tm Fuel (fun k => laws_szWeigh.t k a0_0 a0_1 a1) φ) {G : ι → Int → Option α} (hG : ∀ z0, φ z0 → Tm ok (fun i => G i z0) ψ) : Tm ok (fun i => laws_szWeigh.f (p i) a0_0 a0_1 a1 (G i)) ψ := by
  obtain ⟨z0, h1, h2⟩ := h
  exact (hG z0 h1).congr fun i hi => laws_szWeigh.f_of (h2 (p i) (hp i hi)) _
theorem laws_szWeigh.T {a0_0 : ByteArray} {a0_1 : Int} {a1 : Int} (h0 : 0 ≤ a1) (h1 : a1 ≤ 1048576) (ga0_0 : a0_0.size ≤ maxLen) : Tm Fuel (fun k => laws_szWeigh.t k a0_0 a0_1 a1) (fun r => r < 0 ∨ 0 ≤ r ∧ r ≤ a1 ∧ a0_0.size ≤ lim ∧ True) := by
  unfold laws_szWeigh.t laws_szWeigh.g
  have hm := maxLen_eq
  have hlim : lim = 1048576 := rfl
  try rw [wrap_i64 (x := a1 - (a0_0.size : Int)) (by omega) (by omega)]
  refine Tm.ite (fun h1 => ?_) (fun h1 => ?_)
  · try simp only [decide_eq_true_eq, decide_eq_false_iff_not, Int.not_lt, Int.not_le, bne_iff_ne, ne_eq, bne_eq_false_iff_eq, Bool.not_eq_true', Bool.not_eq_false'] at h1
    exact Tm.ret (by first | (left; omega) | (right; refine ⟨?_, ?_, ?_, trivial⟩ <;> first | assumption | omega))
  · try simp only [decide_eq_true_eq, decide_eq_false_iff_not, Int.not_lt, Int.not_le, bne_iff_ne, ne_eq, bne_eq_false_iff_eq, Bool.not_eq_true', Bool.not_eq_false'] at h1
    exact Tm.ret (by first | (left; omega) | (right; refine ⟨?_, ?_, ?_, trivial⟩ <;> first | assumption | omega))
theorem laws_szWeighS.f_of {β : Type} {k : Nat} {a0 : List (List D)} {a1 : Int} {z0 : Int} (h : laws_szWeighS.t k a0 a1 = some z0) (K : Int → Option β) : laws_szWeighS.f k a0 a1 K = K z0 := by
  unfold laws_szWeighS.f
  rw [h]
theorem laws_szWeighS.tm {ι α : Type} {ok : ι → Prop} {ψ : α → Prop} {p : ι → Nat} (hp : ∀ i, ok i → big ≤ p i) {a0 : List (List D)} {a1 : Int} {φ : Int → Prop} (h : Tm Fuel (fun k => laws_szWeighS.t k a0 a1) φ) {G : ι → Int → Option α} (hG : ∀ z0, φ z0 → Tm ok (fun i => G i z0) ψ) : Tm ok (fun i => laws_szWeighS.f (p i) a0 a1 (G i)) ψ := by
  obtain ⟨z0, h1, h2⟩ := h
  exact (hG z0 h1).congr fun i hi => laws_szWeighS.f_of (h2 (p i) (hp i hi)) _
def RSI (B : Nat) (r : List D) : Prop := ∃ (c0 : ByteArray) (c1 : Int), r = [.str c0, .int .i64 c1] ∧ c0.size ≤ B ∧ (Lit.int .i64 c1).wf = true ∧ True
theorem RSI.get {B : Nat} {xs : List (List D)} (h : SlOk RSI B xs) {v : Int} (h0 : 0 ≤ v) (h1 : v < xs.length) : gR xs v = [.str (gS xs v 0), .int .i64 (gI xs v 1)] ∧ (gS xs v 0).size ≤ B ∧ (Lit.int .i64 (gI xs v 1)).wf = true ∧ True := by
  obtain ⟨c0, c1, e, k0, k1, _⟩ := h.2 (gR xs v) (gR_mem h0 h1)
  unfold gI gS
  rw [e]
  exact ⟨rfl, k0, k1, trivial⟩
theorem RSI.row {B : Nat} {xs : List (List D)} (h : SlOk RSI B xs) {v : Int} (h0 : 0 ≤ v) (h1 : v < xs.length) {β : Type} (F : List D → Option β) : atRow xs v F = F [.str (gS xs v 0), .int .i64 (gI xs v 1)] := by
  rw [← (RSI.get h h0 h1).1]
  exact atRow_gR h0 h1 F
theorem laws_szWeighS.T {a0 : List (List D)} {a1 : Int} (h0 : 0 ≤ a1) (h1 : a1 ≤ 1048576) (ga0 : SlOk RSI maxLen a0) : Tm Fuel (fun k => laws_szWeighS.t k a0 a1) (fun r => r < 0 ∨ 0 ≤ r ∧ r ≤ a1 ∧ SlOk RSI lim a0 ∧ True) := by
  unfold laws_szWeighS.t laws_szWeighS.g
  have hm := maxLen_eq
  have hlim : lim = 1048576 := rfl
  have hlen := ga0.1
  try rw [wrap_i64 (x := a1 - (a0.length : Int)) (by omega) (by omega)]
  refine Tm.ite (fun h1 => ?_) (fun h1 => ?_)
  · try simp only [decide_eq_true_eq, decide_eq_false_iff_not, Int.not_lt, Int.not_le, bne_iff_ne, ne_eq, bne_eq_false_iff_eq, Bool.not_eq_true', Bool.not_eq_false'] at h1
    exact Tm.ret (by first | (left; omega) | (right; refine ⟨?_, ?_, ?_, trivial⟩ <;> first | assumption | omega))
  · try simp only [decide_eq_true_eq, decide_eq_false_iff_not, Int.not_lt, Int.not_le, bne_iff_ne, ne_eq, bne_eq_false_iff_eq, Bool.not_eq_true', Bool.not_eq_false'] at h1
    refine Tm.loop (okk := Fuel) (p := fun k => k) (fun i hi => hi) (b := fun k => laws_szWeighS.l0 k a0 (fun z0 => some z0)) (fun v => match v with | (u0, i) => (((a0.length : Int)) - i).toNat) (fun v => match v with | (u0, i) => 0 ≤ u0 ∧ u0 ≤ a1 ∧ 0 ≤ i ∧ i ≤ (a0.length : Int) ∧ ∀ r ∈ a0.take i.toNat, RSI lim r) ?_ ?_ ?_
    · rintro ⟨u0, i⟩ hI
      try simp only [] at hI ⊢
      have : big = 2 ^ 100 := rfl
      have := ga0.1
      omega
    · exact ⟨by omega, by omega, by omega, by simp, by simp⟩
    · rintro ⟨u0, i⟩ hI L hL
      try simp only [] at hI
      obtain ⟨u0a, u0b, i0, i1, hr⟩ := hI
      simp only [laws_szWeighS.l0]
      refine Tm.ite (fun h2 => ?_) (fun h2 => ?_)
      · try simp only [decide_eq_true_eq, decide_eq_false_iff_not, Int.not_lt, Int.not_le, bne_iff_ne, ne_eq, bne_eq_false_iff_eq, Bool.not_eq_true', Bool.not_eq_false'] at h2
        refine Tm.atRow (by first | assumption | omega | (simp only [lim, maxLen_eq] at *; omega)) (by first | assumption | omega | (simp only [lim, maxLen_eq] at *; omega)) (fun x3 hx4 hm5 => ?_)
        obtain ⟨c6, c7, rfl, g8, g9, _⟩ := ga0.2 x3 hm5
        refine Tm.uncons ?_
        refine Tm.dStr ?_
        refine Tm.uncons ?_
        refine Tm.dInt ?_
        refine Tm.atEnd ?_
        refine laws_szWeigh.tm (fun i hi => hi.1) (laws_szWeigh.T (by first | assumption | omega | (simp only [lim, maxLen_eq] at *; omega)) (by first | assumption | omega | (simp only [lim, maxLen_eq] at *; omega)) (by first | assumption | omega | (simp only [lim, maxLen_eq] at *; omega))) (fun y11 hy10 => ?_)
        rcases hy10 with hy10 | ⟨p13, p14, q12, _⟩
        · exact Tm.ite (fun _ => Tm.ret (by left; omega)) (fun h => by simp at h; omega)
        refine Tm.ite (fun h15 => ?_) (fun h15 => ?_)
        · try simp only [decide_eq_true_eq, decide_eq_false_iff_not, Int.not_lt, Int.not_le, bne_iff_ne, ne_eq, bne_eq_false_iff_eq, Bool.not_eq_true', Bool.not_eq_false'] at h15
          exact Tm.ret (by first | (left; omega) | exact .inr ⟨by omega, by omega, ⟨by simp only [lim]; omega, all_rows (by omega) hr⟩, trivial⟩)
        · try simp only [decide_eq_true_eq, decide_eq_false_iff_not, Int.not_lt, Int.not_le, bne_iff_ne, ne_eq, bne_eq_false_iff_eq, Bool.not_eq_true', Bool.not_eq_false'] at h15
          try rw [wrap_i64 (x := i + 1) (by omega) (by omega)]
          refine hL (y11, (i + 1)) ⟨by omega, by omega, by omega, by omega, take_rows i0 hx4 hr ⟨_, _, rfl, by first | assumption | omega, by first | assumption | omega, trivial⟩⟩ (by (try simp only []); omega)
      · try simp only [decide_eq_true_eq, decide_eq_false_iff_not, Int.not_lt, Int.not_le, bne_iff_ne, ne_eq, bne_eq_false_iff_eq, Bool.not_eq_true', Bool.not_eq_false'] at h2
        exact Tm.ret (by first | (left; omega) | exact .inr ⟨by omega, by omega, ⟨by simp only [lim]; omega, all_rows (by omega) hr⟩, trivial⟩)
theorem laws_szWant.f_of {β : Type} {k : Nat} {a0_0 : Int} {a0_1 : List (List D)} {a0_2 : List (List D)} {a0_3 : List (List D)} {a1 : Int} {z0 : Int} (h : laws_szWant.t k a0_0 a0_1 a0_2 a0_3 a1 = some z0) (K : Int → Option β) : laws_szWant.f k a0_0 a0_1 a0_2 a0_3 a1 K = K z0 := by
  unfold laws_szWant.f
  rw [h]
theorem laws_szWant.tm {ι α : Type} {ok : ι → Prop} {ψ : α → Prop} {p : ι → Nat} (hp : ∀ i, ok i → big ≤ p i) {a0_0 : Int} {a0_1 : List (List D)} {a0_2 : List (List D)} {a0_3 : List (List D)} {a1 : Int} {φ : Int → Prop} (h : Tm Fuel (fun k => laws_szWant.t k a0_0 a0_1 a0_2 a0_3 a1) φ) {G : ι → Int → Option α} (hG : ∀ z0, φ z0 → Tm ok (fun i => G i z0) ψ) : Tm ok (fun i => laws_szWant.f (p i) a0_0 a0_1 a0_2 a0_3 a1 (G i)) ψ := by
  obtain ⟨z0, h1, h2⟩ := h
  exact (hG z0 h1).congr fun i hi => laws_szWant.f_of (h2 (p i) (hp i hi)) _
theorem laws_szWant.T {a0_0 : Int} {a0_1 : List (List D)} {a0_2 : List (List D)} {a0_3 : List (List D)} {a1 : Int} (h0 : 0 ≤ a1) (h1 : a1 ≤ 1048576) (ga0_1 : SlOk RISLSE maxLen a0_1) (ga0_2 : SlOk RS maxLen a0_2) (ga0_3 : SlOk RSI maxLen a0_3) : Tm Fuel (fun k => laws_szWant.t k a0_0 a0_1 a0_2 a0_3 a1) (fun r => r < 0 ∨ 0 ≤ r ∧ r ≤ a1 ∧ SlOk RISLSE lim a0_1 ∧ SlOk RS lim a0_2 ∧ SlOk RSI lim a0_3 ∧ True) := by
  unfold laws_szWant.t laws_szWant.g
  have hm := maxLen_eq
  have hlim : lim = 1048576 := rfl
  refine laws_szTermS.tm (fun i hi => hi) (laws_szTermS.T (by first | assumption | omega | (simp only [lim, maxLen_eq] at *; omega)) (by first | assumption | omega | (simp only [lim, maxLen_eq] at *; omega)) (by first | assumption | omega | (simp only [lim, maxLen_eq] at *; omega))) (fun y2 hy1 => ?_)
  rcases hy1 with hy1 | ⟨p4, p5, q3, _⟩
  · exact Tm.ite (fun _ => Tm.ret (by left; omega)) (fun h => by simp at h; omega)
  refine Tm.ite (fun h6 => ?_) (fun h6 => ?_)
  · try simp only [decide_eq_true_eq, decide_eq_false_iff_not, Int.not_lt, Int.not_le, bne_iff_ne, ne_eq, bne_eq_false_iff_eq, Bool.not_eq_true', Bool.not_eq_false'] at h6
    exact Tm.ret (by first | (left; omega) | (right; refine ⟨?_, ?_, ?_, ?_, ?_, trivial⟩ <;> first | assumption | omega))
  · try simp only [decide_eq_true_eq, decide_eq_false_iff_not, Int.not_lt, Int.not_le, bne_iff_ne, ne_eq, bne_eq_false_iff_eq, Bool.not_eq_true', Bool.not_eq_false'] at h6
    refine laws_szStringS.tm (fun i hi => hi) (laws_szStringS.T (by first | assumption | omega | (simp only [lim, maxLen_eq] at *; omega)) (by first | assumption | omega | (simp only [lim, maxLen_eq] at *; omega)) (by first | assumption | omega | (simp only [lim, maxLen_eq] at *; omega))) (fun y8 hy7 => ?_)
    rcases hy7 with hy7 | ⟨p10, p11, q9, _⟩
    · exact Tm.ite (fun _ => Tm.ret (by left; omega)) (fun h => by simp at h; omega)
    refine Tm.ite (fun h12 => ?_) (fun h12 => ?_)
    · try simp only [decide_eq_true_eq, decide_eq_false_iff_not, Int.not_lt, Int.not_le, bne_iff_ne, ne_eq, bne_eq_false_iff_eq, Bool.not_eq_true', Bool.not_eq_false'] at h12
      exact Tm.ret (by first | (left; omega) | (right; refine ⟨?_, ?_, ?_, ?_, ?_, trivial⟩ <;> first | assumption | omega))
    · try simp only [decide_eq_true_eq, decide_eq_false_iff_not, Int.not_lt, Int.not_le, bne_iff_ne, ne_eq, bne_eq_false_iff_eq, Bool.not_eq_true', Bool.not_eq_false'] at h12
      refine laws_szWeighS.tm (fun i hi => hi) (laws_szWeighS.T (by first | assumption | omega | (simp only [lim, maxLen_eq] at *; omega)) (by first | assumption | omega | (simp only [lim, maxLen_eq] at *; omega)) (by first | assumption | omega | (simp only [lim, maxLen_eq] at *; omega))) (fun y14 hy13 => ?_)
      rcases hy13 with hy13 | ⟨p16, p17, q15, _⟩
      · exact Tm.ite (fun _ => Tm.ret (by left; omega)) (fun h => by simp at h; omega)
      refine Tm.ite (fun h18 => ?_) (fun h18 => ?_)
      · try simp only [decide_eq_true_eq, decide_eq_false_iff_not, Int.not_lt, Int.not_le, bne_iff_ne, ne_eq, bne_eq_false_iff_eq, Bool.not_eq_true', Bool.not_eq_false'] at h18
        exact Tm.ret (by first | (left; omega) | (right; refine ⟨?_, ?_, ?_, ?_, ?_, trivial⟩ <;> first | assumption | omega))
      · try simp only [decide_eq_true_eq, decide_eq_false_iff_not, Int.not_lt, Int.not_le, bne_iff_ne, ne_eq, bne_eq_false_iff_eq, Bool.not_eq_true', Bool.not_eq_false'] at h18
        exact Tm.ret (by first | (left; omega) | (right; refine ⟨?_, ?_, ?_, ?_, ?_, trivial⟩ <;> first | assumption | omega))
theorem laws_toStringS.f_of {β : Type} {k : Nat} {a0 : List (List D)} {z0 : List (List C)} (h : laws_toStringS.t k a0 = some z0) (K : (List (List C)) → Option β) : laws_toStringS.f k a0 K = K z0 := by
  unfold laws_toStringS.f
  rw [h]
theorem laws_toStringS.tm {ι α : Type} {ok : ι → Prop} {ψ : α → Prop} {p : ι → Nat} (hp : ∀ i, ok i → big ≤ p i) {a0 : List (List D)} {φ : (List (List C)) → Prop} (h : Tm Fuel (fun k => laws_toStringS.t k a0) φ) {G : ι → (List (List C)) → Option α} (hG : ∀ z0, φ z0 → Tm ok (fun i => G i z0) ψ) : Tm ok (fun i => laws_toStringS.f (p i) a0 (G i)) ψ := by
  obtain ⟨z0, h1, h2⟩ := h
  exact (hG z0 h1).congr fun i hi => laws_toStringS.f_of (h2 (p i) (hp i hi)) _
theorem laws_toStringS.T {a0 : List (List D)} (ga0 : SlOk RS lim a0) : Tm Fuel (fun k => laws_toStringS.t k a0) (fun z => C.immRows z = a0 ∧ True) := by
  unfold laws_toStringS.t laws_toStringS.g
  have hm := maxLen_eq
  have hlim : lim = 1048576 := rfl
  have hlen := ga0.1
  refine Tm.guard (by first | omega | (simp only [lim, maxLen_eq, most] at *; omega) | (simp only [lim, most] at *; refine ⟨?_, ?_, ?_, ?_⟩ <;> omega)) ?_
  refine Tm.loop (okk := Fuel) (p := fun k => k) (fun i hi => hi) (b := fun k => laws_toStringS.l0 k a0 (fun z0 => some z0)) (fun v => match v with | (i, u1) => (((a0.length : Int)) - i).toNat) (fun v => match v with | (i, u1) => 0 ≤ i ∧ i ≤ (a0.length : Int) ∧ Filled a0 ([.d (.str (⟨#[]⟩ : ByteArray))] : List C) i u1) ?_ ?_ ?_
  · rintro ⟨i, u1⟩ hI
    try simp only [] at hI ⊢
    have : big = 2 ^ 100 := rfl
    have := ga0.1
    simp only [lim] at this
    omega
  · exact ⟨by omega, by simp, Filled.start _ _⟩
  · rintro ⟨i, u1⟩ hI L hL
    try simp only [] at hI
    obtain ⟨i0, i1, hF⟩ := hI
    have hFl := hF.len i1
    simp only [laws_toStringS.l0]
    refine Tm.ite (fun h1 => ?_) (fun h1 => ?_)
    · try simp only [decide_eq_true_eq, decide_eq_false_iff_not, Int.not_lt, Int.not_le, bne_iff_ne, ne_eq, bne_eq_false_iff_eq, Bool.not_eq_true', Bool.not_eq_false'] at h1
      refine Tm.atRow (by first | assumption | omega | (simp only [lim, maxLen_eq] at *; omega)) (by first | assumption | omega | (simp only [lim, maxLen_eq] at *; omega)) (fun x2 hx3 hm4 => ?_)
      obtain ⟨c5, rfl, g6, _⟩ := ga0.2 x2 hm4
      refine Tm.uncons ?_
      refine Tm.dStr ?_
      refine Tm.atEnd ?_
      refine Tm.guard (by first | omega | (simp only [lim, maxLen_eq, most] at *; omega) | (simp only [lim, most] at *; refine ⟨?_, ?_, ?_, ?_⟩ <;> omega)) ?_
      refine Tm.guard (by first | omega | (simp only [lim, maxLen_eq, most] at *; omega) | (simp only [lim, most] at *; refine ⟨?_, ?_, ?_, ?_⟩ <;> omega)) ?_
      try rw [wrap_i64 (x := i + 1) (by omega) (by omega)]
      refine hL (_, _) ⟨by omega, by omega, hF.next i0 hx3 rfl (by simp [C.immCells, C.imm])⟩ (by (try simp only []); omega)
    · try simp only [decide_eq_true_eq, decide_eq_false_iff_not, Int.not_lt, Int.not_le, bne_iff_ne, ne_eq, bne_eq_false_iff_eq, Bool.not_eq_true', Bool.not_eq_false'] at h1
      exact Tm.ret (by exact ⟨hF.all (by omega), trivial⟩)
theorem laws_toTerm.f_of {β : Type} {k : Nat} {a0_0 : Int} {a0_1 : ByteArray} {a0_2 : List (List D)} {z0 : Int} {z1 : ByteArray} {z2 : List (List C)} (h : laws_toTerm.t k a0_0 a0_1 a0_2 = some (z0, z1, z2)) (K : Int → ByteArray → (List (List C)) → Option β) : laws_toTerm.f k a0_0 a0_1 a0_2 K = K z0 z1 z2 := by
  unfold laws_toTerm.f
  rw [h]
theorem laws_toTerm.tm {ι α : Type} {ok : ι → Prop} {ψ : α → Prop} {p : ι → Nat} (hp : ∀ i, ok i → big ≤ p i) {a0_0 : Int} {a0_1 : ByteArray} {a0_2 : List (List D)} {φ : Int × ByteArray × (List (List C)) → Prop} (h : Tm Fuel (fun k => laws_toTerm.t k a0_0 a0_1 a0_2) φ) {G : ι → Int → ByteArray → (List (List C)) → Option α} (hG : ∀ z0 z1 z2, φ (z0, z1, z2) → Tm ok (fun i => G i z0 z1 z2) ψ) : Tm ok (fun i => laws_toTerm.f (p i) a0_0 a0_1 a0_2 (G i)) ψ := by
  obtain ⟨⟨z0, z1, z2⟩, h1, h2⟩ := h
  exact (hG z0 z1 z2 h1).congr fun i hi => laws_toTerm.f_of (h2 (p i) (hp i hi)) _
theorem laws_toTerm.T {a0_0 : Int} {a0_1 : ByteArray} {a0_2 : List (List D)} (ga0_1 : a0_1.size ≤ lim) (ga0_2 : SlOk RS lim a0_2) : Tm Fuel (fun k => laws_toTerm.t k a0_0 a0_1 a0_2) (fun z => z.1 = a0_0 ∧ z.2.1 = a0_1 ∧ C.immRows z.2.2 = a0_2 ∧ True) := by
  unfold laws_toTerm.t laws_toTerm.g
  have hm := maxLen_eq
  have hlim : lim = 1048576 := rfl
  refine laws_toStringS.tm (fun i hi => hi) (laws_toStringS.T (by first | assumption | omega | (simp only [lim, maxLen_eq] at *; omega))) (fun y2 hy1 => ?_)
  try simp only [] at hy1
  obtain ⟨e3, _⟩ := hy1
  try simp only [e3]
  exact Tm.ret (by exact ⟨by first | rfl | assumption, by first | rfl | assumption, by first | rfl | assumption, trivial⟩)
theorem laws_toTermS.f_of {β : Type} {k : Nat} {a0 : List (List D)} {z0 : List (List C)} (h : laws_toTermS.t k a0 = some z0) (K : (List (List C)) → Option β) : laws_toTermS.f k a0 K = K z0 := by
  unfold laws_toTermS.f
  rw [h]
theorem laws_toTermS.tm {ι α : Type} {ok : ι → Prop} {ψ : α → Prop} {p : ι → Nat} (hp : ∀ i, ok i → big ≤ p i) {a0 : List (List D)} {φ : (List (List C)) → Prop} (h : Tm Fuel (fun k => laws_toTermS.t k a0) φ) {G : ι → (List (List C)) → Option α} (hG : ∀ z0, φ z0 → Tm ok (fun i => G i z0) ψ) : Tm ok (fun i => laws_toTermS.f (p i) a0 (G i)) ψ := by
  obtain ⟨z0, h1, h2⟩ := h
  exact (hG z0 h1).congr fun i hi => laws_toTermS.f_of (h2 (p i) (hp i hi)) _
theorem laws_toTermS.T {a0 : List (List D)} (ga0 : SlOk RISLSE lim a0) : Tm Fuel (fun k => laws_toTermS.t k a0) (fun z => C.immRows z = a0 ∧ True) := by
  unfold laws_toTermS.t laws_toTermS.g
  have hm := maxLen_eq
  have hlim : lim = 1048576 := rfl
  have hlen := ga0.1
  refine Tm.guard (by first | omega | (simp only [lim, maxLen_eq, most] at *; omega) | (simp only [lim, most] at *; refine ⟨?_, ?_, ?_, ?_⟩ <;> omega)) ?_
  refine Tm.loop (okk := Fuel) (p := fun k => k) (fun i hi => hi) (b := fun k => laws_toTermS.l0 k a0 (fun z0 => some z0)) (fun v => match v with | (i, u1) => (((a0.length : Int)) - i).toNat) (fun v => match v with | (i, u1) => 0 ≤ i ∧ i ≤ (a0.length : Int) ∧ Filled a0 ([.d (.int .i64 0), .d (.str (⟨#[]⟩ : ByteArray)), .own ([] : List (List C))] : List C) i u1) ?_ ?_ ?_
  · rintro ⟨i, u1⟩ hI
    try simp only [] at hI ⊢
    have : big = 2 ^ 100 := rfl
    have := ga0.1
    simp only [lim] at this
    omega
  · exact ⟨by omega, by simp, Filled.start _ _⟩
  · rintro ⟨i, u1⟩ hI L hL
    try simp only [] at hI
    obtain ⟨i0, i1, hF⟩ := hI
    have hFl := hF.len i1
    simp only [laws_toTermS.l0]
    refine Tm.ite (fun h1 => ?_) (fun h1 => ?_)
    · try simp only [decide_eq_true_eq, decide_eq_false_iff_not, Int.not_lt, Int.not_le, bne_iff_ne, ne_eq, bne_eq_false_iff_eq, Bool.not_eq_true', Bool.not_eq_false'] at h1
      refine Tm.atRow (by first | assumption | omega | (simp only [lim, maxLen_eq] at *; omega)) (by first | assumption | omega | (simp only [lim, maxLen_eq] at *; omega)) (fun x2 hx3 hm4 => ?_)
      obtain ⟨c5, c6, c7, rfl, g8, g9, g10, _⟩ := ga0.2 x2 hm4
      refine Tm.uncons ?_
      refine Tm.dInt ?_
      refine Tm.uncons ?_
      refine Tm.dStr ?_
      refine Tm.uncons ?_
      refine Tm.dSl ?_
      refine Tm.atEnd ?_
      refine laws_toTerm.tm (fun i hi => hi.1) (laws_toTerm.T (by first | assumption | omega | (simp only [lim, maxLen_eq] at *; omega)) (by first | assumption | omega | (simp only [lim, maxLen_eq] at *; omega))) (fun y12 y13 y14 hy11 => ?_)
      try simp only [] at hy11
      obtain ⟨rfl, rfl, e15, _⟩ := hy11
      try simp only [e15]
      refine Tm.guard (by first | omega | (simp only [lim, maxLen_eq, most] at *; omega) | (simp only [lim, most] at *; refine ⟨?_, ?_, ?_, ?_⟩ <;> omega)) ?_
      refine Tm.guard (by first | omega | (simp only [lim, maxLen_eq, most] at *; omega) | (simp only [lim, most] at *; refine ⟨?_, ?_, ?_, ?_⟩ <;> omega)) ?_
      try rw [wrap_i64 (x := i + 1) (by omega) (by omega)]
      refine hL (_, _) ⟨by omega, by omega, hF.next i0 hx3 rfl (by simp [C.immCells, C.imm, e15])⟩ (by (try simp only []); omega)
    · try simp only [decide_eq_true_eq, decide_eq_false_iff_not, Int.not_lt, Int.not_le, bne_iff_ne, ne_eq, bne_eq_false_iff_eq, Bool.not_eq_true', Bool.not_eq_false'] at h1
      exact Tm.ret (by exact ⟨hF.all (by omega), trivial⟩)
theorem laws_toWeigh.f_of {β : Type} {k : Nat} {a0_0 : ByteArray} {a0_1 : Int} {z0 : ByteArray} {z1 : Int} (h : laws_toWeigh.t k a0_0 a0_1 = some (z0, z1)) (K : ByteArray → Int → Option β) : laws_toWeigh.f k a0_0 a0_1 K = K z0 z1 := by
  unfold laws_toWeigh.f
  rw [h]
theorem laws_toWeigh.tm {ι α : Type} {ok : ι → Prop} {ψ : α → Prop} {p : ι → Nat} (hp : ∀ i, ok i → big ≤ p i) {a0_0 : ByteArray} {a0_1 : Int} {φ : ByteArray × Int → Prop} (h : Tm Fuel (fun k => laws_toWeigh.t k a0_0 a0_1) φ) {G : ι → ByteArray → Int → Option α} (hG : ∀ z0 z1, φ (z0, z1) → Tm ok (fun i => G i z0 z1) ψ) : Tm ok (fun i => laws_toWeigh.f (p i) a0_0 a0_1 (G i)) ψ := by
  obtain ⟨⟨z0, z1⟩, h1, h2⟩ := h
  exact (hG z0 z1 h1).congr fun i hi => laws_toWeigh.f_of (h2 (p i) (hp i hi)) _
theorem laws_toWeigh.T {a0_0 : ByteArray} {a0_1 : Int} (ga0_0 : a0_0.size ≤ lim) : Tm Fuel (fun k => laws_toWeigh.t k a0_0 a0_1) (fun z => z.1 = a0_0 ∧ z.2 = a0_1 ∧ True) := by
  unfold laws_toWeigh.t laws_toWeigh.g
  have hm := maxLen_eq
  have hlim : lim = 1048576 := rfl
  exact Tm.ret (by exact ⟨by first | rfl | assumption, by first | rfl | assumption, trivial⟩)
theorem laws_toWeighS.f_of {β : Type} {k : Nat} {a0 : List (List D)} {z0 : List (List C)} (h : laws_toWeighS.t k a0 = some z0) (K : (List (List C)) → Option β) : laws_toWeighS.f k a0 K = K z0 := by
  unfold laws_toWeighS.f
  rw [h]
theorem laws_toWeighS.tm {ι α : Type} {ok : ι → Prop} {ψ : α → Prop} {p : ι → Nat} (hp : ∀ i, ok i → big ≤ p i) {a0 : List (List D)} {φ : (List (List C)) → Prop} (h : Tm Fuel (fun k => laws_toWeighS.t k a0) φ) {G : ι → (List (List C)) → Option α} (hG : ∀ z0, φ z0 → Tm ok (fun i => G i z0) ψ) : Tm ok (fun i => laws_toWeighS.f (p i) a0 (G i)) ψ := by
  obtain ⟨z0, h1, h2⟩ := h
  exact (hG z0 h1).congr fun i hi => laws_toWeighS.f_of (h2 (p i) (hp i hi)) _
theorem laws_toWeighS.T {a0 : List (List D)} (ga0 : SlOk RSI lim a0) : Tm Fuel (fun k => laws_toWeighS.t k a0) (fun z => C.immRows z = a0 ∧ True) := by
  unfold laws_toWeighS.t laws_toWeighS.g
  have hm := maxLen_eq
  have hlim : lim = 1048576 := rfl
  have hlen := ga0.1
  refine Tm.guard (by first | omega | (simp only [lim, maxLen_eq, most] at *; omega) | (simp only [lim, most] at *; refine ⟨?_, ?_, ?_, ?_⟩ <;> omega)) ?_
  refine Tm.loop (okk := Fuel) (p := fun k => k) (fun i hi => hi) (b := fun k => laws_toWeighS.l0 k a0 (fun z0 => some z0)) (fun v => match v with | (i, u1) => (((a0.length : Int)) - i).toNat) (fun v => match v with | (i, u1) => 0 ≤ i ∧ i ≤ (a0.length : Int) ∧ Filled a0 ([.d (.str (⟨#[]⟩ : ByteArray)), .d (.int .i64 0)] : List C) i u1) ?_ ?_ ?_
  · rintro ⟨i, u1⟩ hI
    try simp only [] at hI ⊢
    have : big = 2 ^ 100 := rfl
    have := ga0.1
    simp only [lim] at this
    omega
  · exact ⟨by omega, by simp, Filled.start _ _⟩
  · rintro ⟨i, u1⟩ hI L hL
    try simp only [] at hI
    obtain ⟨i0, i1, hF⟩ := hI
    have hFl := hF.len i1
    simp only [laws_toWeighS.l0]
    refine Tm.ite (fun h1 => ?_) (fun h1 => ?_)
    · try simp only [decide_eq_true_eq, decide_eq_false_iff_not, Int.not_lt, Int.not_le, bne_iff_ne, ne_eq, bne_eq_false_iff_eq, Bool.not_eq_true', Bool.not_eq_false'] at h1
      refine Tm.atRow (by first | assumption | omega | (simp only [lim, maxLen_eq] at *; omega)) (by first | assumption | omega | (simp only [lim, maxLen_eq] at *; omega)) (fun x2 hx3 hm4 => ?_)
      obtain ⟨c5, c6, rfl, g7, g8, _⟩ := ga0.2 x2 hm4
      refine Tm.uncons ?_
      refine Tm.dStr ?_
      refine Tm.uncons ?_
      refine Tm.dInt ?_
      refine Tm.atEnd ?_
      refine laws_toWeigh.tm (fun i hi => hi.1) (laws_toWeigh.T (by first | assumption | omega | (simp only [lim, maxLen_eq] at *; omega))) (fun y10 y11 hy9 => ?_)
      try simp only [] at hy9
      obtain ⟨rfl, rfl, _⟩ := hy9
      refine Tm.guard (by first | omega | (simp only [lim, maxLen_eq, most] at *; omega) | (simp only [lim, most] at *; refine ⟨?_, ?_, ?_, ?_⟩ <;> omega)) ?_
      refine Tm.guard (by first | omega | (simp only [lim, maxLen_eq, most] at *; omega) | (simp only [lim, most] at *; refine ⟨?_, ?_, ?_, ?_⟩ <;> omega)) ?_
      try rw [wrap_i64 (x := i + 1) (by omega) (by omega)]
      refine hL (_, _) ⟨by omega, by omega, hF.next i0 hx3 rfl (by simp [C.immCells, C.imm])⟩ (by (try simp only []); omega)
    · try simp only [decide_eq_true_eq, decide_eq_false_iff_not, Int.not_lt, Int.not_le, bne_iff_ne, ne_eq, bne_eq_false_iff_eq, Bool.not_eq_true', Bool.not_eq_false'] at h1
      exact Tm.ret (by exact ⟨hF.all (by omega), trivial⟩)
theorem laws_toWant.f_of {β : Type} {k : Nat} {a0_0 : Int} {a0_1 : List (List D)} {a0_2 : List (List D)} {a0_3 : List (List D)} {z0 : Int} {z1 : List (List C)} {z2 : List (List C)} {z3 : List (List C)} (h : laws_toWant.t k a0_0 a0_1 a0_2 a0_3 = some (z0, z1, z2, z3)) (K : Int → (List (List C)) → (List (List C)) → (List (List C)) → Option β) : laws_toWant.f k a0_0 a0_1 a0_2 a0_3 K = K z0 z1 z2 z3 := by
  unfold laws_toWant.f
  rw [h]
theorem laws_toWant.tm {ι α : Type} {ok : ι → Prop} {ψ : α → Prop} {p : ι → Nat} (hp : ∀ i, ok i → big ≤ p i) {a0_0 : Int} {a0_1 : List (List D)} {a0_2 : List (List D)} {a0_3 : List (List D)} {φ : Int × (List (List C)) × (List (List C)) × (List (List C)) → Prop} (h : Tm Fuel (fun k => laws_toWant.t k a0_0 a0_1 a0_2 a0_3) φ) {G : ι → Int → (List (List C)) → (List (List C)) → (List (List C)) → Option α} (hG : ∀ z0 z1 z2 z3, φ (z0, z1, z2, z3) → Tm ok (fun i => G i z0 z1 z2 z3) ψ) : Tm ok (fun i => laws_toWant.f (p i) a0_0 a0_1 a0_2 a0_3 (G i)) ψ := by
  obtain ⟨⟨z0, z1, z2, z3⟩, h1, h2⟩ := h
  exact (hG z0 z1 z2 z3 h1).congr fun i hi => laws_toWant.f_of (h2 (p i) (hp i hi)) _
theorem laws_toWant.T {a0_0 : Int} {a0_1 : List (List D)} {a0_2 : List (List D)} {a0_3 : List (List D)} (ga0_1 : SlOk RISLSE lim a0_1) (ga0_2 : SlOk RS lim a0_2) (ga0_3 : SlOk RSI lim a0_3) : Tm Fuel (fun k => laws_toWant.t k a0_0 a0_1 a0_2 a0_3) (fun z => z.1 = a0_0 ∧ C.immRows z.2.1 = a0_1 ∧ C.immRows z.2.2.1 = a0_2 ∧ C.immRows z.2.2.2 = a0_3 ∧ True) := by
  unfold laws_toWant.t laws_toWant.g
  have hm := maxLen_eq
  have hlim : lim = 1048576 := rfl
  refine laws_toTermS.tm (fun i hi => hi) (laws_toTermS.T (by first | assumption | omega | (simp only [lim, maxLen_eq] at *; omega))) (fun y2 hy1 => ?_)
  try simp only [] at hy1
  obtain ⟨e3, _⟩ := hy1
  try simp only [e3]
  refine laws_toStringS.tm (fun i hi => hi) (laws_toStringS.T (by first | assumption | omega | (simp only [lim, maxLen_eq] at *; omega))) (fun y5 hy4 => ?_)
  try simp only [] at hy4
  obtain ⟨e6, _⟩ := hy4
  try simp only [e6]
  refine laws_toWeighS.tm (fun i hi => hi) (laws_toWeighS.T (by first | assumption | omega | (simp only [lim, maxLen_eq] at *; omega))) (fun y8 hy7 => ?_)
  try simp only [] at hy7
  obtain ⟨e9, _⟩ := hy7
  try simp only [e9]
  exact Tm.ret (by exact ⟨by first | rfl | assumption, by first | rfl | assumption, by first | rfl | assumption, by first | rfl | assumption, trivial⟩)
theorem spec_l1In.f_of {β : Type} {k : Nat} {a0 : Int} {a1 : Int} {a2 : Int} {z0 : Bool} (h : spec_l1In.t k a0 a1 a2 = some z0) (K : Bool → Option β) : spec_l1In.f k a0 a1 a2 K = K z0 := by
  unfold spec_l1In.f
  rw [h]
theorem spec_l1In.tm {ι α : Type} {ok : ι → Prop} {ψ : α → Prop} {p : ι → Nat} (hp : ∀ i, ok i → big ≤ p i) {a0 : Int} {a1 : Int} {a2 : Int} {φ : Bool → Prop} (h : Tm Fuel (fun k => spec_l1In.t k a0 a1 a2) φ) {G : ι → Bool → Option α} (hG : ∀ z0, φ z0 → Tm ok (fun i => G i z0) ψ) : Tm ok (fun i => spec_l1In.f (p i) a0 a1 a2 (G i)) ψ := by
  obtain ⟨z0, h1, h2⟩ := h
  exact (hG z0 h1).congr fun i hi => spec_l1In.f_of (h2 (p i) (hp i hi)) _
theorem spec_l1In.T {a0 : Int} {a1 : Int} {a2 : Int} : Tm Fuel (fun k => spec_l1In.t k a0 a1 a2) (fun r => r = true → a1 ≤ a0 ∧ a0 ≤ a2) := by
  unfold spec_l1In.t spec_l1In.g
  have hm := maxLen_eq
  have hlim : lim = 1048576 := rfl
  refine Tm.ite (fun h1 => ?_) (fun h1 => ?_)
  · try simp only [decide_eq_true_eq, decide_eq_false_iff_not, Int.not_lt, Int.not_le, bne_iff_ne, ne_eq, bne_eq_false_iff_eq, Bool.not_eq_true', Bool.not_eq_false'] at h1
    exact Tm.ret (by first | (intro h; simp at h; omega) | (intro h; cases h))
  · try simp only [decide_eq_true_eq, decide_eq_false_iff_not, Int.not_lt, Int.not_le, bne_iff_ne, ne_eq, bne_eq_false_iff_eq, Bool.not_eq_true', Bool.not_eq_false'] at h1
    exact Tm.ret (by first | (intro h; simp at h; omega) | (intro h; cases h))
noncomputable def spec_l1In.v (a0 : Int) (a1 : Int) (a2 : Int) : Bool := (spec_l1In.t big a0 a1 a2).getD default
theorem spec_l1In.tv {a0 : Int} {a1 : Int} {a2 : Int} {k : Nat} (hk : Fuel k) : spec_l1In.t k a0 a1 a2 = some (spec_l1In.v a0 a1 a2) := (spec_l1In.T).val hk
theorem spec_l1In.fv {a0 : Int} {a1 : Int} {a2 : Int} {k : Nat} (hk : Fuel k) {β : Type} (K : Bool → Option β) : spec_l1In.f k a0 a1 a2 K = K (spec_l1In.v a0 a1 a2) := spec_l1In.f_of (spec_l1In.tv hk) K
theorem spec_NameOk.f_of {β : Type} {k : Nat} {a0 : ByteArray} {z0 : Bool} (h : spec_NameOk.t k a0 = some z0) (K : Bool → Option β) : spec_NameOk.f k a0 K = K z0 := by
  unfold spec_NameOk.f
  rw [h]
theorem spec_NameOk.tm {ι α : Type} {ok : ι → Prop} {ψ : α → Prop} {p : ι → Nat} (hp : ∀ i, ok i → big ≤ p i) {a0 : ByteArray} {φ : Bool → Prop} (h : Tm Fuel (fun k => spec_NameOk.t k a0) φ) {G : ι → Bool → Option α} (hG : ∀ z0, φ z0 → Tm ok (fun i => G i z0) ψ) : Tm ok (fun i => spec_NameOk.f (p i) a0 (G i)) ψ := by
  obtain ⟨z0, h1, h2⟩ := h
  exact (hG z0 h1).congr fun i hi => spec_NameOk.f_of (h2 (p i) (hp i hi)) _
theorem spec_NameOk.T {a0 : ByteArray} (ga0 : a0.size ≤ lim) : Tm Fuel (fun k => spec_NameOk.t k a0) (fun _ => True) := by
  unfold spec_NameOk.t spec_NameOk.g
  have hm := maxLen_eq
  have hlim : lim = 1048576 := rfl
  refine Tm.loop (okk := Fuel) (p := fun k => k) (fun i hi => hi) (b := fun k => spec_NameOk.l0 k a0 (fun z0 => some z0)) (fun i => (((a0.size : Int)) - i).toNat) (fun i => 0 ≤ i ∧ i ≤ (a0.size : Int)) ?_ ?_ ?_
  · rintro i hI
    try simp only [] at hI ⊢
    have : big = 2 ^ 100 := rfl
    omega
  · ((try simp only []); omega)
  · rintro i hI L hL
    try simp only [] at hI
    obtain ⟨i0, i1⟩ := hI
    simp only [spec_NameOk.l0]
    refine Tm.ite (fun h1 => ?_) (fun h1 => ?_)
    · try simp only [decide_eq_true_eq, decide_eq_false_iff_not, Int.not_lt, Int.not_le, bne_iff_ne, ne_eq, bne_eq_false_iff_eq, Bool.not_eq_true', Bool.not_eq_false'] at h1
      refine Tm.atStr (by first | assumption | omega | (simp only [lim, maxLen_eq] at *; omega)) (by first | assumption | omega | (simp only [lim, maxLen_eq] at *; omega)) (fun b2 hb3 => ?_)
      try rw [wrap_i64 (x := (b2.toNat : Int)) (by omega) (by omega)]
      refine spec_l1In.tm (fun i hi => hi.1) (spec_l1In.T) (fun y5 hy4 => ?_)
      refine Tm.ite (fun h6 => ?_) (fun h6 => ?_)
      · try simp only [decide_eq_true_eq, decide_eq_false_iff_not, Int.not_lt, Int.not_le, bne_iff_ne, ne_eq, bne_eq_false_iff_eq, Bool.not_eq_true', Bool.not_eq_false'] at h6
        refine Tm.atStr (by first | assumption | omega | (simp only [lim, maxLen_eq] at *; omega)) (by first | assumption | omega | (simp only [lim, maxLen_eq] at *; omega)) (fun b7 hb8 => ?_)
        try rw [wrap_i64 (x := (b7.toNat : Int)) (by omega) (by omega)]
        refine spec_l1In.tm (fun i hi => hi.1) (spec_l1In.T) (fun y10 hy9 => ?_)
        refine Tm.ite (fun h11 => ?_) (fun h11 => ?_)
        · try simp only [decide_eq_true_eq, decide_eq_false_iff_not, Int.not_lt, Int.not_le, bne_iff_ne, ne_eq, bne_eq_false_iff_eq, Bool.not_eq_true', Bool.not_eq_false'] at h11
          refine Tm.atStr (by first | assumption | omega | (simp only [lim, maxLen_eq] at *; omega)) (by first | assumption | omega | (simp only [lim, maxLen_eq] at *; omega)) (fun b12 hb13 => ?_)
          refine Tm.ite (fun h14 => ?_) (fun h14 => ?_)
          · try simp only [decide_eq_true_eq, decide_eq_false_iff_not, Int.not_lt, Int.not_le, bne_iff_ne, ne_eq, bne_eq_false_iff_eq, Bool.not_eq_true', Bool.not_eq_false'] at h14
            exact Tm.ret (by trivial)
          · try simp only [decide_eq_true_eq, decide_eq_false_iff_not, Int.not_lt, Int.not_le, bne_iff_ne, ne_eq, bne_eq_false_iff_eq, Bool.not_eq_true', Bool.not_eq_false'] at h14
            try rw [wrap_i64 (x := i + 1) (by omega) (by omega)]
            exact hL ((i + 1)) (by (try simp only []); omega) (by (try simp only []); omega)
        · try simp only [decide_eq_true_eq, decide_eq_false_iff_not, Int.not_lt, Int.not_le, bne_iff_ne, ne_eq, bne_eq_false_iff_eq, Bool.not_eq_true', Bool.not_eq_false'] at h11
          have z15 := hy9 h11
          try rw [wrap_i64 (x := i + 1) (by omega) (by omega)]
          exact hL ((i + 1)) (by (try simp only []); omega) (by (try simp only []); omega)
      · try simp only [decide_eq_true_eq, decide_eq_false_iff_not, Int.not_lt, Int.not_le, bne_iff_ne, ne_eq, bne_eq_false_iff_eq, Bool.not_eq_true', Bool.not_eq_false'] at h6
        have z16 := hy4 h6
        try rw [wrap_i64 (x := i + 1) (by omega) (by omega)]
        exact hL ((i + 1)) (by (try simp only []); omega) (by (try simp only []); omega)
    · try simp only [decide_eq_true_eq, decide_eq_false_iff_not, Int.not_lt, Int.not_le, bne_iff_ne, ne_eq, bne_eq_false_iff_eq, Bool.not_eq_true', Bool.not_eq_false'] at h1
      refine spec_l1In.tm (fun i hi => hi.1) (spec_l1In.T) (fun y18 hy17 => ?_)
      refine Tm.ite (fun h19 => ?_) (fun h19 => ?_)
      · try simp only [decide_eq_true_eq, decide_eq_false_iff_not, Int.not_lt, Int.not_le, bne_iff_ne, ne_eq, bne_eq_false_iff_eq, Bool.not_eq_true', Bool.not_eq_false'] at h19
        have z20 := hy17 h19
        refine Tm.atStr (by first | assumption | omega | (simp only [lim, maxLen_eq] at *; omega)) (by first | assumption | omega | (simp only [lim, maxLen_eq] at *; omega)) (fun b21 hb22 => ?_)
        refine Tm.ite (fun h23 => ?_) (fun h23 => ?_)
        · try simp only [decide_eq_true_eq, decide_eq_false_iff_not, Int.not_lt, Int.not_le, bne_iff_ne, ne_eq, bne_eq_false_iff_eq, Bool.not_eq_true', Bool.not_eq_false'] at h23
          try rw [wrap_i64 (x := (a0.size : Int) - 1) (by omega) (by omega)]
          refine Tm.atStr (by first | assumption | omega | (simp only [lim, maxLen_eq] at *; omega)) (by first | assumption | omega | (simp only [lim, maxLen_eq] at *; omega)) (fun b24 hb25 => ?_)
          exact Tm.ret (by trivial)
        · try simp only [decide_eq_true_eq, decide_eq_false_iff_not, Int.not_lt, Int.not_le, bne_iff_ne, ne_eq, bne_eq_false_iff_eq, Bool.not_eq_true', Bool.not_eq_false'] at h23
          exact Tm.ret (by trivial)
      · try simp only [decide_eq_true_eq, decide_eq_false_iff_not, Int.not_lt, Int.not_le, bne_iff_ne, ne_eq, bne_eq_false_iff_eq, Bool.not_eq_true', Bool.not_eq_false'] at h19
        exact Tm.ret (by trivial)
noncomputable def spec_NameOk.v (a0 : ByteArray) : Bool := (spec_NameOk.t big a0).getD default
theorem spec_NameOk.tv {a0 : ByteArray} (ga0 : a0.size ≤ lim) {k : Nat} (hk : Fuel k) : spec_NameOk.t k a0 = some (spec_NameOk.v a0) := (spec_NameOk.T ga0).val hk
theorem spec_NameOk.fv {a0 : ByteArray} (ga0 : a0.size ≤ lim) {k : Nat} (hk : Fuel k) {β : Type} (K : Bool → Option β) : spec_NameOk.f k a0 K = K (spec_NameOk.v a0) := spec_NameOk.f_of (spec_NameOk.tv ga0 hk) K
theorem spec_l2Term.f_of {β : Type} {k : Nat} {a0_0 : Int} {a0_1 : ByteArray} {a0_2 : List (List D)} {z0 : Bool} (h : spec_l2Term.t k a0_0 a0_1 a0_2 = some z0) (K : Bool → Option β) : spec_l2Term.f k a0_0 a0_1 a0_2 K = K z0 := by
  unfold spec_l2Term.f
  rw [h]
theorem spec_l2Term.tm {ι α : Type} {ok : ι → Prop} {ψ : α → Prop} {p : ι → Nat} (hp : ∀ i, ok i → big ≤ p i) {a0_0 : Int} {a0_1 : ByteArray} {a0_2 : List (List D)} {φ : Bool → Prop} (h : Tm Fuel (fun k => spec_l2Term.t k a0_0 a0_1 a0_2) φ) {G : ι → Bool → Option α} (hG : ∀ z0, φ z0 → Tm ok (fun i => G i z0) ψ) : Tm ok (fun i => spec_l2Term.f (p i) a0_0 a0_1 a0_2 (G i)) ψ := by
  obtain ⟨z0, h1, h2⟩ := h
  exact (hG z0 h1).congr fun i hi => spec_l2Term.f_of (h2 (p i) (hp i hi)) _
theorem spec_l2Term.T {a0_0 : Int} {a0_1 : ByteArray} {a0_2 : List (List D)} (ga0_1 : a0_1.size ≤ lim) (ga0_2 : SlOk RS lim a0_2) : Tm Fuel (fun k => spec_l2Term.t k a0_0 a0_1 a0_2) (fun _ => True) := by
  unfold spec_l2Term.t spec_l2Term.g
  have hm := maxLen_eq
  have hlim : lim = 1048576 := rfl
  have la0_2 := ga0_2.1
  refine Tm.loop (okk := Fuel) (p := fun k => k) (fun i hi => hi) (b := fun k => spec_l2Term.l0 k (a0_2.length : Int) a0_0 a0_1 a0_2 (fun z0 => some z0)) (fun i => (((a0_2.length : Int)) - i).toNat) (fun i => 0 ≤ i ∧ i ≤ (a0_2.length : Int)) ?_ ?_ ?_
  · rintro i hI
    try simp only [] at hI ⊢
    have : big = 2 ^ 100 := rfl
    omega
  · ((try simp only []); omega)
  · rintro i hI L hL
    try simp only [] at hI
    obtain ⟨i0, i1⟩ := hI
    simp only [spec_l2Term.l0]
    refine Tm.ite (fun h1 => ?_) (fun h1 => ?_)
    · try simp only [decide_eq_true_eq, decide_eq_false_iff_not, Int.not_lt, Int.not_le, bne_iff_ne, ne_eq, bne_eq_false_iff_eq, Bool.not_eq_true', Bool.not_eq_false'] at h1
      refine Tm.atRow (by first | assumption | omega | (simp only [lim, maxLen_eq] at *; omega)) (by first | assumption | omega | (simp only [lim, maxLen_eq] at *; omega)) (fun x2 hx3 hm4 => ?_)
      obtain ⟨c5, rfl, g6, _⟩ := ga0_2.2 x2 hm4
      refine Tm.uncons ?_
      refine Tm.dStr ?_
      refine Tm.atEnd ?_
      refine spec_NameOk.tm (fun i hi => hi.1) (spec_NameOk.T (by first | assumption | omega | (simp only [lim, maxLen_eq] at *; omega))) (fun y8 hy7 => ?_)
      refine Tm.ite (fun h9 => ?_) (fun h9 => ?_)
      · try simp only [decide_eq_true_eq, decide_eq_false_iff_not, Int.not_lt, Int.not_le, bne_iff_ne, ne_eq, bne_eq_false_iff_eq, Bool.not_eq_true', Bool.not_eq_false'] at h9
        exact Tm.ret (by trivial)
      · try simp only [decide_eq_true_eq, decide_eq_false_iff_not, Int.not_lt, Int.not_le, bne_iff_ne, ne_eq, bne_eq_false_iff_eq, Bool.not_eq_true', Bool.not_eq_false'] at h9
        refine Tm.ite (fun h10 => ?_) (fun h10 => ?_)
        · try simp only [decide_eq_true_eq, decide_eq_false_iff_not, Int.not_lt, Int.not_le, bne_iff_ne, ne_eq, bne_eq_false_iff_eq, Bool.not_eq_true', Bool.not_eq_false'] at h10
          try rw [wrap_i64 (x := i - 1) (by omega) (by omega)]
          refine Tm.atRow (by first | assumption | omega | (simp only [lim, maxLen_eq] at *; omega)) (by first | assumption | omega | (simp only [lim, maxLen_eq] at *; omega)) (fun x11 hx12 hm13 => ?_)
          obtain ⟨c14, rfl, g15, _⟩ := ga0_2.2 x11 hm13
          refine Tm.uncons ?_
          refine Tm.dStr ?_
          refine Tm.atEnd ?_
          refine Tm.atRow (by first | assumption | omega | (simp only [lim, maxLen_eq] at *; omega)) (by first | assumption | omega | (simp only [lim, maxLen_eq] at *; omega)) (fun x16 hx17 hm18 => ?_)
          rw [hx3] at hx17
          injection hx17 with hx17
          subst hx17
          refine Tm.uncons ?_
          refine Tm.dStr ?_
          refine Tm.atEnd ?_
          refine Tm.ite (fun h20 => ?_) (fun h20 => ?_)
          · try simp only [decide_eq_true_eq, decide_eq_false_iff_not, Int.not_lt, Int.not_le, bne_iff_ne, ne_eq, bne_eq_false_iff_eq, Bool.not_eq_true', Bool.not_eq_false'] at h20
            exact Tm.ret (by trivial)
          · try simp only [decide_eq_true_eq, decide_eq_false_iff_not, Int.not_lt, Int.not_le, bne_iff_ne, ne_eq, bne_eq_false_iff_eq, Bool.not_eq_true', Bool.not_eq_false'] at h20
            try rw [wrap_i64 (x := i + 1) (by omega) (by omega)]
            exact hL ((i + 1)) (by (try simp only []); omega) (by (try simp only []); omega)
        · try simp only [decide_eq_true_eq, decide_eq_false_iff_not, Int.not_lt, Int.not_le, bne_iff_ne, ne_eq, bne_eq_false_iff_eq, Bool.not_eq_true', Bool.not_eq_false'] at h10
          try rw [wrap_i64 (x := i + 1) (by omega) (by omega)]
          exact hL ((i + 1)) (by (try simp only []); omega) (by (try simp only []); omega)
    · try simp only [decide_eq_true_eq, decide_eq_false_iff_not, Int.not_lt, Int.not_le, bne_iff_ne, ne_eq, bne_eq_false_iff_eq, Bool.not_eq_true', Bool.not_eq_false'] at h1
      refine spec_NameOk.tm (fun i hi => hi.1) (spec_NameOk.T (by first | assumption | omega | (simp only [lim, maxLen_eq] at *; omega))) (fun y22 hy21 => ?_)
      refine Tm.ite (fun h23 => ?_) (fun h23 => ?_)
      · try simp only [decide_eq_true_eq, decide_eq_false_iff_not, Int.not_lt, Int.not_le, bne_iff_ne, ne_eq, bne_eq_false_iff_eq, Bool.not_eq_true', Bool.not_eq_false'] at h23
        exact Tm.ret (by trivial)
      · try simp only [decide_eq_true_eq, decide_eq_false_iff_not, Int.not_lt, Int.not_le, bne_iff_ne, ne_eq, bne_eq_false_iff_eq, Bool.not_eq_true', Bool.not_eq_false'] at h23
        refine Tm.ite (fun h24 => ?_) (fun h24 => ?_)
        · try simp only [decide_eq_true_eq, decide_eq_false_iff_not, Int.not_lt, Int.not_le, bne_iff_ne, ne_eq, bne_eq_false_iff_eq, Bool.not_eq_true', Bool.not_eq_false'] at h24
          refine Tm.ite (fun h25 => ?_) (fun h25 => ?_)
          · try simp only [decide_eq_true_eq, decide_eq_false_iff_not, Int.not_lt, Int.not_le, bne_iff_ne, ne_eq, bne_eq_false_iff_eq, Bool.not_eq_true', Bool.not_eq_false'] at h25
            exact Tm.ret (by trivial)
          · try simp only [decide_eq_true_eq, decide_eq_false_iff_not, Int.not_lt, Int.not_le, bne_iff_ne, ne_eq, bne_eq_false_iff_eq, Bool.not_eq_true', Bool.not_eq_false'] at h25
            refine Tm.ite (fun h26 => ?_) (fun h26 => ?_)
            · try simp only [decide_eq_true_eq, decide_eq_false_iff_not, Int.not_lt, Int.not_le, bne_iff_ne, ne_eq, bne_eq_false_iff_eq, Bool.not_eq_true', Bool.not_eq_false'] at h26
              refine spec_l1In.tm (fun i hi => hi.1) (spec_l1In.T) (fun y28 hy27 => ?_)
              exact Tm.ret (by trivial)
            · try simp only [decide_eq_true_eq, decide_eq_false_iff_not, Int.not_lt, Int.not_le, bne_iff_ne, ne_eq, bne_eq_false_iff_eq, Bool.not_eq_true', Bool.not_eq_false'] at h26
              refine Tm.ite (fun h29 => ?_) (fun h29 => ?_)
              · try simp only [decide_eq_true_eq, decide_eq_false_iff_not, Int.not_lt, Int.not_le, bne_iff_ne, ne_eq, bne_eq_false_iff_eq, Bool.not_eq_true', Bool.not_eq_false'] at h29
                refine Tm.ite (fun h30 => ?_) (fun h30 => ?_)
                · try simp only [decide_eq_true_eq, decide_eq_false_iff_not, Int.not_lt, Int.not_le, bne_iff_ne, ne_eq, bne_eq_false_iff_eq, Bool.not_eq_true', Bool.not_eq_false'] at h30
                  exact Tm.ret (by trivial)
                · try simp only [decide_eq_true_eq, decide_eq_false_iff_not, Int.not_lt, Int.not_le, bne_iff_ne, ne_eq, bne_eq_false_iff_eq, Bool.not_eq_true', Bool.not_eq_false'] at h30
                  exact Tm.ret (by trivial)
              · try simp only [decide_eq_true_eq, decide_eq_false_iff_not, Int.not_lt, Int.not_le, bne_iff_ne, ne_eq, bne_eq_false_iff_eq, Bool.not_eq_true', Bool.not_eq_false'] at h29
                refine Tm.ite (fun h31 => ?_) (fun h31 => ?_)
                · try simp only [decide_eq_true_eq, decide_eq_false_iff_not, Int.not_lt, Int.not_le, bne_iff_ne, ne_eq, bne_eq_false_iff_eq, Bool.not_eq_true', Bool.not_eq_false'] at h31
                  exact Tm.ret (by trivial)
                · try simp only [decide_eq_true_eq, decide_eq_false_iff_not, Int.not_lt, Int.not_le, bne_iff_ne, ne_eq, bne_eq_false_iff_eq, Bool.not_eq_true', Bool.not_eq_false'] at h31
                  exact Tm.ret (by trivial)
        · try simp only [decide_eq_true_eq, decide_eq_false_iff_not, Int.not_lt, Int.not_le, bne_iff_ne, ne_eq, bne_eq_false_iff_eq, Bool.not_eq_true', Bool.not_eq_false'] at h24
          refine Tm.ite (fun h32 => ?_) (fun h32 => ?_)
          · try simp only [decide_eq_true_eq, decide_eq_false_iff_not, Int.not_lt, Int.not_le, bne_iff_ne, ne_eq, bne_eq_false_iff_eq, Bool.not_eq_true', Bool.not_eq_false'] at h32
            exact Tm.ret (by trivial)
          · try simp only [decide_eq_true_eq, decide_eq_false_iff_not, Int.not_lt, Int.not_le, bne_iff_ne, ne_eq, bne_eq_false_iff_eq, Bool.not_eq_true', Bool.not_eq_false'] at h32
            refine Tm.ite (fun h33 => ?_) (fun h33 => ?_)
            · try simp only [decide_eq_true_eq, decide_eq_false_iff_not, Int.not_lt, Int.not_le, bne_iff_ne, ne_eq, bne_eq_false_iff_eq, Bool.not_eq_true', Bool.not_eq_false'] at h33
              refine spec_l1In.tm (fun i hi => hi.1) (spec_l1In.T) (fun y35 hy34 => ?_)
              exact Tm.ret (by trivial)
            · try simp only [decide_eq_true_eq, decide_eq_false_iff_not, Int.not_lt, Int.not_le, bne_iff_ne, ne_eq, bne_eq_false_iff_eq, Bool.not_eq_true', Bool.not_eq_false'] at h33
              refine Tm.ite (fun h36 => ?_) (fun h36 => ?_)
              · try simp only [decide_eq_true_eq, decide_eq_false_iff_not, Int.not_lt, Int.not_le, bne_iff_ne, ne_eq, bne_eq_false_iff_eq, Bool.not_eq_true', Bool.not_eq_false'] at h36
                refine Tm.ite (fun h37 => ?_) (fun h37 => ?_)
                · try simp only [decide_eq_true_eq, decide_eq_false_iff_not, Int.not_lt, Int.not_le, bne_iff_ne, ne_eq, bne_eq_false_iff_eq, Bool.not_eq_true', Bool.not_eq_false'] at h37
                  exact Tm.ret (by trivial)
                · try simp only [decide_eq_true_eq, decide_eq_false_iff_not, Int.not_lt, Int.not_le, bne_iff_ne, ne_eq, bne_eq_false_iff_eq, Bool.not_eq_true', Bool.not_eq_false'] at h37
                  exact Tm.ret (by trivial)
              · try simp only [decide_eq_true_eq, decide_eq_false_iff_not, Int.not_lt, Int.not_le, bne_iff_ne, ne_eq, bne_eq_false_iff_eq, Bool.not_eq_true', Bool.not_eq_false'] at h36
                refine Tm.ite (fun h38 => ?_) (fun h38 => ?_)
                · try simp only [decide_eq_true_eq, decide_eq_false_iff_not, Int.not_lt, Int.not_le, bne_iff_ne, ne_eq, bne_eq_false_iff_eq, Bool.not_eq_true', Bool.not_eq_false'] at h38
                  exact Tm.ret (by trivial)
                · try simp only [decide_eq_true_eq, decide_eq_false_iff_not, Int.not_lt, Int.not_le, bne_iff_ne, ne_eq, bne_eq_false_iff_eq, Bool.not_eq_true', Bool.not_eq_false'] at h38
                  exact Tm.ret (by trivial)
noncomputable def spec_l2Term.v (a0_0 : Int) (a0_1 : ByteArray) (a0_2 : List (List D)) : Bool := (spec_l2Term.t big a0_0 a0_1 a0_2).getD default
theorem spec_l2Term.tv {a0_0 : Int} {a0_1 : ByteArray} {a0_2 : List (List D)} (ga0_1 : a0_1.size ≤ lim) (ga0_2 : SlOk RS lim a0_2) {k : Nat} (hk : Fuel k) : spec_l2Term.t k a0_0 a0_1 a0_2 = some (spec_l2Term.v a0_0 a0_1 a0_2) := (spec_l2Term.T ga0_1 ga0_2).val hk
theorem spec_l2Term.fv {a0_0 : Int} {a0_1 : ByteArray} {a0_2 : List (List D)} (ga0_1 : a0_1.size ≤ lim) (ga0_2 : SlOk RS lim a0_2) {k : Nat} (hk : Fuel k) {β : Type} (K : Bool → Option β) : spec_l2Term.f k a0_0 a0_1 a0_2 K = K (spec_l2Term.v a0_0 a0_1 a0_2) := spec_l2Term.f_of (spec_l2Term.tv ga0_1 ga0_2 hk) K
theorem spec_SelectorOk.f_of {β : Type} {k : Nat} {a0 : List (List D)} {z0 : Bool} (h : spec_SelectorOk.t k a0 = some z0) (K : Bool → Option β) : spec_SelectorOk.f k a0 K = K z0 := by
  unfold spec_SelectorOk.f
  rw [h]
theorem spec_SelectorOk.tm {ι α : Type} {ok : ι → Prop} {ψ : α → Prop} {p : ι → Nat} (hp : ∀ i, ok i → big ≤ p i) {a0 : List (List D)} {φ : Bool → Prop} (h : Tm Fuel (fun k => spec_SelectorOk.t k a0) φ) {G : ι → Bool → Option α} (hG : ∀ z0, φ z0 → Tm ok (fun i => G i z0) ψ) : Tm ok (fun i => spec_SelectorOk.f (p i) a0 (G i)) ψ := by
  obtain ⟨z0, h1, h2⟩ := h
  exact (hG z0 h1).congr fun i hi => spec_SelectorOk.f_of (h2 (p i) (hp i hi)) _
theorem spec_SelectorOk.T {a0 : List (List D)} (ga0 : SlOk RISLSE lim a0) : Tm Fuel (fun k => spec_SelectorOk.t k a0) (fun _ => True) := by
  unfold spec_SelectorOk.t spec_SelectorOk.g
  have hm := maxLen_eq
  have hlim : lim = 1048576 := rfl
  have la0 := ga0.1
  refine Tm.loop (okk := Fuel) (p := fun k => k) (fun i hi => hi) (b := fun k => spec_SelectorOk.l0 k a0 (fun z0 => some z0)) (fun i => (((a0.length : Int)) - i).toNat) (fun i => 0 ≤ i ∧ i ≤ (a0.length : Int)) ?_ ?_ ?_
  · rintro i hI
    try simp only [] at hI ⊢
    have : big = 2 ^ 100 := rfl
    omega
  · ((try simp only []); omega)
  · rintro i hI L hL
    try simp only [] at hI
    obtain ⟨i0, i1⟩ := hI
    simp only [spec_SelectorOk.l0]
    refine Tm.ite (fun h1 => ?_) (fun h1 => ?_)
    · try simp only [decide_eq_true_eq, decide_eq_false_iff_not, Int.not_lt, Int.not_le, bne_iff_ne, ne_eq, bne_eq_false_iff_eq, Bool.not_eq_true', Bool.not_eq_false'] at h1
      refine Tm.atRow (by first | assumption | omega | (simp only [lim, maxLen_eq] at *; omega)) (by first | assumption | omega | (simp only [lim, maxLen_eq] at *; omega)) (fun x2 hx3 hm4 => ?_)
      obtain ⟨c5, c6, c7, rfl, g8, g9, g10, _⟩ := ga0.2 x2 hm4
      refine Tm.uncons ?_
      refine Tm.dInt ?_
      refine Tm.uncons ?_
      refine Tm.dStr ?_
      refine Tm.uncons ?_
      refine Tm.dSl ?_
      refine Tm.atEnd ?_
      refine spec_l2Term.tm (fun i hi => hi.1) (spec_l2Term.T (by first | assumption | omega | (simp only [lim, maxLen_eq] at *; omega)) (by first | assumption | omega | (simp only [lim, maxLen_eq] at *; omega))) (fun y12 hy11 => ?_)
      refine Tm.ite (fun h13 => ?_) (fun h13 => ?_)
      · try simp only [decide_eq_true_eq, decide_eq_false_iff_not, Int.not_lt, Int.not_le, bne_iff_ne, ne_eq, bne_eq_false_iff_eq, Bool.not_eq_true', Bool.not_eq_false'] at h13
        exact Tm.ret (by trivial)
      · try simp only [decide_eq_true_eq, decide_eq_false_iff_not, Int.not_lt, Int.not_le, bne_iff_ne, ne_eq, bne_eq_false_iff_eq, Bool.not_eq_true', Bool.not_eq_false'] at h13
        try rw [wrap_i64 (x := i + 1) (by omega) (by omega)]
        exact hL ((i + 1)) (by (try simp only []); omega) (by (try simp only []); omega)
    · try simp only [decide_eq_true_eq, decide_eq_false_iff_not, Int.not_lt, Int.not_le, bne_iff_ne, ne_eq, bne_eq_false_iff_eq, Bool.not_eq_true', Bool.not_eq_false'] at h1
      exact Tm.ret (by trivial)
noncomputable def spec_SelectorOk.v (a0 : List (List D)) : Bool := (spec_SelectorOk.t big a0).getD default
theorem spec_SelectorOk.tv {a0 : List (List D)} (ga0 : SlOk RISLSE lim a0) {k : Nat} (hk : Fuel k) : spec_SelectorOk.t k a0 = some (spec_SelectorOk.v a0) := (spec_SelectorOk.T ga0).val hk
theorem spec_SelectorOk.fv {a0 : List (List D)} (ga0 : SlOk RISLSE lim a0) {k : Nat} (hk : Fuel k) {β : Type} (K : Bool → Option β) : spec_SelectorOk.f k a0 K = K (spec_SelectorOk.v a0) := spec_SelectorOk.f_of (spec_SelectorOk.tv ga0 hk) K
theorem spec_l10Names.f_of {β : Type} {k : Nat} {a0 : List (List D)} {a1 : Int} {z0 : Bool} (h : spec_l10Names.t k a0 a1 = some z0) (K : Bool → Option β) : spec_l10Names.f k a0 a1 K = K z0 := by
  unfold spec_l10Names.f
  rw [h]
theorem spec_l10Names.tm {ι α : Type} {ok : ι → Prop} {ψ : α → Prop} {p : ι → Nat} (hp : ∀ i, ok i → big ≤ p i) {a0 : List (List D)} {a1 : Int} {φ : Bool → Prop} (h : Tm Fuel (fun k => spec_l10Names.t k a0 a1) φ) {G : ι → Bool → Option α} (hG : ∀ z0, φ z0 → Tm ok (fun i => G i z0) ψ) : Tm ok (fun i => spec_l10Names.f (p i) a0 a1 (G i)) ψ := by
  obtain ⟨z0, h1, h2⟩ := h
  exact (hG z0 h1).congr fun i hi => spec_l10Names.f_of (h2 (p i) (hp i hi)) _
theorem spec_l10Names.T {a0 : List (List D)} {a1 : Int} (ga0 : SlOk RS lim a0) : Tm Fuel (fun k => spec_l10Names.t k a0 a1) (fun _ => True) := by
  unfold spec_l10Names.t spec_l10Names.g
  have hm := maxLen_eq
  have hlim : lim = 1048576 := rfl
  have la0 := ga0.1
  refine Tm.loop (okk := Fuel) (p := fun k => k) (fun i hi => hi) (b := fun k => spec_l10Names.l0 k a0 a1 (fun z0 => some z0)) (fun i => (((a0.length : Int)) - i).toNat) (fun i => 0 ≤ i ∧ i ≤ (a0.length : Int)) ?_ ?_ ?_
  · rintro i hI
    try simp only [] at hI ⊢
    have : big = 2 ^ 100 := rfl
    omega
  · ((try simp only []); omega)
  · rintro i hI L hL
    try simp only [] at hI
    obtain ⟨i0, i1⟩ := hI
    simp only [spec_l10Names.l0]
    refine Tm.ite (fun h1 => ?_) (fun h1 => ?_)
    · try simp only [decide_eq_true_eq, decide_eq_false_iff_not, Int.not_lt, Int.not_le, bne_iff_ne, ne_eq, bne_eq_false_iff_eq, Bool.not_eq_true', Bool.not_eq_false'] at h1
      refine Tm.atRow (by first | assumption | omega | (simp only [lim, maxLen_eq] at *; omega)) (by first | assumption | omega | (simp only [lim, maxLen_eq] at *; omega)) (fun x2 hx3 hm4 => ?_)
      obtain ⟨c5, rfl, g6, _⟩ := ga0.2 x2 hm4
      refine Tm.uncons ?_
      refine Tm.dStr ?_
      refine Tm.atEnd ?_
      refine spec_NameOk.tm (fun i hi => hi.1) (spec_NameOk.T (by first | assumption | omega | (simp only [lim, maxLen_eq] at *; omega))) (fun y8 hy7 => ?_)
      refine Tm.ite (fun h9 => ?_) (fun h9 => ?_)
      · try simp only [decide_eq_true_eq, decide_eq_false_iff_not, Int.not_lt, Int.not_le, bne_iff_ne, ne_eq, bne_eq_false_iff_eq, Bool.not_eq_true', Bool.not_eq_false'] at h9
        exact Tm.ret (by trivial)
      · try simp only [decide_eq_true_eq, decide_eq_false_iff_not, Int.not_lt, Int.not_le, bne_iff_ne, ne_eq, bne_eq_false_iff_eq, Bool.not_eq_true', Bool.not_eq_false'] at h9
        refine Tm.ite (fun h10 => ?_) (fun h10 => ?_)
        · try simp only [decide_eq_true_eq, decide_eq_false_iff_not, Int.not_lt, Int.not_le, bne_iff_ne, ne_eq, bne_eq_false_iff_eq, Bool.not_eq_true', Bool.not_eq_false'] at h10
          try rw [wrap_i64 (x := i - 1) (by omega) (by omega)]
          refine Tm.atRow (by first | assumption | omega | (simp only [lim, maxLen_eq] at *; omega)) (by first | assumption | omega | (simp only [lim, maxLen_eq] at *; omega)) (fun x11 hx12 hm13 => ?_)
          obtain ⟨c14, rfl, g15, _⟩ := ga0.2 x11 hm13
          refine Tm.uncons ?_
          refine Tm.dStr ?_
          refine Tm.atEnd ?_
          refine Tm.atRow (by first | assumption | omega | (simp only [lim, maxLen_eq] at *; omega)) (by first | assumption | omega | (simp only [lim, maxLen_eq] at *; omega)) (fun x16 hx17 hm18 => ?_)
          rw [hx3] at hx17
          injection hx17 with hx17
          subst hx17
          refine Tm.uncons ?_
          refine Tm.dStr ?_
          refine Tm.atEnd ?_
          refine Tm.ite (fun h20 => ?_) (fun h20 => ?_)
          · try simp only [decide_eq_true_eq, decide_eq_false_iff_not, Int.not_lt, Int.not_le, bne_iff_ne, ne_eq, bne_eq_false_iff_eq, Bool.not_eq_true', Bool.not_eq_false'] at h20
            exact Tm.ret (by trivial)
          · try simp only [decide_eq_true_eq, decide_eq_false_iff_not, Int.not_lt, Int.not_le, bne_iff_ne, ne_eq, bne_eq_false_iff_eq, Bool.not_eq_true', Bool.not_eq_false'] at h20
            try rw [wrap_i64 (x := i + 1) (by omega) (by omega)]
            exact hL ((i + 1)) (by (try simp only []); omega) (by (try simp only []); omega)
        · try simp only [decide_eq_true_eq, decide_eq_false_iff_not, Int.not_lt, Int.not_le, bne_iff_ne, ne_eq, bne_eq_false_iff_eq, Bool.not_eq_true', Bool.not_eq_false'] at h10
          try rw [wrap_i64 (x := i + 1) (by omega) (by omega)]
          exact hL ((i + 1)) (by (try simp only []); omega) (by (try simp only []); omega)
    · try simp only [decide_eq_true_eq, decide_eq_false_iff_not, Int.not_lt, Int.not_le, bne_iff_ne, ne_eq, bne_eq_false_iff_eq, Bool.not_eq_true', Bool.not_eq_false'] at h1
      exact Tm.ret (by trivial)
noncomputable def spec_l10Names.v (a0 : List (List D)) (a1 : Int) : Bool := (spec_l10Names.t big a0 a1).getD default
theorem spec_l10Names.tv {a0 : List (List D)} {a1 : Int} (ga0 : SlOk RS lim a0) {k : Nat} (hk : Fuel k) : spec_l10Names.t k a0 a1 = some (spec_l10Names.v a0 a1) := (spec_l10Names.T ga0).val hk
theorem spec_l10Names.fv {a0 : List (List D)} {a1 : Int} (ga0 : SlOk RS lim a0) {k : Nat} (hk : Fuel k) {β : Type} (K : Bool → Option β) : spec_l10Names.f k a0 a1 K = K (spec_l10Names.v a0 a1) := spec_l10Names.f_of (spec_l10Names.tv ga0 hk) K
theorem spec_WantOk.f_of {β : Type} {k : Nat} {a0_0 : Int} {a0_1 : List (List D)} {a0_2 : List (List D)} {a0_3 : List (List D)} {z0 : Bool} (h : spec_WantOk.t k a0_0 a0_1 a0_2 a0_3 = some z0) (K : Bool → Option β) : spec_WantOk.f k a0_0 a0_1 a0_2 a0_3 K = K z0 := by
  unfold spec_WantOk.f
  rw [h]
theorem spec_WantOk.tm {ι α : Type} {ok : ι → Prop} {ψ : α → Prop} {p : ι → Nat} (hp : ∀ i, ok i → big ≤ p i) {a0_0 : Int} {a0_1 : List (List D)} {a0_2 : List (List D)} {a0_3 : List (List D)} {φ : Bool → Prop} (h : Tm Fuel (fun k => spec_WantOk.t k a0_0 a0_1 a0_2 a0_3) φ) {G : ι → Bool → Option α} (hG : ∀ z0, φ z0 → Tm ok (fun i => G i z0) ψ) : Tm ok (fun i => spec_WantOk.f (p i) a0_0 a0_1 a0_2 a0_3 (G i)) ψ := by
  obtain ⟨z0, h1, h2⟩ := h
  exact (hG z0 h1).congr fun i hi => spec_WantOk.f_of (h2 (p i) (hp i hi)) _
theorem spec_WantOk.T {a0_0 : Int} {a0_1 : List (List D)} {a0_2 : List (List D)} {a0_3 : List (List D)} (ga0_1 : SlOk RISLSE lim a0_1) (ga0_2 : SlOk RS lim a0_2) (ga0_3 : SlOk RSI lim a0_3) : Tm Fuel (fun k => spec_WantOk.t k a0_0 a0_1 a0_2 a0_3) (fun _ => True) := by
  unfold spec_WantOk.t spec_WantOk.g
  have hm := maxLen_eq
  have hlim : lim = 1048576 := rfl
  have la0_1 := ga0_1.1
  have la0_2 := ga0_2.1
  have la0_3 := ga0_3.1
  refine Tm.loop (okk := Fuel) (p := fun k => k) (fun i hi => hi) (b := fun k => spec_WantOk.l0 k a0_0 a0_1 a0_2 a0_3 (fun z0 => some z0)) (fun i => (((a0_3.length : Int)) - i).toNat) (fun i => 0 ≤ i ∧ i ≤ (a0_3.length : Int)) ?_ ?_ ?_
  · rintro i hI
    try simp only [] at hI ⊢
    have : big = 2 ^ 100 := rfl
    omega
  · ((try simp only []); omega)
  · rintro i hI L hL
    try simp only [] at hI
    obtain ⟨i0, i1⟩ := hI
    simp only [spec_WantOk.l0]
    refine Tm.ite (fun h1 => ?_) (fun h1 => ?_)
    · try simp only [decide_eq_true_eq, decide_eq_false_iff_not, Int.not_lt, Int.not_le, bne_iff_ne, ne_eq, bne_eq_false_iff_eq, Bool.not_eq_true', Bool.not_eq_false'] at h1
      refine Tm.atRow (by first | assumption | omega | (simp only [lim, maxLen_eq] at *; omega)) (by first | assumption | omega | (simp only [lim, maxLen_eq] at *; omega)) (fun x2 hx3 hm4 => ?_)
      obtain ⟨c5, c6, rfl, g7, g8, _⟩ := ga0_3.2 x2 hm4
      refine Tm.uncons ?_
      refine Tm.dStr ?_
      refine Tm.uncons ?_
      refine Tm.dInt ?_
      refine Tm.atEnd ?_
      refine spec_NameOk.tm (fun i hi => hi.1) (spec_NameOk.T (by first | assumption | omega | (simp only [lim, maxLen_eq] at *; omega))) (fun y10 hy9 => ?_)
      refine Tm.ite (fun h11 => ?_) (fun h11 => ?_)
      · try simp only [decide_eq_true_eq, decide_eq_false_iff_not, Int.not_lt, Int.not_le, bne_iff_ne, ne_eq, bne_eq_false_iff_eq, Bool.not_eq_true', Bool.not_eq_false'] at h11
        exact Tm.ret (by trivial)
      · try simp only [decide_eq_true_eq, decide_eq_false_iff_not, Int.not_lt, Int.not_le, bne_iff_ne, ne_eq, bne_eq_false_iff_eq, Bool.not_eq_true', Bool.not_eq_false'] at h11
        refine Tm.atRow (by first | assumption | omega | (simp only [lim, maxLen_eq] at *; omega)) (by first | assumption | omega | (simp only [lim, maxLen_eq] at *; omega)) (fun x12 hx13 hm14 => ?_)
        rw [hx3] at hx13
        injection hx13 with hx13
        subst hx13
        refine Tm.uncons ?_
        refine Tm.dStr ?_
        refine Tm.uncons ?_
        refine Tm.dInt ?_
        refine Tm.atEnd ?_
        refine spec_l1In.tm (fun i hi => hi.1) (spec_l1In.T) (fun y18 hy17 => ?_)
        refine Tm.ite (fun h19 => ?_) (fun h19 => ?_)
        · try simp only [decide_eq_true_eq, decide_eq_false_iff_not, Int.not_lt, Int.not_le, bne_iff_ne, ne_eq, bne_eq_false_iff_eq, Bool.not_eq_true', Bool.not_eq_false'] at h19
          exact Tm.ret (by trivial)
        · try simp only [decide_eq_true_eq, decide_eq_false_iff_not, Int.not_lt, Int.not_le, bne_iff_ne, ne_eq, bne_eq_false_iff_eq, Bool.not_eq_true', Bool.not_eq_false'] at h19
          have z20 := hy17 h19
          refine Tm.ite (fun h21 => ?_) (fun h21 => ?_)
          · try simp only [decide_eq_true_eq, decide_eq_false_iff_not, Int.not_lt, Int.not_le, bne_iff_ne, ne_eq, bne_eq_false_iff_eq, Bool.not_eq_true', Bool.not_eq_false'] at h21
            try rw [wrap_i64 (x := i - 1) (by omega) (by omega)]
            refine Tm.atRow (by first | assumption | omega | (simp only [lim, maxLen_eq] at *; omega)) (by first | assumption | omega | (simp only [lim, maxLen_eq] at *; omega)) (fun x22 hx23 hm24 => ?_)
            obtain ⟨c25, c26, rfl, g27, g28, _⟩ := ga0_3.2 x22 hm24
            refine Tm.uncons ?_
            refine Tm.dStr ?_
            refine Tm.uncons ?_
            refine Tm.dInt ?_
            refine Tm.atEnd ?_
            refine Tm.atRow (by first | assumption | omega | (simp only [lim, maxLen_eq] at *; omega)) (by first | assumption | omega | (simp only [lim, maxLen_eq] at *; omega)) (fun x29 hx30 hm31 => ?_)
            rw [hx3] at hx30
            injection hx30 with hx30
            subst hx30
            refine Tm.uncons ?_
            refine Tm.dStr ?_
            refine Tm.uncons ?_
            refine Tm.dInt ?_
            refine Tm.atEnd ?_
            refine Tm.ite (fun h34 => ?_) (fun h34 => ?_)
            · try simp only [decide_eq_true_eq, decide_eq_false_iff_not, Int.not_lt, Int.not_le, bne_iff_ne, ne_eq, bne_eq_false_iff_eq, Bool.not_eq_true', Bool.not_eq_false'] at h34
              exact Tm.ret (by trivial)
            · try simp only [decide_eq_true_eq, decide_eq_false_iff_not, Int.not_lt, Int.not_le, bne_iff_ne, ne_eq, bne_eq_false_iff_eq, Bool.not_eq_true', Bool.not_eq_false'] at h34
              try rw [wrap_i64 (x := i + 1) (by omega) (by omega)]
              exact hL ((i + 1)) (by (try simp only []); omega) (by (try simp only []); omega)
          · try simp only [decide_eq_true_eq, decide_eq_false_iff_not, Int.not_lt, Int.not_le, bne_iff_ne, ne_eq, bne_eq_false_iff_eq, Bool.not_eq_true', Bool.not_eq_false'] at h21
            try rw [wrap_i64 (x := i + 1) (by omega) (by omega)]
            exact hL ((i + 1)) (by (try simp only []); omega) (by (try simp only []); omega)
    · try simp only [decide_eq_true_eq, decide_eq_false_iff_not, Int.not_lt, Int.not_le, bne_iff_ne, ne_eq, bne_eq_false_iff_eq, Bool.not_eq_true', Bool.not_eq_false'] at h1
      refine spec_l1In.tm (fun i hi => hi.1) (spec_l1In.T) (fun y36 hy35 => ?_)
      refine Tm.ite (fun h37 => ?_) (fun h37 => ?_)
      · try simp only [decide_eq_true_eq, decide_eq_false_iff_not, Int.not_lt, Int.not_le, bne_iff_ne, ne_eq, bne_eq_false_iff_eq, Bool.not_eq_true', Bool.not_eq_false'] at h37
        have z38 := hy35 h37
        refine spec_SelectorOk.tm (fun i hi => hi.1) (spec_SelectorOk.T (by first | assumption | omega | (simp only [lim, maxLen_eq] at *; omega))) (fun y40 hy39 => ?_)
        refine Tm.ite (fun h41 => ?_) (fun h41 => ?_)
        · try simp only [decide_eq_true_eq, decide_eq_false_iff_not, Int.not_lt, Int.not_le, bne_iff_ne, ne_eq, bne_eq_false_iff_eq, Bool.not_eq_true', Bool.not_eq_false'] at h41
          refine spec_l10Names.tm (fun i hi => hi.1) (spec_l10Names.T (by first | assumption | omega | (simp only [lim, maxLen_eq] at *; omega))) (fun y43 hy42 => ?_)
          refine Tm.ite (fun h44 => ?_) (fun h44 => ?_)
          · try simp only [decide_eq_true_eq, decide_eq_false_iff_not, Int.not_lt, Int.not_le, bne_iff_ne, ne_eq, bne_eq_false_iff_eq, Bool.not_eq_true', Bool.not_eq_false'] at h44
            exact Tm.ret (by trivial)
          · try simp only [decide_eq_true_eq, decide_eq_false_iff_not, Int.not_lt, Int.not_le, bne_iff_ne, ne_eq, bne_eq_false_iff_eq, Bool.not_eq_true', Bool.not_eq_false'] at h44
            exact Tm.ret (by trivial)
        · try simp only [decide_eq_true_eq, decide_eq_false_iff_not, Int.not_lt, Int.not_le, bne_iff_ne, ne_eq, bne_eq_false_iff_eq, Bool.not_eq_true', Bool.not_eq_false'] at h41
          exact Tm.ret (by trivial)
      · try simp only [decide_eq_true_eq, decide_eq_false_iff_not, Int.not_lt, Int.not_le, bne_iff_ne, ne_eq, bne_eq_false_iff_eq, Bool.not_eq_true', Bool.not_eq_false'] at h37
        exact Tm.ret (by trivial)
noncomputable def spec_WantOk.v (a0_0 : Int) (a0_1 : List (List D)) (a0_2 : List (List D)) (a0_3 : List (List D)) : Bool := (spec_WantOk.t big a0_0 a0_1 a0_2 a0_3).getD default
theorem spec_WantOk.tv {a0_0 : Int} {a0_1 : List (List D)} {a0_2 : List (List D)} {a0_3 : List (List D)} (ga0_1 : SlOk RISLSE lim a0_1) (ga0_2 : SlOk RS lim a0_2) (ga0_3 : SlOk RSI lim a0_3) {k : Nat} (hk : Fuel k) : spec_WantOk.t k a0_0 a0_1 a0_2 a0_3 = some (spec_WantOk.v a0_0 a0_1 a0_2 a0_3) := (spec_WantOk.T ga0_1 ga0_2 ga0_3).val hk
theorem spec_WantOk.fv {a0_0 : Int} {a0_1 : List (List D)} {a0_2 : List (List D)} {a0_3 : List (List D)} (ga0_1 : SlOk RISLSE lim a0_1) (ga0_2 : SlOk RS lim a0_2) (ga0_3 : SlOk RSI lim a0_3) {k : Nat} (hk : Fuel k) {β : Type} (K : Bool → Option β) : spec_WantOk.f k a0_0 a0_1 a0_2 a0_3 K = K (spec_WantOk.v a0_0 a0_1 a0_2 a0_3) := spec_WantOk.f_of (spec_WantOk.tv ga0_1 ga0_2 ga0_3 hk) K
theorem impl_within.f_of {β : Type} {k : Nat} {a0 : Int} {a1 : Int} {a2 : Int} {z0 : Bool} (h : impl_within.t k a0 a1 a2 = some z0) (K : Bool → Option β) : impl_within.f k a0 a1 a2 K = K z0 := by
  unfold impl_within.f
  rw [h]
theorem impl_within.tm {ι α : Type} {ok : ι → Prop} {ψ : α → Prop} {p : ι → Nat} (hp : ∀ i, ok i → big ≤ p i) {a0 : Int} {a1 : Int} {a2 : Int} {φ : Bool → Prop} (h : Tm Fuel (fun k => impl_within.t k a0 a1 a2) φ) {G : ι → Bool → Option α} (hG : ∀ z0, φ z0 → Tm ok (fun i => G i z0) ψ) : Tm ok (fun i => impl_within.f (p i) a0 a1 a2 (G i)) ψ := by
  obtain ⟨z0, h1, h2⟩ := h
  exact (hG z0 h1).congr fun i hi => impl_within.f_of (h2 (p i) (hp i hi)) _
theorem impl_NameOk.f_of {β : Type} {k : Nat} {a0 : ByteArray} {z0 : Bool} (h : impl_NameOk.t k a0 = some z0) (K : Bool → Option β) : impl_NameOk.f k a0 K = K z0 := by
  unfold impl_NameOk.f
  rw [h]
theorem impl_NameOk.tm {ι α : Type} {ok : ι → Prop} {ψ : α → Prop} {p : ι → Nat} (hp : ∀ i, ok i → big ≤ p i) {a0 : ByteArray} {φ : Bool → Prop} (h : Tm Fuel (fun k => impl_NameOk.t k a0) φ) {G : ι → Bool → Option α} (hG : ∀ z0, φ z0 → Tm ok (fun i => G i z0) ψ) : Tm ok (fun i => impl_NameOk.f (p i) a0 (G i)) ψ := by
  obtain ⟨z0, h1, h2⟩ := h
  exact (hG z0 h1).congr fun i hi => impl_NameOk.f_of (h2 (p i) (hp i hi)) _
theorem impl_isCopies.f_of {β : Type} {k : Nat} {a0 : Int} {z0 : Bool} (h : impl_isCopies.t k a0 = some z0) (K : Bool → Option β) : impl_isCopies.f k a0 K = K z0 := by
  unfold impl_isCopies.f
  rw [h]
theorem impl_isCopies.tm {ι α : Type} {ok : ι → Prop} {ψ : α → Prop} {p : ι → Nat} (hp : ∀ i, ok i → big ≤ p i) {a0 : Int} {φ : Bool → Prop} (h : Tm Fuel (fun k => impl_isCopies.t k a0) φ) {G : ι → Bool → Option α} (hG : ∀ z0, φ z0 → Tm ok (fun i => G i z0) ψ) : Tm ok (fun i => impl_isCopies.f (p i) a0 (G i)) ψ := by
  obtain ⟨z0, h1, h2⟩ := h
  exact (hG z0 h1).congr fun i hi => impl_isCopies.f_of (h2 (p i) (hp i hi)) _
theorem impl_namesOk.f_of {β : Type} {k : Nat} {a0 : List (List D)} {a1 : Int} {z0 : Bool} (h : impl_namesOk.t k a0 a1 = some z0) (K : Bool → Option β) : impl_namesOk.f k a0 a1 K = K z0 := by
  unfold impl_namesOk.f
  rw [h]
theorem impl_namesOk.tm {ι α : Type} {ok : ι → Prop} {ψ : α → Prop} {p : ι → Nat} (hp : ∀ i, ok i → big ≤ p i) {a0 : List (List D)} {a1 : Int} {φ : Bool → Prop} (h : Tm Fuel (fun k => impl_namesOk.t k a0 a1) φ) {G : ι → Bool → Option α} (hG : ∀ z0, φ z0 → Tm ok (fun i => G i z0) ψ) : Tm ok (fun i => impl_namesOk.f (p i) a0 a1 (G i)) ψ := by
  obtain ⟨z0, h1, h2⟩ := h
  exact (hG z0 h1).congr fun i hi => impl_namesOk.f_of (h2 (p i) (hp i hi)) _
theorem impl_termOk.f_of {β : Type} {k : Nat} {a0_0 : Int} {a0_1 : ByteArray} {a0_2 : List (List D)} {z0 : Bool} (h : impl_termOk.t k a0_0 a0_1 a0_2 = some z0) (K : Bool → Option β) : impl_termOk.f k a0_0 a0_1 a0_2 K = K z0 := by
  unfold impl_termOk.f
  rw [h]
theorem impl_termOk.tm {ι α : Type} {ok : ι → Prop} {ψ : α → Prop} {p : ι → Nat} (hp : ∀ i, ok i → big ≤ p i) {a0_0 : Int} {a0_1 : ByteArray} {a0_2 : List (List D)} {φ : Bool → Prop} (h : Tm Fuel (fun k => impl_termOk.t k a0_0 a0_1 a0_2) φ) {G : ι → Bool → Option α} (hG : ∀ z0, φ z0 → Tm ok (fun i => G i z0) ψ) : Tm ok (fun i => impl_termOk.f (p i) a0_0 a0_1 a0_2 (G i)) ψ := by
  obtain ⟨z0, h1, h2⟩ := h
  exact (hG z0 h1).congr fun i hi => impl_termOk.f_of (h2 (p i) (hp i hi)) _
theorem impl_SelectorOk_1.f_of {β : Type} {k : Nat} {a0_0 : Int} {a0_1 : ByteArray} {a0_2 : List (List D)} {z0 : Bool} (h : impl_SelectorOk_1.t k a0_0 a0_1 a0_2 = some z0) (K : Bool → Option β) : impl_SelectorOk_1.f k a0_0 a0_1 a0_2 K = K z0 := by
  unfold impl_SelectorOk_1.f
  rw [h]
theorem impl_SelectorOk_1.tm {ι α : Type} {ok : ι → Prop} {ψ : α → Prop} {p : ι → Nat} (hp : ∀ i, ok i → big ≤ p i) {a0_0 : Int} {a0_1 : ByteArray} {a0_2 : List (List D)} {φ : Bool → Prop} (h : Tm Fuel (fun k => impl_SelectorOk_1.t k a0_0 a0_1 a0_2) φ) {G : ι → Bool → Option α} (hG : ∀ z0, φ z0 → Tm ok (fun i => G i z0) ψ) : Tm ok (fun i => impl_SelectorOk_1.f (p i) a0_0 a0_1 a0_2 (G i)) ψ := by
  obtain ⟨z0, h1, h2⟩ := h
  exact (hG z0 h1).congr fun i hi => impl_SelectorOk_1.f_of (h2 (p i) (hp i hi)) _
theorem slices_IndexFunc_impl_Term_157.f_of {β : Type} {k : Nat} {a0 : List (List D)} {z0 : Int} (h : slices_IndexFunc_impl_Term_157.t k a0 = some z0) (K : Int → Option β) : slices_IndexFunc_impl_Term_157.f k a0 K = K z0 := by
  unfold slices_IndexFunc_impl_Term_157.f
  rw [h]
theorem slices_IndexFunc_impl_Term_157.tm {ι α : Type} {ok : ι → Prop} {ψ : α → Prop} {p : ι → Nat} (hp : ∀ i, ok i → big ≤ p i) {a0 : List (List D)} {φ : Int → Prop} (h : Tm Fuel (fun k => slices_IndexFunc_impl_Term_157.t k a0) φ) {G : ι → Int → Option α} (hG : ∀ z0, φ z0 → Tm ok (fun i => G i z0) ψ) : Tm ok (fun i => slices_IndexFunc_impl_Term_157.f (p i) a0 (G i)) ψ := by
  obtain ⟨z0, h1, h2⟩ := h
  exact (hG z0 h1).congr fun i hi => slices_IndexFunc_impl_Term_157.f_of (h2 (p i) (hp i hi)) _
theorem slices_ContainsFunc_impl_Term_157.f_of {β : Type} {k : Nat} {a0 : List (List D)} {z0 : Bool} (h : slices_ContainsFunc_impl_Term_157.t k a0 = some z0) (K : Bool → Option β) : slices_ContainsFunc_impl_Term_157.f k a0 K = K z0 := by
  unfold slices_ContainsFunc_impl_Term_157.f
  rw [h]
theorem slices_ContainsFunc_impl_Term_157.tm {ι α : Type} {ok : ι → Prop} {ψ : α → Prop} {p : ι → Nat} (hp : ∀ i, ok i → big ≤ p i) {a0 : List (List D)} {φ : Bool → Prop} (h : Tm Fuel (fun k => slices_ContainsFunc_impl_Term_157.t k a0) φ) {G : ι → Bool → Option α} (hG : ∀ z0, φ z0 → Tm ok (fun i => G i z0) ψ) : Tm ok (fun i => slices_ContainsFunc_impl_Term_157.f (p i) a0 (G i)) ψ := by
  obtain ⟨z0, h1, h2⟩ := h
  exact (hG z0 h1).congr fun i hi => slices_ContainsFunc_impl_Term_157.f_of (h2 (p i) (hp i hi)) _
theorem impl_SelectorOk.f_of {β : Type} {k : Nat} {a0 : List (List D)} {z0 : Bool} (h : impl_SelectorOk.t k a0 = some z0) (K : Bool → Option β) : impl_SelectorOk.f k a0 K = K z0 := by
  unfold impl_SelectorOk.f
  rw [h]
theorem impl_SelectorOk.tm {ι α : Type} {ok : ι → Prop} {ψ : α → Prop} {p : ι → Nat} (hp : ∀ i, ok i → big ≤ p i) {a0 : List (List D)} {φ : Bool → Prop} (h : Tm Fuel (fun k => impl_SelectorOk.t k a0) φ) {G : ι → Bool → Option α} (hG : ∀ z0, φ z0 → Tm ok (fun i => G i z0) ψ) : Tm ok (fun i => impl_SelectorOk.f (p i) a0 (G i)) ψ := by
  obtain ⟨z0, h1, h2⟩ := h
  exact (hG z0 h1).congr fun i hi => impl_SelectorOk.f_of (h2 (p i) (hp i hi)) _
theorem impl_WantOk.f_of {β : Type} {k : Nat} {a0_0 : Int} {a0_1 : List (List D)} {a0_2 : List (List D)} {a0_3 : List (List D)} {z0 : Bool} (h : impl_WantOk.t k a0_0 a0_1 a0_2 a0_3 = some z0) (K : Bool → Option β) : impl_WantOk.f k a0_0 a0_1 a0_2 a0_3 K = K z0 := by
  unfold impl_WantOk.f
  rw [h]
theorem impl_WantOk.tm {ι α : Type} {ok : ι → Prop} {ψ : α → Prop} {p : ι → Nat} (hp : ∀ i, ok i → big ≤ p i) {a0_0 : Int} {a0_1 : List (List D)} {a0_2 : List (List D)} {a0_3 : List (List D)} {φ : Bool → Prop} (h : Tm Fuel (fun k => impl_WantOk.t k a0_0 a0_1 a0_2 a0_3) φ) {G : ι → Bool → Option α} (hG : ∀ z0, φ z0 → Tm ok (fun i => G i z0) ψ) : Tm ok (fun i => impl_WantOk.f (p i) a0_0 a0_1 a0_2 a0_3 (G i)) ψ := by
  obtain ⟨z0, h1, h2⟩ := h
  exact (hG z0 h1).congr fun i hi => impl_WantOk.f_of (h2 (p i) (hp i hi)) _
theorem laws_eqStringS.f_of {β : Type} {k : Nat} {a0 : List (List D)} {a1 : List (List D)} {z0 : Bool} (h : laws_eqStringS.t k a0 a1 = some z0) (K : Bool → Option β) : laws_eqStringS.f k a0 a1 K = K z0 := by
  unfold laws_eqStringS.f
  rw [h]
theorem laws_eqStringS.tm {ι α : Type} {ok : ι → Prop} {ψ : α → Prop} {p : ι → Nat} (hp : ∀ i, ok i → big ≤ p i) {a0 : List (List D)} {a1 : List (List D)} {φ : Bool → Prop} (h : Tm Fuel (fun k => laws_eqStringS.t k a0 a1) φ) {G : ι → Bool → Option α} (hG : ∀ z0, φ z0 → Tm ok (fun i => G i z0) ψ) : Tm ok (fun i => laws_eqStringS.f (p i) a0 a1 (G i)) ψ := by
  obtain ⟨z0, h1, h2⟩ := h
  exact (hG z0 h1).congr fun i hi => laws_eqStringS.f_of (h2 (p i) (hp i hi)) _
theorem laws_eqStringS.T {a0 : List (List D)} (ga0 : SlOk RS lim a0) : Tm Fuel (fun k => laws_eqStringS.t k a0 a0) (fun r => r = true) := by
  unfold laws_eqStringS.t laws_eqStringS.g
  have hm := maxLen_eq
  have hlim : lim = 1048576 := rfl
  have hlen := ga0.1
  refine Tm.ite (fun h1 => ?_) (fun h1 => ?_)
  · try simp only [decide_eq_true_eq, decide_eq_false_iff_not, Int.not_lt, Int.not_le, bne_iff_ne, ne_eq, bne_eq_false_iff_eq, Bool.not_eq_true', Bool.not_eq_false'] at h1
    exact Tm.ret (by first | rfl | (exfalso; simp [strEq_self] at *))
  · try simp only [decide_eq_true_eq, decide_eq_false_iff_not, Int.not_lt, Int.not_le, bne_iff_ne, ne_eq, bne_eq_false_iff_eq, Bool.not_eq_true', Bool.not_eq_false'] at h1
    refine Tm.loop (okk := Fuel) (p := fun k => k) (fun i hi => hi) (b := fun k => laws_eqStringS.l0 k a0 a0 (fun z0 => some z0)) (fun i => (((a0.length : Int)) - i).toNat) (fun i => 0 ≤ i ∧ i ≤ (a0.length : Int)) ?_ ?_ ?_
    · rintro i hI
      try simp only [] at hI ⊢
      have : big = 2 ^ 100 := rfl
      have := ga0.1
      simp only [lim] at this
      omega
    · ((try simp only []); omega)
    · rintro i hI L hL
      try simp only [] at hI
      obtain ⟨i0, i1⟩ := hI
      simp only [laws_eqStringS.l0]
      refine Tm.ite (fun h2 => ?_) (fun h2 => ?_)
      · try simp only [decide_eq_true_eq, decide_eq_false_iff_not, Int.not_lt, Int.not_le, bne_iff_ne, ne_eq, bne_eq_false_iff_eq, Bool.not_eq_true', Bool.not_eq_false'] at h2
        refine Tm.atRow (by first | assumption | omega | (simp only [lim, maxLen_eq] at *; omega)) (by first | assumption | omega | (simp only [lim, maxLen_eq] at *; omega)) (fun x3 hx4 hm5 => ?_)
        obtain ⟨c6, rfl, g7, _⟩ := ga0.2 x3 hm5
        refine Tm.uncons ?_
        refine Tm.dStr ?_
        refine Tm.atEnd ?_
        refine Tm.atRow (by first | assumption | omega | (simp only [lim, maxLen_eq] at *; omega)) (by first | assumption | omega | (simp only [lim, maxLen_eq] at *; omega)) (fun x8 hx9 hm10 => ?_)
        rw [hx4] at hx9
        injection hx9 with hx9
        subst hx9
        refine Tm.uncons ?_
        refine Tm.dStr ?_
        refine Tm.atEnd ?_
        refine Tm.ite (fun h12 => ?_) (fun h12 => ?_)
        · try simp only [decide_eq_true_eq, decide_eq_false_iff_not, Int.not_lt, Int.not_le, bne_iff_ne, ne_eq, bne_eq_false_iff_eq, Bool.not_eq_true', Bool.not_eq_false'] at h12
          exact Tm.ret (by first | rfl | (exfalso; simp [strEq_self] at *))
        · try simp only [decide_eq_true_eq, decide_eq_false_iff_not, Int.not_lt, Int.not_le, bne_iff_ne, ne_eq, bne_eq_false_iff_eq, Bool.not_eq_true', Bool.not_eq_false'] at h12
          try rw [wrap_i64 (x := i + 1) (by omega) (by omega)]
          exact hL ((i + 1)) (by (try simp only []); omega) (by (try simp only []); omega)
      · try simp only [decide_eq_true_eq, decide_eq_false_iff_not, Int.not_lt, Int.not_le, bne_iff_ne, ne_eq, bne_eq_false_iff_eq, Bool.not_eq_true', Bool.not_eq_false'] at h2
        exact Tm.ret (by first | rfl | (exfalso; simp [strEq_self] at *))
theorem laws_eqTerm.f_of {β : Type} {k : Nat} {a0_0 : Int} {a0_1 : ByteArray} {a0_2 : List (List D)} {a1_0 : Int} {a1_1 : ByteArray} {a1_2 : List (List D)} {z0 : Bool} (h : laws_eqTerm.t k a0_0 a0_1 a0_2 a1_0 a1_1 a1_2 = some z0) (K : Bool → Option β) : laws_eqTerm.f k a0_0 a0_1 a0_2 a1_0 a1_1 a1_2 K = K z0 := by
  unfold laws_eqTerm.f
  rw [h]
theorem laws_eqTerm.tm {ι α : Type} {ok : ι → Prop} {ψ : α → Prop} {p : ι → Nat} (hp : ∀ i, ok i → big ≤ p i) {a0_0 : Int} {a0_1 : ByteArray} {a0_2 : List (List D)} {a1_0 : Int} {a1_1 : ByteArray} {a1_2 : List (List D)} {φ : Bool → Prop} (h : Tm Fuel (fun k => laws_eqTerm.t k a0_0 a0_1 a0_2 a1_0 a1_1 a1_2) φ) {G : ι → Bool → Option α} (hG : ∀ z0, φ z0 → Tm ok (fun i => G i z0) ψ) : Tm ok (fun i => laws_eqTerm.f (p i) a0_0 a0_1 a0_2 a1_0 a1_1 a1_2 (G i)) ψ := by
  obtain ⟨z0, h1, h2⟩ := h
  exact (hG z0 h1).congr fun i hi => laws_eqTerm.f_of (h2 (p i) (hp i hi)) _
theorem laws_eqTerm.T {a0_0 : Int} {a0_1 : ByteArray} {a0_2 : List (List D)} (ga0_1 : a0_1.size ≤ lim) (ga0_2 : SlOk RS lim a0_2) : Tm Fuel (fun k => laws_eqTerm.t k a0_0 a0_1 a0_2 a0_0 a0_1 a0_2) (fun r => r = true) := by
  unfold laws_eqTerm.t laws_eqTerm.g
  have hm := maxLen_eq
  have hlim : lim = 1048576 := rfl
  refine Tm.ite (fun h1 => ?_) (fun h1 => ?_)
  · try simp only [decide_eq_true_eq, decide_eq_false_iff_not, Int.not_lt, Int.not_le, bne_iff_ne, ne_eq, bne_eq_false_iff_eq, Bool.not_eq_true', Bool.not_eq_false'] at h1
    exact Tm.ret (by first | rfl | (exfalso; simp [strEq_self] at *))
  · try simp only [decide_eq_true_eq, decide_eq_false_iff_not, Int.not_lt, Int.not_le, bne_iff_ne, ne_eq, bne_eq_false_iff_eq, Bool.not_eq_true', Bool.not_eq_false'] at h1
    refine Tm.ite (fun h2 => ?_) (fun h2 => ?_)
    · try simp only [decide_eq_true_eq, decide_eq_false_iff_not, Int.not_lt, Int.not_le, bne_iff_ne, ne_eq, bne_eq_false_iff_eq, Bool.not_eq_true', Bool.not_eq_false'] at h2
      exact Tm.ret (by first | rfl | (exfalso; simp [strEq_self] at *))
    · try simp only [decide_eq_true_eq, decide_eq_false_iff_not, Int.not_lt, Int.not_le, bne_iff_ne, ne_eq, bne_eq_false_iff_eq, Bool.not_eq_true', Bool.not_eq_false'] at h2
      refine laws_eqStringS.tm (fun i hi => hi) (laws_eqStringS.T (by first | assumption | omega | (simp only [lim, maxLen_eq] at *; omega))) (fun y4 hy3 => ?_)
      subst hy3
      refine Tm.ite (fun h5 => ?_) (fun h5 => ?_)
      · try simp only [decide_eq_true_eq, decide_eq_false_iff_not, Int.not_lt, Int.not_le, bne_iff_ne, ne_eq, bne_eq_false_iff_eq, Bool.not_eq_true', Bool.not_eq_false'] at h5
        exact Tm.ret (by first | rfl | (exfalso; simp [strEq_self] at *))
      · try simp only [decide_eq_true_eq, decide_eq_false_iff_not, Int.not_lt, Int.not_le, bne_iff_ne, ne_eq, bne_eq_false_iff_eq, Bool.not_eq_true', Bool.not_eq_false'] at h5
        exact Tm.ret (by first | rfl | (exfalso; simp [strEq_self] at *))
theorem laws_eqTermS.f_of {β : Type} {k : Nat} {a0 : List (List D)} {a1 : List (List D)} {z0 : Bool} (h : laws_eqTermS.t k a0 a1 = some z0) (K : Bool → Option β) : laws_eqTermS.f k a0 a1 K = K z0 := by
  unfold laws_eqTermS.f
  rw [h]
theorem laws_eqTermS.tm {ι α : Type} {ok : ι → Prop} {ψ : α → Prop} {p : ι → Nat} (hp : ∀ i, ok i → big ≤ p i) {a0 : List (List D)} {a1 : List (List D)} {φ : Bool → Prop} (h : Tm Fuel (fun k => laws_eqTermS.t k a0 a1) φ) {G : ι → Bool → Option α} (hG : ∀ z0, φ z0 → Tm ok (fun i => G i z0) ψ) : Tm ok (fun i => laws_eqTermS.f (p i) a0 a1 (G i)) ψ := by
  obtain ⟨z0, h1, h2⟩ := h
  exact (hG z0 h1).congr fun i hi => laws_eqTermS.f_of (h2 (p i) (hp i hi)) _
theorem laws_eqTermS.T {a0 : List (List D)} (ga0 : SlOk RISLSE lim a0) : Tm Fuel (fun k => laws_eqTermS.t k a0 a0) (fun r => r = true) := by
  unfold laws_eqTermS.t laws_eqTermS.g
  have hm := maxLen_eq
  have hlim : lim = 1048576 := rfl
  have hlen := ga0.1
  refine Tm.ite (fun h1 => ?_) (fun h1 => ?_)
  · try simp only [decide_eq_true_eq, decide_eq_false_iff_not, Int.not_lt, Int.not_le, bne_iff_ne, ne_eq, bne_eq_false_iff_eq, Bool.not_eq_true', Bool.not_eq_false'] at h1
    exact Tm.ret (by first | rfl | (exfalso; simp [strEq_self] at *))
  · try simp only [decide_eq_true_eq, decide_eq_false_iff_not, Int.not_lt, Int.not_le, bne_iff_ne, ne_eq, bne_eq_false_iff_eq, Bool.not_eq_true', Bool.not_eq_false'] at h1
    refine Tm.loop (okk := Fuel) (p := fun k => k) (fun i hi => hi) (b := fun k => laws_eqTermS.l0 k a0 a0 (fun z0 => some z0)) (fun i => (((a0.length : Int)) - i).toNat) (fun i => 0 ≤ i ∧ i ≤ (a0.length : Int)) ?_ ?_ ?_
    · rintro i hI
      try simp only [] at hI ⊢
      have : big = 2 ^ 100 := rfl
      have := ga0.1
      simp only [lim] at this
      omega
    · ((try simp only []); omega)
    · rintro i hI L hL
      try simp only [] at hI
      obtain ⟨i0, i1⟩ := hI
      simp only [laws_eqTermS.l0]
      refine Tm.ite (fun h2 => ?_) (fun h2 => ?_)
      · try simp only [decide_eq_true_eq, decide_eq_false_iff_not, Int.not_lt, Int.not_le, bne_iff_ne, ne_eq, bne_eq_false_iff_eq, Bool.not_eq_true', Bool.not_eq_false'] at h2
        refine Tm.atRow (by first | assumption | omega | (simp only [lim, maxLen_eq] at *; omega)) (by first | assumption | omega | (simp only [lim, maxLen_eq] at *; omega)) (fun x3 hx4 hm5 => ?_)
        obtain ⟨c6, c7, c8, rfl, g9, g10, g11, _⟩ := ga0.2 x3 hm5
        refine Tm.uncons ?_
        refine Tm.dInt ?_
        refine Tm.uncons ?_
        refine Tm.dStr ?_
        refine Tm.uncons ?_
        refine Tm.dSl ?_
        refine Tm.atEnd ?_
        refine Tm.atRow (by first | assumption | omega | (simp only [lim, maxLen_eq] at *; omega)) (by first | assumption | omega | (simp only [lim, maxLen_eq] at *; omega)) (fun x12 hx13 hm14 => ?_)
        rw [hx4] at hx13
        injection hx13 with hx13
        subst hx13
        refine Tm.uncons ?_
        refine Tm.dInt ?_
        refine Tm.uncons ?_
        refine Tm.dStr ?_
        refine Tm.uncons ?_
        refine Tm.dSl ?_
        refine Tm.atEnd ?_
        refine laws_eqTerm.tm (fun i hi => hi.1) (laws_eqTerm.T (by first | assumption | omega | (simp only [lim, maxLen_eq] at *; omega)) (by first | assumption | omega | (simp only [lim, maxLen_eq] at *; omega))) (fun y19 hy18 => ?_)
        subst hy18
        refine Tm.ite (fun h20 => ?_) (fun h20 => ?_)
        · try simp only [decide_eq_true_eq, decide_eq_false_iff_not, Int.not_lt, Int.not_le, bne_iff_ne, ne_eq, bne_eq_false_iff_eq, Bool.not_eq_true', Bool.not_eq_false'] at h20
          exact Tm.ret (by first | rfl | (exfalso; simp [strEq_self] at *))
        · try simp only [decide_eq_true_eq, decide_eq_false_iff_not, Int.not_lt, Int.not_le, bne_iff_ne, ne_eq, bne_eq_false_iff_eq, Bool.not_eq_true', Bool.not_eq_false'] at h20
          try rw [wrap_i64 (x := i + 1) (by omega) (by omega)]
          exact hL ((i + 1)) (by (try simp only []); omega) (by (try simp only []); omega)
      · try simp only [decide_eq_true_eq, decide_eq_false_iff_not, Int.not_lt, Int.not_le, bne_iff_ne, ne_eq, bne_eq_false_iff_eq, Bool.not_eq_true', Bool.not_eq_false'] at h2
        exact Tm.ret (by first | rfl | (exfalso; simp [strEq_self] at *))
theorem laws_eqWeigh.f_of {β : Type} {k : Nat} {a0_0 : ByteArray} {a0_1 : Int} {a1_0 : ByteArray} {a1_1 : Int} {z0 : Bool} (h : laws_eqWeigh.t k a0_0 a0_1 a1_0 a1_1 = some z0) (K : Bool → Option β) : laws_eqWeigh.f k a0_0 a0_1 a1_0 a1_1 K = K z0 := by
  unfold laws_eqWeigh.f
  rw [h]
theorem laws_eqWeigh.tm {ι α : Type} {ok : ι → Prop} {ψ : α → Prop} {p : ι → Nat} (hp : ∀ i, ok i → big ≤ p i) {a0_0 : ByteArray} {a0_1 : Int} {a1_0 : ByteArray} {a1_1 : Int} {φ : Bool → Prop} (h : Tm Fuel (fun k => laws_eqWeigh.t k a0_0 a0_1 a1_0 a1_1) φ) {G : ι → Bool → Option α} (hG : ∀ z0, φ z0 → Tm ok (fun i => G i z0) ψ) : Tm ok (fun i => laws_eqWeigh.f (p i) a0_0 a0_1 a1_0 a1_1 (G i)) ψ := by
  obtain ⟨z0, h1, h2⟩ := h
  exact (hG z0 h1).congr fun i hi => laws_eqWeigh.f_of (h2 (p i) (hp i hi)) _
theorem laws_eqWeigh.T {a0_0 : ByteArray} {a0_1 : Int} (ga0_0 : a0_0.size ≤ lim) : Tm Fuel (fun k => laws_eqWeigh.t k a0_0 a0_1 a0_0 a0_1) (fun r => r = true) := by
  unfold laws_eqWeigh.t laws_eqWeigh.g
  have hm := maxLen_eq
  have hlim : lim = 1048576 := rfl
  refine Tm.ite (fun h1 => ?_) (fun h1 => ?_)
  · try simp only [decide_eq_true_eq, decide_eq_false_iff_not, Int.not_lt, Int.not_le, bne_iff_ne, ne_eq, bne_eq_false_iff_eq, Bool.not_eq_true', Bool.not_eq_false'] at h1
    exact Tm.ret (by first | rfl | (exfalso; simp [strEq_self] at *))
  · try simp only [decide_eq_true_eq, decide_eq_false_iff_not, Int.not_lt, Int.not_le, bne_iff_ne, ne_eq, bne_eq_false_iff_eq, Bool.not_eq_true', Bool.not_eq_false'] at h1
    refine Tm.ite (fun h2 => ?_) (fun h2 => ?_)
    · try simp only [decide_eq_true_eq, decide_eq_false_iff_not, Int.not_lt, Int.not_le, bne_iff_ne, ne_eq, bne_eq_false_iff_eq, Bool.not_eq_true', Bool.not_eq_false'] at h2
      exact Tm.ret (by first | rfl | (exfalso; simp [strEq_self] at *))
    · try simp only [decide_eq_true_eq, decide_eq_false_iff_not, Int.not_lt, Int.not_le, bne_iff_ne, ne_eq, bne_eq_false_iff_eq, Bool.not_eq_true', Bool.not_eq_false'] at h2
      exact Tm.ret (by first | rfl | (exfalso; simp [strEq_self] at *))
theorem laws_eqWeighS.f_of {β : Type} {k : Nat} {a0 : List (List D)} {a1 : List (List D)} {z0 : Bool} (h : laws_eqWeighS.t k a0 a1 = some z0) (K : Bool → Option β) : laws_eqWeighS.f k a0 a1 K = K z0 := by
  unfold laws_eqWeighS.f
  rw [h]
theorem laws_eqWeighS.tm {ι α : Type} {ok : ι → Prop} {ψ : α → Prop} {p : ι → Nat} (hp : ∀ i, ok i → big ≤ p i) {a0 : List (List D)} {a1 : List (List D)} {φ : Bool → Prop} (h : Tm Fuel (fun k => laws_eqWeighS.t k a0 a1) φ) {G : ι → Bool → Option α} (hG : ∀ z0, φ z0 → Tm ok (fun i => G i z0) ψ) : Tm ok (fun i => laws_eqWeighS.f (p i) a0 a1 (G i)) ψ := by
  obtain ⟨z0, h1, h2⟩ := h
  exact (hG z0 h1).congr fun i hi => laws_eqWeighS.f_of (h2 (p i) (hp i hi)) _
theorem laws_eqWeighS.T {a0 : List (List D)} (ga0 : SlOk RSI lim a0) : Tm Fuel (fun k => laws_eqWeighS.t k a0 a0) (fun r => r = true) := by
  unfold laws_eqWeighS.t laws_eqWeighS.g
  have hm := maxLen_eq
  have hlim : lim = 1048576 := rfl
  have hlen := ga0.1
  refine Tm.ite (fun h1 => ?_) (fun h1 => ?_)
  · try simp only [decide_eq_true_eq, decide_eq_false_iff_not, Int.not_lt, Int.not_le, bne_iff_ne, ne_eq, bne_eq_false_iff_eq, Bool.not_eq_true', Bool.not_eq_false'] at h1
    exact Tm.ret (by first | rfl | (exfalso; simp [strEq_self] at *))
  · try simp only [decide_eq_true_eq, decide_eq_false_iff_not, Int.not_lt, Int.not_le, bne_iff_ne, ne_eq, bne_eq_false_iff_eq, Bool.not_eq_true', Bool.not_eq_false'] at h1
    refine Tm.loop (okk := Fuel) (p := fun k => k) (fun i hi => hi) (b := fun k => laws_eqWeighS.l0 k a0 a0 (fun z0 => some z0)) (fun i => (((a0.length : Int)) - i).toNat) (fun i => 0 ≤ i ∧ i ≤ (a0.length : Int)) ?_ ?_ ?_
    · rintro i hI
      try simp only [] at hI ⊢
      have : big = 2 ^ 100 := rfl
      have := ga0.1
      simp only [lim] at this
      omega
    · ((try simp only []); omega)
    · rintro i hI L hL
      try simp only [] at hI
      obtain ⟨i0, i1⟩ := hI
      simp only [laws_eqWeighS.l0]
      refine Tm.ite (fun h2 => ?_) (fun h2 => ?_)
      · try simp only [decide_eq_true_eq, decide_eq_false_iff_not, Int.not_lt, Int.not_le, bne_iff_ne, ne_eq, bne_eq_false_iff_eq, Bool.not_eq_true', Bool.not_eq_false'] at h2
        refine Tm.atRow (by first | assumption | omega | (simp only [lim, maxLen_eq] at *; omega)) (by first | assumption | omega | (simp only [lim, maxLen_eq] at *; omega)) (fun x3 hx4 hm5 => ?_)
        obtain ⟨c6, c7, rfl, g8, g9, _⟩ := ga0.2 x3 hm5
        refine Tm.uncons ?_
        refine Tm.dStr ?_
        refine Tm.uncons ?_
        refine Tm.dInt ?_
        refine Tm.atEnd ?_
        refine Tm.atRow (by first | assumption | omega | (simp only [lim, maxLen_eq] at *; omega)) (by first | assumption | omega | (simp only [lim, maxLen_eq] at *; omega)) (fun x10 hx11 hm12 => ?_)
        rw [hx4] at hx11
        injection hx11 with hx11
        subst hx11
        refine Tm.uncons ?_
        refine Tm.dStr ?_
        refine Tm.uncons ?_
        refine Tm.dInt ?_
        refine Tm.atEnd ?_
        refine laws_eqWeigh.tm (fun i hi => hi.1) (laws_eqWeigh.T (by first | assumption | omega | (simp only [lim, maxLen_eq] at *; omega))) (fun y16 hy15 => ?_)
        subst hy15
        refine Tm.ite (fun h17 => ?_) (fun h17 => ?_)
        · try simp only [decide_eq_true_eq, decide_eq_false_iff_not, Int.not_lt, Int.not_le, bne_iff_ne, ne_eq, bne_eq_false_iff_eq, Bool.not_eq_true', Bool.not_eq_false'] at h17
          exact Tm.ret (by first | rfl | (exfalso; simp [strEq_self] at *))
        · try simp only [decide_eq_true_eq, decide_eq_false_iff_not, Int.not_lt, Int.not_le, bne_iff_ne, ne_eq, bne_eq_false_iff_eq, Bool.not_eq_true', Bool.not_eq_false'] at h17
          try rw [wrap_i64 (x := i + 1) (by omega) (by omega)]
          exact hL ((i + 1)) (by (try simp only []); omega) (by (try simp only []); omega)
      · try simp only [decide_eq_true_eq, decide_eq_false_iff_not, Int.not_lt, Int.not_le, bne_iff_ne, ne_eq, bne_eq_false_iff_eq, Bool.not_eq_true', Bool.not_eq_false'] at h2
        exact Tm.ret (by first | rfl | (exfalso; simp [strEq_self] at *))
theorem laws_eqWant.f_of {β : Type} {k : Nat} {a0_0 : Int} {a0_1 : List (List D)} {a0_2 : List (List D)} {a0_3 : List (List D)} {a1_0 : Int} {a1_1 : List (List D)} {a1_2 : List (List D)} {a1_3 : List (List D)} {z0 : Bool} (h : laws_eqWant.t k a0_0 a0_1 a0_2 a0_3 a1_0 a1_1 a1_2 a1_3 = some z0) (K : Bool → Option β) : laws_eqWant.f k a0_0 a0_1 a0_2 a0_3 a1_0 a1_1 a1_2 a1_3 K = K z0 := by
  unfold laws_eqWant.f
  rw [h]
theorem laws_eqWant.tm {ι α : Type} {ok : ι → Prop} {ψ : α → Prop} {p : ι → Nat} (hp : ∀ i, ok i → big ≤ p i) {a0_0 : Int} {a0_1 : List (List D)} {a0_2 : List (List D)} {a0_3 : List (List D)} {a1_0 : Int} {a1_1 : List (List D)} {a1_2 : List (List D)} {a1_3 : List (List D)} {φ : Bool → Prop} (h : Tm Fuel (fun k => laws_eqWant.t k a0_0 a0_1 a0_2 a0_3 a1_0 a1_1 a1_2 a1_3) φ) {G : ι → Bool → Option α} (hG : ∀ z0, φ z0 → Tm ok (fun i => G i z0) ψ) : Tm ok (fun i => laws_eqWant.f (p i) a0_0 a0_1 a0_2 a0_3 a1_0 a1_1 a1_2 a1_3 (G i)) ψ := by
  obtain ⟨z0, h1, h2⟩ := h
  exact (hG z0 h1).congr fun i hi => laws_eqWant.f_of (h2 (p i) (hp i hi)) _
theorem laws_eqWant.T {a0_0 : Int} {a0_1 : List (List D)} {a0_2 : List (List D)} {a0_3 : List (List D)} (ga0_1 : SlOk RISLSE lim a0_1) (ga0_2 : SlOk RS lim a0_2) (ga0_3 : SlOk RSI lim a0_3) : Tm Fuel (fun k => laws_eqWant.t k a0_0 a0_1 a0_2 a0_3 a0_0 a0_1 a0_2 a0_3) (fun r => r = true) := by
  unfold laws_eqWant.t laws_eqWant.g
  have hm := maxLen_eq
  have hlim : lim = 1048576 := rfl
  refine Tm.ite (fun h1 => ?_) (fun h1 => ?_)
  · try simp only [decide_eq_true_eq, decide_eq_false_iff_not, Int.not_lt, Int.not_le, bne_iff_ne, ne_eq, bne_eq_false_iff_eq, Bool.not_eq_true', Bool.not_eq_false'] at h1
    exact Tm.ret (by first | rfl | (exfalso; simp [strEq_self] at *))
  · try simp only [decide_eq_true_eq, decide_eq_false_iff_not, Int.not_lt, Int.not_le, bne_iff_ne, ne_eq, bne_eq_false_iff_eq, Bool.not_eq_true', Bool.not_eq_false'] at h1
    refine laws_eqTermS.tm (fun i hi => hi) (laws_eqTermS.T (by first | assumption | omega | (simp only [lim, maxLen_eq] at *; omega))) (fun y3 hy2 => ?_)
    subst hy2
    refine Tm.ite (fun h4 => ?_) (fun h4 => ?_)
    · try simp only [decide_eq_true_eq, decide_eq_false_iff_not, Int.not_lt, Int.not_le, bne_iff_ne, ne_eq, bne_eq_false_iff_eq, Bool.not_eq_true', Bool.not_eq_false'] at h4
      exact Tm.ret (by first | rfl | (exfalso; simp [strEq_self] at *))
    · try simp only [decide_eq_true_eq, decide_eq_false_iff_not, Int.not_lt, Int.not_le, bne_iff_ne, ne_eq, bne_eq_false_iff_eq, Bool.not_eq_true', Bool.not_eq_false'] at h4
      refine laws_eqStringS.tm (fun i hi => hi) (laws_eqStringS.T (by first | assumption | omega | (simp only [lim, maxLen_eq] at *; omega))) (fun y6 hy5 => ?_)
      subst hy5
      refine Tm.ite (fun h7 => ?_) (fun h7 => ?_)
      · try simp only [decide_eq_true_eq, decide_eq_false_iff_not, Int.not_lt, Int.not_le, bne_iff_ne, ne_eq, bne_eq_false_iff_eq, Bool.not_eq_true', Bool.not_eq_false'] at h7
        exact Tm.ret (by first | rfl | (exfalso; simp [strEq_self] at *))
      · try simp only [decide_eq_true_eq, decide_eq_false_iff_not, Int.not_lt, Int.not_le, bne_iff_ne, ne_eq, bne_eq_false_iff_eq, Bool.not_eq_true', Bool.not_eq_false'] at h7
        refine laws_eqWeighS.tm (fun i hi => hi) (laws_eqWeighS.T (by first | assumption | omega | (simp only [lim, maxLen_eq] at *; omega))) (fun y9 hy8 => ?_)
        subst hy8
        refine Tm.ite (fun h10 => ?_) (fun h10 => ?_)
        · try simp only [decide_eq_true_eq, decide_eq_false_iff_not, Int.not_lt, Int.not_le, bne_iff_ne, ne_eq, bne_eq_false_iff_eq, Bool.not_eq_true', Bool.not_eq_false'] at h10
          exact Tm.ret (by first | rfl | (exfalso; simp [strEq_self] at *))
        · try simp only [decide_eq_true_eq, decide_eq_false_iff_not, Int.not_lt, Int.not_le, bne_iff_ne, ne_eq, bne_eq_false_iff_eq, Bool.not_eq_true', Bool.not_eq_false'] at h10
          exact Tm.ret (by first | rfl | (exfalso; simp [strEq_self] at *))
end Go.Proofs.Ytnlhhhkeigjnoaa
