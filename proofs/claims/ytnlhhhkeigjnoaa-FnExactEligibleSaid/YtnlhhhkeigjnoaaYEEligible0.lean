/- Printed, and by hand: the functions that FnExactEligible reaches come to their end; the program's answer as the reference's. -/
import Derived.Test.YtnlhhhkeigjnoaaXEEligible1
import Derived.KernelRfl
set_option linter.unusedVariables false
set_option linter.unusedSimpArgs false
namespace Go.Proofs.Ytnlhhhkeigjnoaa
open Go Go.T Go.Proofs
theorem laws_szStringS.f_of {β : Type} {k : Nat} {a0 : List (List D)} {a1 : Int} {z0 : Int} (h : laws_szStringS.t k a0 a1 = some z0) (K : Int → Option β) : laws_szStringS.f k a0 a1 K = K z0 := by
  unfold laws_szStringS.f
  rw [h]
theorem laws_szStringS.tm {ι α : Type} {ok : ι → Prop} {ψ : α → Prop} {p : ι → Nat} (hp : ∀ i, ok i → big ≤ p i) {a0 : List (List D)} {a1 : Int} {φ : Int → Prop} (h : Tm Fuel (fun k => laws_szStringS.t k a0 a1) φ) {G : ι → Int → Option α} (hG : ∀ z0, φ z0 → Tm ok (fun i => G i z0) ψ) : Tm ok (fun i => laws_szStringS.f (p i) a0 a1 (G i)) ψ := by
  obtain ⟨z0, h1, h2⟩ := h
  exact (hG z0 h1).congr fun i hi => laws_szStringS.f_of (h2 (p i) (hp i hi)) _
def RS (B : Nat) (r : List D) : Prop := ∃ (c0 : ByteArray), r = [.str c0] ∧ c0.size ≤ B ∧ True
theorem RS.len {B : Nat} {r : List D} (h : RS B r) : r.length = 1 := by
  obtain ⟨c0, rfl, _⟩ := h
  rfl
theorem RS.gets {B : Nat} {xs : List (List D)} (h : ∀ r ∈ xs, RS B r) {v : Int} (h0 : 0 ≤ v) (h1 : v < xs.length) : gR xs v = [.str (gS xs v 0)] ∧ (gS xs v 0).size ≤ B ∧ True := by
  obtain ⟨c0, e, k0, _⟩ := h (gR xs v) (gR_mem h0 h1)
  unfold gS
  rw [e]
  exact ⟨rfl, k0, trivial⟩
theorem RS.rows {B : Nat} {xs : List (List D)} (h : ∀ r ∈ xs, RS B r) {v : Int} (h0 : 0 ≤ v) (h1 : v < xs.length) {β : Type} (F : List D → Option β) : atRow xs v F = F [.str (gS xs v 0)] := by
  rw [← (RS.gets h h0 h1).1]
  exact atRow_gR h0 h1 F
theorem RS.get {B : Nat} {xs : List (List D)} (h : SlOk RS B xs) {v : Int} (h0 : 0 ≤ v) (h1 : v < xs.length) : gR xs v = [.str (gS xs v 0)] ∧ (gS xs v 0).size ≤ B ∧ True := RS.gets h.2 h0 h1
theorem RS.row {B : Nat} {xs : List (List D)} (h : SlOk RS B xs) {v : Int} (h0 : 0 ≤ v) (h1 : v < xs.length) {β : Type} (F : List D → Option β) : atRow xs v F = F [.str (gS xs v 0)] := RS.rows h.2 h0 h1 F
theorem laws_szStringS.T {a0 : List (List D)} {a1 : Int} (h0 : 0 ≤ a1) (h1 : a1 ≤ 1048576) (ga0 : SlOk RS maxLen a0) : Tm Fuel (fun k => laws_szStringS.t k a0 a1) (fun r => r < 0 ∨ 0 ≤ r ∧ r ≤ a1 ∧ SlOk RS lim a0 ∧ True) := by
  unfold laws_szStringS.t laws_szStringS.g
  have hm := maxLen_eq
  have hlim : lim = 1048576 := rfl
  have hlen := ga0.1
  try rw [wrap_i64 (x := a1 - (a0.length : Int)) (by omega) (by omega)]
  refine Tm.ite (fun h1 => ?_) (fun h1 => ?_)
  · try simp only [decide_eq_true_eq, decide_eq_false_iff_not, Int.not_lt, Int.not_le, bne_iff_ne, ne_eq, bne_eq_false_iff_eq, Bool.not_eq_true', Bool.not_eq_false'] at h1
    exact Tm.ret (by first | (left; omega) | (right; refine ⟨?_, ?_, ?_, trivial⟩ <;> first | assumption | omega))
  · try simp only [decide_eq_true_eq, decide_eq_false_iff_not, Int.not_lt, Int.not_le, bne_iff_ne, ne_eq, bne_eq_false_iff_eq, Bool.not_eq_true', Bool.not_eq_false'] at h1
    refine Tm.loop (okk := Fuel) (p := fun k => k) (fun i hi => hi) (b := fun k => laws_szStringS.l0 k a0 (fun z0 => some z0)) (fun v => match v with | (u0, i) => (((a0.length : Int)) - i).toNat) (fun v => match v with | (u0, i) => 0 ≤ u0 ∧ u0 ≤ a1 ∧ 0 ≤ i ∧ i ≤ (a0.length : Int) ∧ ∀ r ∈ a0.take i.toNat, RS lim r) ?_ ?_ ?_
    · rintro ⟨u0, i⟩ hI
      try simp only [] at hI ⊢
      have : big = 2 ^ 100 := rfl
      have := ga0.1
      omega
    · exact ⟨by omega, by omega, by omega, by simp, by simp⟩
    · rintro ⟨u0, i⟩ hI L hL
      try simp only [] at hI
      obtain ⟨u0a, u0b, i0, i1, hr⟩ := hI
      simp only [laws_szStringS.l0]
      refine Tm.ite (fun h2 => ?_) (fun h2 => ?_)
      · try simp only [decide_eq_true_eq, decide_eq_false_iff_not, Int.not_lt, Int.not_le, bne_iff_ne, ne_eq, bne_eq_false_iff_eq, Bool.not_eq_true', Bool.not_eq_false'] at h2
        refine Tm.atRow (by first | assumption | omega | (simp only [lim, maxLen_eq] at *; omega)) (by first | assumption | omega | (simp only [lim, maxLen_eq] at *; omega)) (fun x3 hx4 hm5 => ?_)
        obtain ⟨c6, rfl, g7, _⟩ := ga0.2 x3 hm5
        refine Tm.uncons ?_
        refine Tm.dStr ?_
        refine Tm.atEnd ?_
        try rw [wrap_i64 (x := u0 - (c6.size : Int)) (by omega) (by omega)]
        refine Tm.ite (fun h8 => ?_) (fun h8 => ?_)
        · try simp only [decide_eq_true_eq, decide_eq_false_iff_not, Int.not_lt, Int.not_le, bne_iff_ne, ne_eq, bne_eq_false_iff_eq, Bool.not_eq_true', Bool.not_eq_false'] at h8
          exact Tm.ret (by first | (left; omega) | exact .inr ⟨by omega, by omega, ⟨by simp only [lim]; omega, all_rows (by omega) hr⟩, trivial⟩)
        · try simp only [decide_eq_true_eq, decide_eq_false_iff_not, Int.not_lt, Int.not_le, bne_iff_ne, ne_eq, bne_eq_false_iff_eq, Bool.not_eq_true', Bool.not_eq_false'] at h8
          try rw [wrap_i64 (x := i + 1) (by omega) (by omega)]
          refine hL ((u0 - (c6.size : Int)), (i + 1)) ⟨by omega, by omega, by omega, by omega, take_rows i0 hx4 hr ⟨_, rfl, by first | assumption | omega, trivial⟩⟩ (by (try simp only []); omega)
      · try simp only [decide_eq_true_eq, decide_eq_false_iff_not, Int.not_lt, Int.not_le, bne_iff_ne, ne_eq, bne_eq_false_iff_eq, Bool.not_eq_true', Bool.not_eq_false'] at h2
        exact Tm.ret (by first | (left; omega) | exact .inr ⟨by omega, by omega, ⟨by simp only [lim]; omega, all_rows (by omega) hr⟩, trivial⟩)
theorem laws_szTerm.f_of {β : Type} {k : Nat} {a0_0 : Int} {a0_1 : ByteArray} {a0_2 : List (List D)} {a1 : Int} {z0 : Int} (h : laws_szTerm.t k a0_0 a0_1 a0_2 a1 = some z0) (K : Int → Option β) : laws_szTerm.f k a0_0 a0_1 a0_2 a1 K = K z0 := by
  unfold laws_szTerm.f
  rw [h]
theorem laws_szTerm.tm {ι α : Type} {ok : ι → Prop} {ψ : α → Prop} {p : ι → Nat} (hp : ∀ i, ok i → big ≤ p i) {a0_0 : Int} {a0_1 : ByteArray} {a0_2 : List (List D)} {a1 : Int} {φ : Int → Prop} (h : Tm Fuel (fun k => laws_szTerm.t k a0_0 a0_1 a0_2 a1) φ) {G : ι → Int → Option α} (hG : ∀ z0, φ z0 → Tm ok (fun i => G i z0) ψ) : Tm ok (fun i => laws_szTerm.f (p i) a0_0 a0_1 a0_2 a1 (G i)) ψ := by
  obtain ⟨z0, h1, h2⟩ := h
  exact (hG z0 h1).congr fun i hi => laws_szTerm.f_of (h2 (p i) (hp i hi)) _
theorem laws_szTerm.T {a0_0 : Int} {a0_1 : ByteArray} {a0_2 : List (List D)} {a1 : Int} (h0 : 0 ≤ a1) (h1 : a1 ≤ 1048576) (ga0_1 : a0_1.size ≤ maxLen) (ga0_2 : SlOk RS maxLen a0_2) : Tm Fuel (fun k => laws_szTerm.t k a0_0 a0_1 a0_2 a1) (fun r => r < 0 ∨ 0 ≤ r ∧ r ≤ a1 ∧ a0_1.size ≤ lim ∧ SlOk RS lim a0_2 ∧ True) := by
  unfold laws_szTerm.t laws_szTerm.g
  have hm := maxLen_eq
  have hlim : lim = 1048576 := rfl
  try rw [wrap_i64 (x := a1 - (a0_1.size : Int)) (by omega) (by omega)]
  refine Tm.ite (fun h1 => ?_) (fun h1 => ?_)
  · try simp only [decide_eq_true_eq, decide_eq_false_iff_not, Int.not_lt, Int.not_le, bne_iff_ne, ne_eq, bne_eq_false_iff_eq, Bool.not_eq_true', Bool.not_eq_false'] at h1
    exact Tm.ret (by first | (left; omega) | (right; refine ⟨?_, ?_, ?_, ?_, trivial⟩ <;> first | assumption | omega))
  · try simp only [decide_eq_true_eq, decide_eq_false_iff_not, Int.not_lt, Int.not_le, bne_iff_ne, ne_eq, bne_eq_false_iff_eq, Bool.not_eq_true', Bool.not_eq_false'] at h1
    refine laws_szStringS.tm (fun i hi => hi) (laws_szStringS.T (by first | assumption | omega | (simp only [lim, maxLen_eq] at *; omega)) (by first | assumption | omega | (simp only [lim, maxLen_eq] at *; omega)) (by first | assumption | omega | (simp only [lim, maxLen_eq] at *; omega))) (fun y3 hy2 => ?_)
    rcases hy2 with hy2 | ⟨p5, p6, q4, _⟩
    · exact Tm.ite (fun _ => Tm.ret (by left; omega)) (fun h => by simp at h; omega)
    refine Tm.ite (fun h7 => ?_) (fun h7 => ?_)
    · try simp only [decide_eq_true_eq, decide_eq_false_iff_not, Int.not_lt, Int.not_le, bne_iff_ne, ne_eq, bne_eq_false_iff_eq, Bool.not_eq_true', Bool.not_eq_false'] at h7
      exact Tm.ret (by first | (left; omega) | (right; refine ⟨?_, ?_, ?_, ?_, trivial⟩ <;> first | assumption | omega))
    · try simp only [decide_eq_true_eq, decide_eq_false_iff_not, Int.not_lt, Int.not_le, bne_iff_ne, ne_eq, bne_eq_false_iff_eq, Bool.not_eq_true', Bool.not_eq_false'] at h7
      exact Tm.ret (by first | (left; omega) | (right; refine ⟨?_, ?_, ?_, ?_, trivial⟩ <;> first | assumption | omega))
theorem laws_szTermS.f_of {β : Type} {k : Nat} {a0 : List (List D)} {a1 : Int} {z0 : Int} (h : laws_szTermS.t k a0 a1 = some z0) (K : Int → Option β) : laws_szTermS.f k a0 a1 K = K z0 := by
  unfold laws_szTermS.f
  rw [h]
theorem laws_szTermS.tm {ι α : Type} {ok : ι → Prop} {ψ : α → Prop} {p : ι → Nat} (hp : ∀ i, ok i → big ≤ p i) {a0 : List (List D)} {a1 : Int} {φ : Int → Prop} (h : Tm Fuel (fun k => laws_szTermS.t k a0 a1) φ) {G : ι → Int → Option α} (hG : ∀ z0, φ z0 → Tm ok (fun i => G i z0) ψ) : Tm ok (fun i => laws_szTermS.f (p i) a0 a1 (G i)) ψ := by
  obtain ⟨z0, h1, h2⟩ := h
  exact (hG z0 h1).congr fun i hi => laws_szTermS.f_of (h2 (p i) (hp i hi)) _
def RISLSE (B : Nat) (r : List D) : Prop := ∃ (c0 : Int) (c1 : ByteArray) (c2 : List (List D)), r = [.int .i64 c0, .str c1, .sl c2] ∧ (Lit.int .i64 c0).wf = true ∧ c1.size ≤ B ∧ SlOk RS B c2 ∧ True
theorem RISLSE.len {B : Nat} {r : List D} (h : RISLSE B r) : r.length = 3 := by
  obtain ⟨c0, c1, c2, rfl, _⟩ := h
  rfl
theorem RISLSE.gets {B : Nat} {xs : List (List D)} (h : ∀ r ∈ xs, RISLSE B r) {v : Int} (h0 : 0 ≤ v) (h1 : v < xs.length) : gR xs v = [.int .i64 (gI xs v 0), .str (gS xs v 1), .sl (gL xs v 2)] ∧ (Lit.int .i64 (gI xs v 0)).wf = true ∧ (gS xs v 1).size ≤ B ∧ SlOk RS B (gL xs v 2) ∧ True := by
  obtain ⟨c0, c1, c2, e, k0, k1, k2, _⟩ := h (gR xs v) (gR_mem h0 h1)
  unfold gI gL gS
  rw [e]
  exact ⟨rfl, k0, k1, k2, trivial⟩
theorem RISLSE.rows {B : Nat} {xs : List (List D)} (h : ∀ r ∈ xs, RISLSE B r) {v : Int} (h0 : 0 ≤ v) (h1 : v < xs.length) {β : Type} (F : List D → Option β) : atRow xs v F = F [.int .i64 (gI xs v 0), .str (gS xs v 1), .sl (gL xs v 2)] := by
  rw [← (RISLSE.gets h h0 h1).1]
  exact atRow_gR h0 h1 F
theorem RISLSE.get {B : Nat} {xs : List (List D)} (h : SlOk RISLSE B xs) {v : Int} (h0 : 0 ≤ v) (h1 : v < xs.length) : gR xs v = [.int .i64 (gI xs v 0), .str (gS xs v 1), .sl (gL xs v 2)] ∧ (Lit.int .i64 (gI xs v 0)).wf = true ∧ (gS xs v 1).size ≤ B ∧ SlOk RS B (gL xs v 2) ∧ True := RISLSE.gets h.2 h0 h1
theorem RISLSE.row {B : Nat} {xs : List (List D)} (h : SlOk RISLSE B xs) {v : Int} (h0 : 0 ≤ v) (h1 : v < xs.length) {β : Type} (F : List D → Option β) : atRow xs v F = F [.int .i64 (gI xs v 0), .str (gS xs v 1), .sl (gL xs v 2)] := RISLSE.rows h.2 h0 h1 F
theorem laws_szTermS.T {a0 : List (List D)} {a1 : Int} (h0 : 0 ≤ a1) (h1 : a1 ≤ 1048576) (ga0 : SlOk RISLSE maxLen a0) : Tm Fuel (fun k => laws_szTermS.t k a0 a1) (fun r => r < 0 ∨ 0 ≤ r ∧ r ≤ a1 ∧ SlOk RISLSE lim a0 ∧ True) := by
  unfold laws_szTermS.t laws_szTermS.g
  have hm := maxLen_eq
  have hlim : lim = 1048576 := rfl
  have hlen := ga0.1
  try rw [wrap_i64 (x := a1 - (a0.length : Int)) (by omega) (by omega)]
  refine Tm.ite (fun h1 => ?_) (fun h1 => ?_)
  · try simp only [decide_eq_true_eq, decide_eq_false_iff_not, Int.not_lt, Int.not_le, bne_iff_ne, ne_eq, bne_eq_false_iff_eq, Bool.not_eq_true', Bool.not_eq_false'] at h1
    exact Tm.ret (by first | (left; omega) | (right; refine ⟨?_, ?_, ?_, trivial⟩ <;> first | assumption | omega))
  · try simp only [decide_eq_true_eq, decide_eq_false_iff_not, Int.not_lt, Int.not_le, bne_iff_ne, ne_eq, bne_eq_false_iff_eq, Bool.not_eq_true', Bool.not_eq_false'] at h1
    refine Tm.loop (okk := Fuel) (p := fun k => k) (fun i hi => hi) (b := fun k => laws_szTermS.l0 k a0 (fun z0 => some z0)) (fun v => match v with | (u0, i) => (((a0.length : Int)) - i).toNat) (fun v => match v with | (u0, i) => 0 ≤ u0 ∧ u0 ≤ a1 ∧ 0 ≤ i ∧ i ≤ (a0.length : Int) ∧ ∀ r ∈ a0.take i.toNat, RISLSE lim r) ?_ ?_ ?_
    · rintro ⟨u0, i⟩ hI
      try simp only [] at hI ⊢
      have : big = 2 ^ 100 := rfl
      have := ga0.1
      omega
    · exact ⟨by omega, by omega, by omega, by simp, by simp⟩
    · rintro ⟨u0, i⟩ hI L hL
      try simp only [] at hI
      obtain ⟨u0a, u0b, i0, i1, hr⟩ := hI
      simp only [laws_szTermS.l0]
      refine Tm.ite (fun h2 => ?_) (fun h2 => ?_)
      · try simp only [decide_eq_true_eq, decide_eq_false_iff_not, Int.not_lt, Int.not_le, bne_iff_ne, ne_eq, bne_eq_false_iff_eq, Bool.not_eq_true', Bool.not_eq_false'] at h2
        refine Tm.atRow (by first | assumption | omega | (simp only [lim, maxLen_eq] at *; omega)) (by first | assumption | omega | (simp only [lim, maxLen_eq] at *; omega)) (fun x3 hx4 hm5 => ?_)
        obtain ⟨c6, c7, c8, rfl, g9, g10, g11, _⟩ := ga0.2 x3 hm5
        refine Tm.uncons ?_
        refine Tm.dInt ?_
        refine Tm.uncons ?_
        refine Tm.dStr ?_
        refine Tm.uncons ?_
        refine Tm.dSl ?_
        refine Tm.atEnd ?_
        refine laws_szTerm.tm (fun i hi => hi.1) (laws_szTerm.T (by first | assumption | omega | (simp only [lim, maxLen_eq] at *; omega)) (by first | assumption | omega | (simp only [lim, maxLen_eq] at *; omega)) (by first | assumption | omega | (simp only [lim, maxLen_eq] at *; omega)) (by first | assumption | omega | (simp only [lim, maxLen_eq] at *; omega))) (fun y13 hy12 => ?_)
        rcases hy12 with hy12 | ⟨p16, p17, q14, q15, _⟩
        · exact Tm.ite (fun _ => Tm.ret (by left; omega)) (fun h => by simp at h; omega)
        refine Tm.ite (fun h18 => ?_) (fun h18 => ?_)
        · try simp only [decide_eq_true_eq, decide_eq_false_iff_not, Int.not_lt, Int.not_le, bne_iff_ne, ne_eq, bne_eq_false_iff_eq, Bool.not_eq_true', Bool.not_eq_false'] at h18
          exact Tm.ret (by first | (left; omega) | exact .inr ⟨by omega, by omega, ⟨by simp only [lim]; omega, all_rows (by omega) hr⟩, trivial⟩)
        · try simp only [decide_eq_true_eq, decide_eq_false_iff_not, Int.not_lt, Int.not_le, bne_iff_ne, ne_eq, bne_eq_false_iff_eq, Bool.not_eq_true', Bool.not_eq_false'] at h18
          try rw [wrap_i64 (x := i + 1) (by omega) (by omega)]
          refine hL (y13, (i + 1)) ⟨by omega, by omega, by omega, by omega, take_rows i0 hx4 hr ⟨_, _, _, rfl, by first | assumption | omega, by first | assumption | omega, by first | assumption | omega, trivial⟩⟩ (by (try simp only []); omega)
      · try simp only [decide_eq_true_eq, decide_eq_false_iff_not, Int.not_lt, Int.not_le, bne_iff_ne, ne_eq, bne_eq_false_iff_eq, Bool.not_eq_true', Bool.not_eq_false'] at h2
        exact Tm.ret (by first | (left; omega) | exact .inr ⟨by omega, by omega, ⟨by simp only [lim]; omega, all_rows (by omega) hr⟩, trivial⟩)
theorem laws_szWeigh.f_of {β : Type} {k : Nat} {a0_0 : ByteArray} {a0_1 : Int} {a1 : Int} {z0 : Int} (h : laws_szWeigh.t k a0_0 a0_1 a1 = some z0) (K : Int → Option β) : laws_szWeigh.f k a0_0 a0_1 a1 K = K z0 := by
  unfold laws_szWeigh.f
  rw [h]
theorem laws_szWeigh.tm {ι α : Type} {ok : ι → Prop} {ψ : α → Prop} {p : ι → Nat} (hp : ∀ i, ok i → big ≤ p i) {a0_0 : ByteArray} {a0_1 : Int} {a1 : Int} {φ : Int → Prop} (h : Tm Fuel (fun k => laws_szWeigh.t k a0_0 a0_1 a1) φ) {G : ι → Int → Option α} (hG : ∀ z0, φ z0 → Tm ok (fun i => G i z0) ψ) : Tm ok (fun i => laws_szWeigh.f (p i) a0_0 a0_1 a1 (G i)) ψ := by
  obtain ⟨z0, h1, h2⟩ := h
  exact (hG z0 h1).congr fun i hi => laws_szWeigh.f_of (h2 (p i) (hp i hi)) _
theorem laws_szWeigh.T {a0_0 : ByteArray} {a0_1 : Int} {a1 : Int} (h0 : 0 ≤ a1) (h1 : a1 ≤ 1048576) (ga0_0 : a0_0.size ≤ maxLen) : Tm Fuel (fun k => laws_szWeigh.t k a0_0 a0_1 a1) (fun r => r < 0 ∨ 0 ≤ r ∧ r ≤ a1 ∧ a0_0.size ≤ lim ∧ True) := by
  unfold laws_szWeigh.t laws_szWeigh.g
  have hm := maxLen_eq
  have hlim : lim = 1048576 := rfl
  try rw [wrap_i64 (x := a1 - (a0_0.size : Int)) (by omega) (by omega)]
  refine Tm.ite (fun h1 => ?_) (fun h1 => ?_)
  · try simp only [decide_eq_true_eq, decide_eq_false_iff_not, Int.not_lt, Int.not_le, bne_iff_ne, ne_eq, bne_eq_false_iff_eq, Bool.not_eq_true', Bool.not_eq_false'] at h1
    exact Tm.ret (by first | (left; omega) | (right; refine ⟨?_, ?_, ?_, trivial⟩ <;> first | assumption | omega))
  · try simp only [decide_eq_true_eq, decide_eq_false_iff_not, Int.not_lt, Int.not_le, bne_iff_ne, ne_eq, bne_eq_false_iff_eq, Bool.not_eq_true', Bool.not_eq_false'] at h1
    exact Tm.ret (by first | (left; omega) | (right; refine ⟨?_, ?_, ?_, trivial⟩ <;> first | assumption | omega))
theorem laws_szWeighS.f_of {β : Type} {k : Nat} {a0 : List (List D)} {a1 : Int} {z0 : Int} (h : laws_szWeighS.t k a0 a1 = some z0) (K : Int → Option β) : laws_szWeighS.f k a0 a1 K = K z0 := by
  unfold laws_szWeighS.f
  rw [h]
theorem laws_szWeighS.tm {ι α : Type} {ok : ι → Prop} {ψ : α → Prop} {p : ι → Nat} (hp : ∀ i, ok i → big ≤ p i) {a0 : List (List D)} {a1 : Int} {φ : Int → Prop} (h : Tm Fuel (fun k => laws_szWeighS.t k a0 a1) φ) {G : ι → Int → Option α} (hG : ∀ z0, φ z0 → Tm ok (fun i => G i z0) ψ) : Tm ok (fun i => laws_szWeighS.f (p i) a0 a1 (G i)) ψ := by
  obtain ⟨z0, h1, h2⟩ := h
  exact (hG z0 h1).congr fun i hi => laws_szWeighS.f_of (h2 (p i) (hp i hi)) _
def RSI (B : Nat) (r : List D) : Prop := ∃ (c0 : ByteArray) (c1 : Int), r = [.str c0, .int .i64 c1] ∧ c0.size ≤ B ∧ (Lit.int .i64 c1).wf = true ∧ True
theorem RSI.len {B : Nat} {r : List D} (h : RSI B r) : r.length = 2 := by
  obtain ⟨c0, c1, rfl, _⟩ := h
  rfl
theorem RSI.gets {B : Nat} {xs : List (List D)} (h : ∀ r ∈ xs, RSI B r) {v : Int} (h0 : 0 ≤ v) (h1 : v < xs.length) : gR xs v = [.str (gS xs v 0), .int .i64 (gI xs v 1)] ∧ (gS xs v 0).size ≤ B ∧ (Lit.int .i64 (gI xs v 1)).wf = true ∧ True := by
  obtain ⟨c0, c1, e, k0, k1, _⟩ := h (gR xs v) (gR_mem h0 h1)
  unfold gI gS
  rw [e]
  exact ⟨rfl, k0, k1, trivial⟩
theorem RSI.rows {B : Nat} {xs : List (List D)} (h : ∀ r ∈ xs, RSI B r) {v : Int} (h0 : 0 ≤ v) (h1 : v < xs.length) {β : Type} (F : List D → Option β) : atRow xs v F = F [.str (gS xs v 0), .int .i64 (gI xs v 1)] := by
  rw [← (RSI.gets h h0 h1).1]
  exact atRow_gR h0 h1 F
theorem RSI.get {B : Nat} {xs : List (List D)} (h : SlOk RSI B xs) {v : Int} (h0 : 0 ≤ v) (h1 : v < xs.length) : gR xs v = [.str (gS xs v 0), .int .i64 (gI xs v 1)] ∧ (gS xs v 0).size ≤ B ∧ (Lit.int .i64 (gI xs v 1)).wf = true ∧ True := RSI.gets h.2 h0 h1
theorem RSI.row {B : Nat} {xs : List (List D)} (h : SlOk RSI B xs) {v : Int} (h0 : 0 ≤ v) (h1 : v < xs.length) {β : Type} (F : List D → Option β) : atRow xs v F = F [.str (gS xs v 0), .int .i64 (gI xs v 1)] := RSI.rows h.2 h0 h1 F
theorem laws_szWeighS.T {a0 : List (List D)} {a1 : Int} (h0 : 0 ≤ a1) (h1 : a1 ≤ 1048576) (ga0 : SlOk RSI maxLen a0) : Tm Fuel (fun k => laws_szWeighS.t k a0 a1) (fun r => r < 0 ∨ 0 ≤ r ∧ r ≤ a1 ∧ SlOk RSI lim a0 ∧ True) := by
  unfold laws_szWeighS.t laws_szWeighS.g
  have hm := maxLen_eq
  have hlim : lim = 1048576 := rfl
  have hlen := ga0.1
  try rw [wrap_i64 (x := a1 - (a0.length : Int)) (by omega) (by omega)]
  refine Tm.ite (fun h1 => ?_) (fun h1 => ?_)
  · try simp only [decide_eq_true_eq, decide_eq_false_iff_not, Int.not_lt, Int.not_le, bne_iff_ne, ne_eq, bne_eq_false_iff_eq, Bool.not_eq_true', Bool.not_eq_false'] at h1
    exact Tm.ret (by first | (left; omega) | (right; refine ⟨?_, ?_, ?_, trivial⟩ <;> first | assumption | omega))
  · try simp only [decide_eq_true_eq, decide_eq_false_iff_not, Int.not_lt, Int.not_le, bne_iff_ne, ne_eq, bne_eq_false_iff_eq, Bool.not_eq_true', Bool.not_eq_false'] at h1
    refine Tm.loop (okk := Fuel) (p := fun k => k) (fun i hi => hi) (b := fun k => laws_szWeighS.l0 k a0 (fun z0 => some z0)) (fun v => match v with | (u0, i) => (((a0.length : Int)) - i).toNat) (fun v => match v with | (u0, i) => 0 ≤ u0 ∧ u0 ≤ a1 ∧ 0 ≤ i ∧ i ≤ (a0.length : Int) ∧ ∀ r ∈ a0.take i.toNat, RSI lim r) ?_ ?_ ?_
    · rintro ⟨u0, i⟩ hI
      try simp only [] at hI ⊢
      have : big = 2 ^ 100 := rfl
      have := ga0.1
      omega
    · exact ⟨by omega, by omega, by omega, by simp, by simp⟩
    · rintro ⟨u0, i⟩ hI L hL
      try simp only [] at hI
      obtain ⟨u0a, u0b, i0, i1, hr⟩ := hI
      simp only [laws_szWeighS.l0]
      refine Tm.ite (fun h2 => ?_) (fun h2 => ?_)
      · try simp only [decide_eq_true_eq, decide_eq_false_iff_not, Int.not_lt, Int.not_le, bne_iff_ne, ne_eq, bne_eq_false_iff_eq, Bool.not_eq_true', Bool.not_eq_false'] at h2
        refine Tm.atRow (by first | assumption | omega | (simp only [lim, maxLen_eq] at *; omega)) (by first | assumption | omega | (simp only [lim, maxLen_eq] at *; omega)) (fun x3 hx4 hm5 => ?_)
        obtain ⟨c6, c7, rfl, g8, g9, _⟩ := ga0.2 x3 hm5
        refine Tm.uncons ?_
        refine Tm.dStr ?_
        refine Tm.uncons ?_
        refine Tm.dInt ?_
        refine Tm.atEnd ?_
        refine laws_szWeigh.tm (fun i hi => hi.1) (laws_szWeigh.T (by first | assumption | omega | (simp only [lim, maxLen_eq] at *; omega)) (by first | assumption | omega | (simp only [lim, maxLen_eq] at *; omega)) (by first | assumption | omega | (simp only [lim, maxLen_eq] at *; omega))) (fun y11 hy10 => ?_)
        rcases hy10 with hy10 | ⟨p13, p14, q12, _⟩
        · exact Tm.ite (fun _ => Tm.ret (by left; omega)) (fun h => by simp at h; omega)
        refine Tm.ite (fun h15 => ?_) (fun h15 => ?_)
        · try simp only [decide_eq_true_eq, decide_eq_false_iff_not, Int.not_lt, Int.not_le, bne_iff_ne, ne_eq, bne_eq_false_iff_eq, Bool.not_eq_true', Bool.not_eq_false'] at h15
          exact Tm.ret (by first | (left; omega) | exact .inr ⟨by omega, by omega, ⟨by simp only [lim]; omega, all_rows (by omega) hr⟩, trivial⟩)
        · try simp only [decide_eq_true_eq, decide_eq_false_iff_not, Int.not_lt, Int.not_le, bne_iff_ne, ne_eq, bne_eq_false_iff_eq, Bool.not_eq_true', Bool.not_eq_false'] at h15
          try rw [wrap_i64 (x := i + 1) (by omega) (by omega)]
          refine hL (y11, (i + 1)) ⟨by omega, by omega, by omega, by omega, take_rows i0 hx4 hr ⟨_, _, rfl, by first | assumption | omega, by first | assumption | omega, trivial⟩⟩ (by (try simp only []); omega)
      · try simp only [decide_eq_true_eq, decide_eq_false_iff_not, Int.not_lt, Int.not_le, bne_iff_ne, ne_eq, bne_eq_false_iff_eq, Bool.not_eq_true', Bool.not_eq_false'] at h2
        exact Tm.ret (by first | (left; omega) | exact .inr ⟨by omega, by omega, ⟨by simp only [lim]; omega, all_rows (by omega) hr⟩, trivial⟩)
theorem laws_szWant.f_of {β : Type} {k : Nat} {a0_0 : Int} {a0_1 : List (List D)} {a0_2 : List (List D)} {a0_3 : List (List D)} {a1 : Int} {z0 : Int} (h : laws_szWant.t k a0_0 a0_1 a0_2 a0_3 a1 = some z0) (K : Int → Option β) : laws_szWant.f k a0_0 a0_1 a0_2 a0_3 a1 K = K z0 := by
  unfold laws_szWant.f
  rw [h]
theorem laws_szWant.tm {ι α : Type} {ok : ι → Prop} {ψ : α → Prop} {p : ι → Nat} (hp : ∀ i, ok i → big ≤ p i) {a0_0 : Int} {a0_1 : List (List D)} {a0_2 : List (List D)} {a0_3 : List (List D)} {a1 : Int} {φ : Int → Prop} (h : Tm Fuel (fun k => laws_szWant.t k a0_0 a0_1 a0_2 a0_3 a1) φ) {G : ι → Int → Option α} (hG : ∀ z0, φ z0 → Tm ok (fun i => G i z0) ψ) : Tm ok (fun i => laws_szWant.f (p i) a0_0 a0_1 a0_2 a0_3 a1 (G i)) ψ := by
  obtain ⟨z0, h1, h2⟩ := h
  exact (hG z0 h1).congr fun i hi => laws_szWant.f_of (h2 (p i) (hp i hi)) _
theorem laws_szWant.T {a0_0 : Int} {a0_1 : List (List D)} {a0_2 : List (List D)} {a0_3 : List (List D)} {a1 : Int} (h0 : 0 ≤ a1) (h1 : a1 ≤ 1048576) (ga0_1 : SlOk RISLSE maxLen a0_1) (ga0_2 : SlOk RS maxLen a0_2) (ga0_3 : SlOk RSI maxLen a0_3) : Tm Fuel (fun k => laws_szWant.t k a0_0 a0_1 a0_2 a0_3 a1) (fun r => r < 0 ∨ 0 ≤ r ∧ r ≤ a1 ∧ SlOk RISLSE lim a0_1 ∧ SlOk RS lim a0_2 ∧ SlOk RSI lim a0_3 ∧ True) := by
  unfold laws_szWant.t laws_szWant.g
  have hm := maxLen_eq
  have hlim : lim = 1048576 := rfl
  refine laws_szTermS.tm (fun i hi => hi) (laws_szTermS.T (by first | assumption | omega | (simp only [lim, maxLen_eq] at *; omega)) (by first | assumption | omega | (simp only [lim, maxLen_eq] at *; omega)) (by first | assumption | omega | (simp only [lim, maxLen_eq] at *; omega))) (fun y2 hy1 => ?_)
  rcases hy1 with hy1 | ⟨p4, p5, q3, _⟩
  · exact Tm.ite (fun _ => Tm.ret (by left; omega)) (fun h => by simp at h; omega)
  refine Tm.ite (fun h6 => ?_) (fun h6 => ?_)
  · try simp only [decide_eq_true_eq, decide_eq_false_iff_not, Int.not_lt, Int.not_le, bne_iff_ne, ne_eq, bne_eq_false_iff_eq, Bool.not_eq_true', Bool.not_eq_false'] at h6
    exact Tm.ret (by first | (left; omega) | (right; refine ⟨?_, ?_, ?_, ?_, ?_, trivial⟩ <;> first | assumption | omega))
  · try simp only [decide_eq_true_eq, decide_eq_false_iff_not, Int.not_lt, Int.not_le, bne_iff_ne, ne_eq, bne_eq_false_iff_eq, Bool.not_eq_true', Bool.not_eq_false'] at h6
    refine laws_szStringS.tm (fun i hi => hi) (laws_szStringS.T (by first | assumption | omega | (simp only [lim, maxLen_eq] at *; omega)) (by first | assumption | omega | (simp only [lim, maxLen_eq] at *; omega)) (by first | assumption | omega | (simp only [lim, maxLen_eq] at *; omega))) (fun y8 hy7 => ?_)
    rcases hy7 with hy7 | ⟨p10, p11, q9, _⟩
    · exact Tm.ite (fun _ => Tm.ret (by left; omega)) (fun h => by simp at h; omega)
    refine Tm.ite (fun h12 => ?_) (fun h12 => ?_)
    · try simp only [decide_eq_true_eq, decide_eq_false_iff_not, Int.not_lt, Int.not_le, bne_iff_ne, ne_eq, bne_eq_false_iff_eq, Bool.not_eq_true', Bool.not_eq_false'] at h12
      exact Tm.ret (by first | (left; omega) | (right; refine ⟨?_, ?_, ?_, ?_, ?_, trivial⟩ <;> first | assumption | omega))
    · try simp only [decide_eq_true_eq, decide_eq_false_iff_not, Int.not_lt, Int.not_le, bne_iff_ne, ne_eq, bne_eq_false_iff_eq, Bool.not_eq_true', Bool.not_eq_false'] at h12
      refine laws_szWeighS.tm (fun i hi => hi) (laws_szWeighS.T (by first | assumption | omega | (simp only [lim, maxLen_eq] at *; omega)) (by first | assumption | omega | (simp only [lim, maxLen_eq] at *; omega)) (by first | assumption | omega | (simp only [lim, maxLen_eq] at *; omega))) (fun y14 hy13 => ?_)
      rcases hy13 with hy13 | ⟨p16, p17, q15, _⟩
      · exact Tm.ite (fun _ => Tm.ret (by left; omega)) (fun h => by simp at h; omega)
      refine Tm.ite (fun h18 => ?_) (fun h18 => ?_)
      · try simp only [decide_eq_true_eq, decide_eq_false_iff_not, Int.not_lt, Int.not_le, bne_iff_ne, ne_eq, bne_eq_false_iff_eq, Bool.not_eq_true', Bool.not_eq_false'] at h18
        exact Tm.ret (by first | (left; omega) | (right; refine ⟨?_, ?_, ?_, ?_, ?_, trivial⟩ <;> first | assumption | omega))
      · try simp only [decide_eq_true_eq, decide_eq_false_iff_not, Int.not_lt, Int.not_le, bne_iff_ne, ne_eq, bne_eq_false_iff_eq, Bool.not_eq_true', Bool.not_eq_false'] at h18
        exact Tm.ret (by first | (left; omega) | (right; refine ⟨?_, ?_, ?_, ?_, ?_, trivial⟩ <;> first | assumption | omega))
theorem laws_szLabel.f_of {β : Type} {k : Nat} {a0_0 : ByteArray} {a0_1 : ByteArray} {a1 : Int} {z0 : Int} (h : laws_szLabel.t k a0_0 a0_1 a1 = some z0) (K : Int → Option β) : laws_szLabel.f k a0_0 a0_1 a1 K = K z0 := by
  unfold laws_szLabel.f
  rw [h]
theorem laws_szLabel.tm {ι α : Type} {ok : ι → Prop} {ψ : α → Prop} {p : ι → Nat} (hp : ∀ i, ok i → big ≤ p i) {a0_0 : ByteArray} {a0_1 : ByteArray} {a1 : Int} {φ : Int → Prop} (h : Tm Fuel (fun k => laws_szLabel.t k a0_0 a0_1 a1) φ) {G : ι → Int → Option α} (hG : ∀ z0, φ z0 → Tm ok (fun i => G i z0) ψ) : Tm ok (fun i => laws_szLabel.f (p i) a0_0 a0_1 a1 (G i)) ψ := by
  obtain ⟨z0, h1, h2⟩ := h
  exact (hG z0 h1).congr fun i hi => laws_szLabel.f_of (h2 (p i) (hp i hi)) _
theorem laws_szLabel.T {a0_0 : ByteArray} {a0_1 : ByteArray} {a1 : Int} (h0 : 0 ≤ a1) (h1 : a1 ≤ 1048576) (ga0_0 : a0_0.size ≤ maxLen) (ga0_1 : a0_1.size ≤ maxLen) : Tm Fuel (fun k => laws_szLabel.t k a0_0 a0_1 a1) (fun r => r < 0 ∨ 0 ≤ r ∧ r ≤ a1 ∧ a0_0.size ≤ lim ∧ a0_1.size ≤ lim ∧ True) := by
  unfold laws_szLabel.t laws_szLabel.g
  have hm := maxLen_eq
  have hlim : lim = 1048576 := rfl
  try rw [wrap_i64 (x := a1 - (a0_0.size : Int)) (by omega) (by omega)]
  refine Tm.ite (fun h1 => ?_) (fun h1 => ?_)
  · try simp only [decide_eq_true_eq, decide_eq_false_iff_not, Int.not_lt, Int.not_le, bne_iff_ne, ne_eq, bne_eq_false_iff_eq, Bool.not_eq_true', Bool.not_eq_false'] at h1
    exact Tm.ret (by first | (left; omega) | (right; refine ⟨?_, ?_, ?_, ?_, trivial⟩ <;> first | assumption | omega))
  · try simp only [decide_eq_true_eq, decide_eq_false_iff_not, Int.not_lt, Int.not_le, bne_iff_ne, ne_eq, bne_eq_false_iff_eq, Bool.not_eq_true', Bool.not_eq_false'] at h1
    try rw [wrap_i64 (x := ((a1 - (a0_0.size : Int))) - (a0_1.size : Int)) (by omega) (by omega)]
    refine Tm.ite (fun h2 => ?_) (fun h2 => ?_)
    · try simp only [decide_eq_true_eq, decide_eq_false_iff_not, Int.not_lt, Int.not_le, bne_iff_ne, ne_eq, bne_eq_false_iff_eq, Bool.not_eq_true', Bool.not_eq_false'] at h2
      exact Tm.ret (by first | (left; omega) | (right; refine ⟨?_, ?_, ?_, ?_, trivial⟩ <;> first | assumption | omega))
    · try simp only [decide_eq_true_eq, decide_eq_false_iff_not, Int.not_lt, Int.not_le, bne_iff_ne, ne_eq, bne_eq_false_iff_eq, Bool.not_eq_true', Bool.not_eq_false'] at h2
      exact Tm.ret (by first | (left; omega) | (right; refine ⟨?_, ?_, ?_, ?_, trivial⟩ <;> first | assumption | omega))
theorem laws_szLabelS.f_of {β : Type} {k : Nat} {a0 : List (List D)} {a1 : Int} {z0 : Int} (h : laws_szLabelS.t k a0 a1 = some z0) (K : Int → Option β) : laws_szLabelS.f k a0 a1 K = K z0 := by
  unfold laws_szLabelS.f
  rw [h]
theorem laws_szLabelS.tm {ι α : Type} {ok : ι → Prop} {ψ : α → Prop} {p : ι → Nat} (hp : ∀ i, ok i → big ≤ p i) {a0 : List (List D)} {a1 : Int} {φ : Int → Prop} (h : Tm Fuel (fun k => laws_szLabelS.t k a0 a1) φ) {G : ι → Int → Option α} (hG : ∀ z0, φ z0 → Tm ok (fun i => G i z0) ψ) : Tm ok (fun i => laws_szLabelS.f (p i) a0 a1 (G i)) ψ := by
  obtain ⟨z0, h1, h2⟩ := h
  exact (hG z0 h1).congr fun i hi => laws_szLabelS.f_of (h2 (p i) (hp i hi)) _
def RSS (B : Nat) (r : List D) : Prop := ∃ (c0 : ByteArray) (c1 : ByteArray), r = [.str c0, .str c1] ∧ c0.size ≤ B ∧ c1.size ≤ B ∧ True
theorem RSS.len {B : Nat} {r : List D} (h : RSS B r) : r.length = 2 := by
  obtain ⟨c0, c1, rfl, _⟩ := h
  rfl
theorem RSS.gets {B : Nat} {xs : List (List D)} (h : ∀ r ∈ xs, RSS B r) {v : Int} (h0 : 0 ≤ v) (h1 : v < xs.length) : gR xs v = [.str (gS xs v 0), .str (gS xs v 1)] ∧ (gS xs v 0).size ≤ B ∧ (gS xs v 1).size ≤ B ∧ True := by
  obtain ⟨c0, c1, e, k0, k1, _⟩ := h (gR xs v) (gR_mem h0 h1)
  unfold gS
  rw [e]
  exact ⟨rfl, k0, k1, trivial⟩
theorem RSS.rows {B : Nat} {xs : List (List D)} (h : ∀ r ∈ xs, RSS B r) {v : Int} (h0 : 0 ≤ v) (h1 : v < xs.length) {β : Type} (F : List D → Option β) : atRow xs v F = F [.str (gS xs v 0), .str (gS xs v 1)] := by
  rw [← (RSS.gets h h0 h1).1]
  exact atRow_gR h0 h1 F
theorem RSS.get {B : Nat} {xs : List (List D)} (h : SlOk RSS B xs) {v : Int} (h0 : 0 ≤ v) (h1 : v < xs.length) : gR xs v = [.str (gS xs v 0), .str (gS xs v 1)] ∧ (gS xs v 0).size ≤ B ∧ (gS xs v 1).size ≤ B ∧ True := RSS.gets h.2 h0 h1
theorem RSS.row {B : Nat} {xs : List (List D)} (h : SlOk RSS B xs) {v : Int} (h0 : 0 ≤ v) (h1 : v < xs.length) {β : Type} (F : List D → Option β) : atRow xs v F = F [.str (gS xs v 0), .str (gS xs v 1)] := RSS.rows h.2 h0 h1 F
theorem laws_szLabelS.T {a0 : List (List D)} {a1 : Int} (h0 : 0 ≤ a1) (h1 : a1 ≤ 1048576) (ga0 : SlOk RSS maxLen a0) : Tm Fuel (fun k => laws_szLabelS.t k a0 a1) (fun r => r < 0 ∨ 0 ≤ r ∧ r ≤ a1 ∧ SlOk RSS lim a0 ∧ True) := by
  unfold laws_szLabelS.t laws_szLabelS.g
  have hm := maxLen_eq
  have hlim : lim = 1048576 := rfl
  have hlen := ga0.1
  try rw [wrap_i64 (x := a1 - (a0.length : Int)) (by omega) (by omega)]
  refine Tm.ite (fun h1 => ?_) (fun h1 => ?_)
  · try simp only [decide_eq_true_eq, decide_eq_false_iff_not, Int.not_lt, Int.not_le, bne_iff_ne, ne_eq, bne_eq_false_iff_eq, Bool.not_eq_true', Bool.not_eq_false'] at h1
    exact Tm.ret (by first | (left; omega) | (right; refine ⟨?_, ?_, ?_, trivial⟩ <;> first | assumption | omega))
  · try simp only [decide_eq_true_eq, decide_eq_false_iff_not, Int.not_lt, Int.not_le, bne_iff_ne, ne_eq, bne_eq_false_iff_eq, Bool.not_eq_true', Bool.not_eq_false'] at h1
    refine Tm.loop (okk := Fuel) (p := fun k => k) (fun i hi => hi) (b := fun k => laws_szLabelS.l0 k a0 (fun z0 => some z0)) (fun v => match v with | (u0, i) => (((a0.length : Int)) - i).toNat) (fun v => match v with | (u0, i) => 0 ≤ u0 ∧ u0 ≤ a1 ∧ 0 ≤ i ∧ i ≤ (a0.length : Int) ∧ ∀ r ∈ a0.take i.toNat, RSS lim r) ?_ ?_ ?_
    · rintro ⟨u0, i⟩ hI
      try simp only [] at hI ⊢
      have : big = 2 ^ 100 := rfl
      have := ga0.1
      omega
    · exact ⟨by omega, by omega, by omega, by simp, by simp⟩
    · rintro ⟨u0, i⟩ hI L hL
      try simp only [] at hI
      obtain ⟨u0a, u0b, i0, i1, hr⟩ := hI
      simp only [laws_szLabelS.l0]
      refine Tm.ite (fun h2 => ?_) (fun h2 => ?_)
      · try simp only [decide_eq_true_eq, decide_eq_false_iff_not, Int.not_lt, Int.not_le, bne_iff_ne, ne_eq, bne_eq_false_iff_eq, Bool.not_eq_true', Bool.not_eq_false'] at h2
        refine Tm.atRow (by first | assumption | omega | (simp only [lim, maxLen_eq] at *; omega)) (by first | assumption | omega | (simp only [lim, maxLen_eq] at *; omega)) (fun x3 hx4 hm5 => ?_)
        obtain ⟨c6, c7, rfl, g8, g9, _⟩ := ga0.2 x3 hm5
        refine Tm.uncons ?_
        refine Tm.dStr ?_
        refine Tm.uncons ?_
        refine Tm.dStr ?_
        refine Tm.atEnd ?_
        refine laws_szLabel.tm (fun i hi => hi.1) (laws_szLabel.T (by first | assumption | omega | (simp only [lim, maxLen_eq] at *; omega)) (by first | assumption | omega | (simp only [lim, maxLen_eq] at *; omega)) (by first | assumption | omega | (simp only [lim, maxLen_eq] at *; omega)) (by first | assumption | omega | (simp only [lim, maxLen_eq] at *; omega))) (fun y11 hy10 => ?_)
        rcases hy10 with hy10 | ⟨p14, p15, q12, q13, _⟩
        · exact Tm.ite (fun _ => Tm.ret (by left; omega)) (fun h => by simp at h; omega)
        refine Tm.ite (fun h16 => ?_) (fun h16 => ?_)
        · try simp only [decide_eq_true_eq, decide_eq_false_iff_not, Int.not_lt, Int.not_le, bne_iff_ne, ne_eq, bne_eq_false_iff_eq, Bool.not_eq_true', Bool.not_eq_false'] at h16
          exact Tm.ret (by first | (left; omega) | exact .inr ⟨by omega, by omega, ⟨by simp only [lim]; omega, all_rows (by omega) hr⟩, trivial⟩)
        · try simp only [decide_eq_true_eq, decide_eq_false_iff_not, Int.not_lt, Int.not_le, bne_iff_ne, ne_eq, bne_eq_false_iff_eq, Bool.not_eq_true', Bool.not_eq_false'] at h16
          try rw [wrap_i64 (x := i + 1) (by omega) (by omega)]
          refine hL (y11, (i + 1)) ⟨by omega, by omega, by omega, by omega, take_rows i0 hx4 hr ⟨_, _, rfl, by first | assumption | omega, by first | assumption | omega, trivial⟩⟩ (by (try simp only []); omega)
      · try simp only [decide_eq_true_eq, decide_eq_false_iff_not, Int.not_lt, Int.not_le, bne_iff_ne, ne_eq, bne_eq_false_iff_eq, Bool.not_eq_true', Bool.not_eq_false'] at h2
        exact Tm.ret (by first | (left; omega) | exact .inr ⟨by omega, by omega, ⟨by simp only [lim]; omega, all_rows (by omega) hr⟩, trivial⟩)
theorem laws_szIsland.f_of {β : Type} {k : Nat} {a0_0 : ByteArray} {a0_1 : List (List D)} {a0_2 : List (List D)} {a0_3 : Int} {a1 : Int} {z0 : Int} (h : laws_szIsland.t k a0_0 a0_1 a0_2 a0_3 a1 = some z0) (K : Int → Option β) : laws_szIsland.f k a0_0 a0_1 a0_2 a0_3 a1 K = K z0 := by
  unfold laws_szIsland.f
  rw [h]
theorem laws_szIsland.tm {ι α : Type} {ok : ι → Prop} {ψ : α → Prop} {p : ι → Nat} (hp : ∀ i, ok i → big ≤ p i) {a0_0 : ByteArray} {a0_1 : List (List D)} {a0_2 : List (List D)} {a0_3 : Int} {a1 : Int} {φ : Int → Prop} (h : Tm Fuel (fun k => laws_szIsland.t k a0_0 a0_1 a0_2 a0_3 a1) φ) {G : ι → Int → Option α} (hG : ∀ z0, φ z0 → Tm ok (fun i => G i z0) ψ) : Tm ok (fun i => laws_szIsland.f (p i) a0_0 a0_1 a0_2 a0_3 a1 (G i)) ψ := by
  obtain ⟨z0, h1, h2⟩ := h
  exact (hG z0 h1).congr fun i hi => laws_szIsland.f_of (h2 (p i) (hp i hi)) _
theorem laws_szIsland.T {a0_0 : ByteArray} {a0_1 : List (List D)} {a0_2 : List (List D)} {a0_3 : Int} {a1 : Int} (h0 : 0 ≤ a1) (h1 : a1 ≤ 1048576) (ga0_0 : a0_0.size ≤ maxLen) (ga0_1 : SlOk RSS maxLen a0_1) (ga0_2 : SlOk RS maxLen a0_2) : Tm Fuel (fun k => laws_szIsland.t k a0_0 a0_1 a0_2 a0_3 a1) (fun r => r < 0 ∨ 0 ≤ r ∧ r ≤ a1 ∧ a0_0.size ≤ lim ∧ SlOk RSS lim a0_1 ∧ SlOk RS lim a0_2 ∧ True) := by
  unfold laws_szIsland.t laws_szIsland.g
  have hm := maxLen_eq
  have hlim : lim = 1048576 := rfl
  try rw [wrap_i64 (x := a1 - (a0_0.size : Int)) (by omega) (by omega)]
  refine Tm.ite (fun h1 => ?_) (fun h1 => ?_)
  · try simp only [decide_eq_true_eq, decide_eq_false_iff_not, Int.not_lt, Int.not_le, bne_iff_ne, ne_eq, bne_eq_false_iff_eq, Bool.not_eq_true', Bool.not_eq_false'] at h1
    exact Tm.ret (by first | (left; omega) | (right; refine ⟨?_, ?_, ?_, ?_, ?_, trivial⟩ <;> first | assumption | omega))
  · try simp only [decide_eq_true_eq, decide_eq_false_iff_not, Int.not_lt, Int.not_le, bne_iff_ne, ne_eq, bne_eq_false_iff_eq, Bool.not_eq_true', Bool.not_eq_false'] at h1
    refine laws_szLabelS.tm (fun i hi => hi) (laws_szLabelS.T (by first | assumption | omega | (simp only [lim, maxLen_eq] at *; omega)) (by first | assumption | omega | (simp only [lim, maxLen_eq] at *; omega)) (by first | assumption | omega | (simp only [lim, maxLen_eq] at *; omega))) (fun y3 hy2 => ?_)
    rcases hy2 with hy2 | ⟨p5, p6, q4, _⟩
    · exact Tm.ite (fun _ => Tm.ret (by left; omega)) (fun h => by simp at h; omega)
    refine Tm.ite (fun h7 => ?_) (fun h7 => ?_)
    · try simp only [decide_eq_true_eq, decide_eq_false_iff_not, Int.not_lt, Int.not_le, bne_iff_ne, ne_eq, bne_eq_false_iff_eq, Bool.not_eq_true', Bool.not_eq_false'] at h7
      exact Tm.ret (by first | (left; omega) | (right; refine ⟨?_, ?_, ?_, ?_, ?_, trivial⟩ <;> first | assumption | omega))
    · try simp only [decide_eq_true_eq, decide_eq_false_iff_not, Int.not_lt, Int.not_le, bne_iff_ne, ne_eq, bne_eq_false_iff_eq, Bool.not_eq_true', Bool.not_eq_false'] at h7
      refine laws_szStringS.tm (fun i hi => hi) (laws_szStringS.T (by first | assumption | omega | (simp only [lim, maxLen_eq] at *; omega)) (by first | assumption | omega | (simp only [lim, maxLen_eq] at *; omega)) (by first | assumption | omega | (simp only [lim, maxLen_eq] at *; omega))) (fun y9 hy8 => ?_)
      rcases hy8 with hy8 | ⟨p11, p12, q10, _⟩
      · exact Tm.ite (fun _ => Tm.ret (by left; omega)) (fun h => by simp at h; omega)
      refine Tm.ite (fun h13 => ?_) (fun h13 => ?_)
      · try simp only [decide_eq_true_eq, decide_eq_false_iff_not, Int.not_lt, Int.not_le, bne_iff_ne, ne_eq, bne_eq_false_iff_eq, Bool.not_eq_true', Bool.not_eq_false'] at h13
        exact Tm.ret (by first | (left; omega) | (right; refine ⟨?_, ?_, ?_, ?_, ?_, trivial⟩ <;> first | assumption | omega))
      · try simp only [decide_eq_true_eq, decide_eq_false_iff_not, Int.not_lt, Int.not_le, bne_iff_ne, ne_eq, bne_eq_false_iff_eq, Bool.not_eq_true', Bool.not_eq_false'] at h13
        exact Tm.ret (by first | (left; omega) | (right; refine ⟨?_, ?_, ?_, ?_, ?_, trivial⟩ <;> first | assumption | omega))
theorem laws_toStringS.f_of {β : Type} {k : Nat} {a0 : List (List D)} {z0 : List (List C)} (h : laws_toStringS.t k a0 = some z0) (K : (List (List C)) → Option β) : laws_toStringS.f k a0 K = K z0 := by
  unfold laws_toStringS.f
  rw [h]
theorem laws_toStringS.tm {ι α : Type} {ok : ι → Prop} {ψ : α → Prop} {p : ι → Nat} (hp : ∀ i, ok i → big ≤ p i) {a0 : List (List D)} {φ : (List (List C)) → Prop} (h : Tm Fuel (fun k => laws_toStringS.t k a0) φ) {G : ι → (List (List C)) → Option α} (hG : ∀ z0, φ z0 → Tm ok (fun i => G i z0) ψ) : Tm ok (fun i => laws_toStringS.f (p i) a0 (G i)) ψ := by
  obtain ⟨z0, h1, h2⟩ := h
  exact (hG z0 h1).congr fun i hi => laws_toStringS.f_of (h2 (p i) (hp i hi)) _
theorem laws_toStringS.T {a0 : List (List D)} (ga0 : SlOk RS lim a0) : Tm Fuel (fun k => laws_toStringS.t k a0) (fun z => C.immRows z = a0 ∧ True) := by
  unfold laws_toStringS.t laws_toStringS.g
  have hm := maxLen_eq
  have hlim : lim = 1048576 := rfl
  have hlen := ga0.1
  refine Tm.guard (by first | omega | (simp only [lim, maxLen_eq, most] at *; omega) | (simp only [lim, most] at *; refine ⟨?_, ?_, ?_, ?_⟩ <;> omega)) ?_
  refine Tm.loop (okk := Fuel) (p := fun k => k) (fun i hi => hi) (b := fun k => laws_toStringS.l0 k a0 (fun z0 => some z0)) (fun v => match v with | (i, u1) => (((a0.length : Int)) - i).toNat) (fun v => match v with | (i, u1) => 0 ≤ i ∧ i ≤ (a0.length : Int) ∧ Filled a0 ([.d (.str (⟨#[]⟩ : ByteArray))] : List C) i u1) ?_ ?_ ?_
  · rintro ⟨i, u1⟩ hI
    try simp only [] at hI ⊢
    have : big = 2 ^ 100 := rfl
    have := ga0.1
    simp only [lim] at this
    omega
  · exact ⟨by omega, by simp, Filled.start _ _⟩
  · rintro ⟨i, u1⟩ hI L hL
    try simp only [] at hI
    obtain ⟨i0, i1, hF⟩ := hI
    have hFl := hF.len i1
    simp only [laws_toStringS.l0]
    refine Tm.ite (fun h1 => ?_) (fun h1 => ?_)
    · try simp only [decide_eq_true_eq, decide_eq_false_iff_not, Int.not_lt, Int.not_le, bne_iff_ne, ne_eq, bne_eq_false_iff_eq, Bool.not_eq_true', Bool.not_eq_false'] at h1
      refine Tm.atRow (by first | assumption | omega | (simp only [lim, maxLen_eq] at *; omega)) (by first | assumption | omega | (simp only [lim, maxLen_eq] at *; omega)) (fun x2 hx3 hm4 => ?_)
      obtain ⟨c5, rfl, g6, _⟩ := ga0.2 x2 hm4
      refine Tm.uncons ?_
      refine Tm.dStr ?_
      refine Tm.atEnd ?_
      refine Tm.guard (by first | omega | (simp only [lim, maxLen_eq, most] at *; omega) | (simp only [lim, most] at *; refine ⟨?_, ?_, ?_, ?_⟩ <;> omega)) ?_
      refine Tm.guard (by first | omega | (simp only [lim, maxLen_eq, most] at *; omega) | (simp only [lim, most] at *; refine ⟨?_, ?_, ?_, ?_⟩ <;> omega)) ?_
      try rw [wrap_i64 (x := i + 1) (by omega) (by omega)]
      refine hL (_, _) ⟨by omega, by omega, hF.next i0 hx3 rfl (by simp [C.immCells, C.imm])⟩ (by (try simp only []); omega)
    · try simp only [decide_eq_true_eq, decide_eq_false_iff_not, Int.not_lt, Int.not_le, bne_iff_ne, ne_eq, bne_eq_false_iff_eq, Bool.not_eq_true', Bool.not_eq_false'] at h1
      exact Tm.ret (by exact ⟨hF.all (by omega), trivial⟩)
theorem laws_toTerm.f_of {β : Type} {k : Nat} {a0_0 : Int} {a0_1 : ByteArray} {a0_2 : List (List D)} {z0 : Int} {z1 : ByteArray} {z2 : List (List C)} (h : laws_toTerm.t k a0_0 a0_1 a0_2 = some (z0, z1, z2)) (K : Int → ByteArray → (List (List C)) → Option β) : laws_toTerm.f k a0_0 a0_1 a0_2 K = K z0 z1 z2 := by
  unfold laws_toTerm.f
  rw [h]
theorem laws_toTerm.tm {ι α : Type} {ok : ι → Prop} {ψ : α → Prop} {p : ι → Nat} (hp : ∀ i, ok i → big ≤ p i) {a0_0 : Int} {a0_1 : ByteArray} {a0_2 : List (List D)} {φ : Int × ByteArray × (List (List C)) → Prop} (h : Tm Fuel (fun k => laws_toTerm.t k a0_0 a0_1 a0_2) φ) {G : ι → Int → ByteArray → (List (List C)) → Option α} (hG : ∀ z0 z1 z2, φ (z0, z1, z2) → Tm ok (fun i => G i z0 z1 z2) ψ) : Tm ok (fun i => laws_toTerm.f (p i) a0_0 a0_1 a0_2 (G i)) ψ := by
  obtain ⟨⟨z0, z1, z2⟩, h1, h2⟩ := h
  exact (hG z0 z1 z2 h1).congr fun i hi => laws_toTerm.f_of (h2 (p i) (hp i hi)) _
theorem laws_toTerm.T {a0_0 : Int} {a0_1 : ByteArray} {a0_2 : List (List D)} (ga0_1 : a0_1.size ≤ lim) (ga0_2 : SlOk RS lim a0_2) : Tm Fuel (fun k => laws_toTerm.t k a0_0 a0_1 a0_2) (fun z => z.1 = a0_0 ∧ z.2.1 = a0_1 ∧ C.immRows z.2.2 = a0_2 ∧ True) := by
  unfold laws_toTerm.t laws_toTerm.g
  have hm := maxLen_eq
  have hlim : lim = 1048576 := rfl
  refine laws_toStringS.tm (fun i hi => hi) (laws_toStringS.T (by first | assumption | omega | (simp only [lim, maxLen_eq] at *; omega))) (fun y2 hy1 => ?_)
  try simp only [] at hy1
  obtain ⟨e3, _⟩ := hy1
  try simp only [e3]
  exact Tm.ret (by exact ⟨by first | rfl | assumption, by first | rfl | assumption, by first | rfl | assumption, trivial⟩)
theorem laws_toTermS.f_of {β : Type} {k : Nat} {a0 : List (List D)} {z0 : List (List C)} (h : laws_toTermS.t k a0 = some z0) (K : (List (List C)) → Option β) : laws_toTermS.f k a0 K = K z0 := by
  unfold laws_toTermS.f
  rw [h]
theorem laws_toTermS.tm {ι α : Type} {ok : ι → Prop} {ψ : α → Prop} {p : ι → Nat} (hp : ∀ i, ok i → big ≤ p i) {a0 : List (List D)} {φ : (List (List C)) → Prop} (h : Tm Fuel (fun k => laws_toTermS.t k a0) φ) {G : ι → (List (List C)) → Option α} (hG : ∀ z0, φ z0 → Tm ok (fun i => G i z0) ψ) : Tm ok (fun i => laws_toTermS.f (p i) a0 (G i)) ψ := by
  obtain ⟨z0, h1, h2⟩ := h
  exact (hG z0 h1).congr fun i hi => laws_toTermS.f_of (h2 (p i) (hp i hi)) _
theorem laws_toTermS.T {a0 : List (List D)} (ga0 : SlOk RISLSE lim a0) : Tm Fuel (fun k => laws_toTermS.t k a0) (fun z => C.immRows z = a0 ∧ True) := by
  unfold laws_toTermS.t laws_toTermS.g
  have hm := maxLen_eq
  have hlim : lim = 1048576 := rfl
  have hlen := ga0.1
  refine Tm.guard (by first | omega | (simp only [lim, maxLen_eq, most] at *; omega) | (simp only [lim, most] at *; refine ⟨?_, ?_, ?_, ?_⟩ <;> omega)) ?_
  refine Tm.loop (okk := Fuel) (p := fun k => k) (fun i hi => hi) (b := fun k => laws_toTermS.l0 k a0 (fun z0 => some z0)) (fun v => match v with | (i, u1) => (((a0.length : Int)) - i).toNat) (fun v => match v with | (i, u1) => 0 ≤ i ∧ i ≤ (a0.length : Int) ∧ Filled a0 ([.d (.int .i64 0), .d (.str (⟨#[]⟩ : ByteArray)), .own ([] : List (List C))] : List C) i u1) ?_ ?_ ?_
  · rintro ⟨i, u1⟩ hI
    try simp only [] at hI ⊢
    have : big = 2 ^ 100 := rfl
    have := ga0.1
    simp only [lim] at this
    omega
  · exact ⟨by omega, by simp, Filled.start _ _⟩
  · rintro ⟨i, u1⟩ hI L hL
    try simp only [] at hI
    obtain ⟨i0, i1, hF⟩ := hI
    have hFl := hF.len i1
    simp only [laws_toTermS.l0]
    refine Tm.ite (fun h1 => ?_) (fun h1 => ?_)
    · try simp only [decide_eq_true_eq, decide_eq_false_iff_not, Int.not_lt, Int.not_le, bne_iff_ne, ne_eq, bne_eq_false_iff_eq, Bool.not_eq_true', Bool.not_eq_false'] at h1
      refine Tm.atRow (by first | assumption | omega | (simp only [lim, maxLen_eq] at *; omega)) (by first | assumption | omega | (simp only [lim, maxLen_eq] at *; omega)) (fun x2 hx3 hm4 => ?_)
      obtain ⟨c5, c6, c7, rfl, g8, g9, g10, _⟩ := ga0.2 x2 hm4
      refine Tm.uncons ?_
      refine Tm.dInt ?_
      refine Tm.uncons ?_
      refine Tm.dStr ?_
      refine Tm.uncons ?_
      refine Tm.dSl ?_
      refine Tm.atEnd ?_
      refine laws_toTerm.tm (fun i hi => hi.1) (laws_toTerm.T (by first | assumption | omega | (simp only [lim, maxLen_eq] at *; omega)) (by first | assumption | omega | (simp only [lim, maxLen_eq] at *; omega))) (fun y12 y13 y14 hy11 => ?_)
      try simp only [] at hy11
      obtain ⟨rfl, rfl, e15, _⟩ := hy11
      try simp only [e15]
      refine Tm.guard (by first | omega | (simp only [lim, maxLen_eq, most] at *; omega) | (simp only [lim, most] at *; refine ⟨?_, ?_, ?_, ?_⟩ <;> omega)) ?_
      refine Tm.guard (by first | omega | (simp only [lim, maxLen_eq, most] at *; omega) | (simp only [lim, most] at *; refine ⟨?_, ?_, ?_, ?_⟩ <;> omega)) ?_
      try rw [wrap_i64 (x := i + 1) (by omega) (by omega)]
      refine hL (_, _) ⟨by omega, by omega, hF.next i0 hx3 rfl (by simp [C.immCells, C.imm, e15])⟩ (by (try simp only []); omega)
    · try simp only [decide_eq_true_eq, decide_eq_false_iff_not, Int.not_lt, Int.not_le, bne_iff_ne, ne_eq, bne_eq_false_iff_eq, Bool.not_eq_true', Bool.not_eq_false'] at h1
      exact Tm.ret (by exact ⟨hF.all (by omega), trivial⟩)
theorem laws_toWeigh.f_of {β : Type} {k : Nat} {a0_0 : ByteArray} {a0_1 : Int} {z0 : ByteArray} {z1 : Int} (h : laws_toWeigh.t k a0_0 a0_1 = some (z0, z1)) (K : ByteArray → Int → Option β) : laws_toWeigh.f k a0_0 a0_1 K = K z0 z1 := by
  unfold laws_toWeigh.f
  rw [h]
theorem laws_toWeigh.tm {ι α : Type} {ok : ι → Prop} {ψ : α → Prop} {p : ι → Nat} (hp : ∀ i, ok i → big ≤ p i) {a0_0 : ByteArray} {a0_1 : Int} {φ : ByteArray × Int → Prop} (h : Tm Fuel (fun k => laws_toWeigh.t k a0_0 a0_1) φ) {G : ι → ByteArray → Int → Option α} (hG : ∀ z0 z1, φ (z0, z1) → Tm ok (fun i => G i z0 z1) ψ) : Tm ok (fun i => laws_toWeigh.f (p i) a0_0 a0_1 (G i)) ψ := by
  obtain ⟨⟨z0, z1⟩, h1, h2⟩ := h
  exact (hG z0 z1 h1).congr fun i hi => laws_toWeigh.f_of (h2 (p i) (hp i hi)) _
theorem laws_toWeigh.T {a0_0 : ByteArray} {a0_1 : Int} (ga0_0 : a0_0.size ≤ lim) : Tm Fuel (fun k => laws_toWeigh.t k a0_0 a0_1) (fun z => z.1 = a0_0 ∧ z.2 = a0_1 ∧ True) := by
  unfold laws_toWeigh.t laws_toWeigh.g
  have hm := maxLen_eq
  have hlim : lim = 1048576 := rfl
  exact Tm.ret (by exact ⟨by first | rfl | assumption, by first | rfl | assumption, trivial⟩)
theorem laws_toWeighS.f_of {β : Type} {k : Nat} {a0 : List (List D)} {z0 : List (List C)} (h : laws_toWeighS.t k a0 = some z0) (K : (List (List C)) → Option β) : laws_toWeighS.f k a0 K = K z0 := by
  unfold laws_toWeighS.f
  rw [h]
theorem laws_toWeighS.tm {ι α : Type} {ok : ι → Prop} {ψ : α → Prop} {p : ι → Nat} (hp : ∀ i, ok i → big ≤ p i) {a0 : List (List D)} {φ : (List (List C)) → Prop} (h : Tm Fuel (fun k => laws_toWeighS.t k a0) φ) {G : ι → (List (List C)) → Option α} (hG : ∀ z0, φ z0 → Tm ok (fun i => G i z0) ψ) : Tm ok (fun i => laws_toWeighS.f (p i) a0 (G i)) ψ := by
  obtain ⟨z0, h1, h2⟩ := h
  exact (hG z0 h1).congr fun i hi => laws_toWeighS.f_of (h2 (p i) (hp i hi)) _
theorem laws_toWeighS.T {a0 : List (List D)} (ga0 : SlOk RSI lim a0) : Tm Fuel (fun k => laws_toWeighS.t k a0) (fun z => C.immRows z = a0 ∧ True) := by
  unfold laws_toWeighS.t laws_toWeighS.g
  have hm := maxLen_eq
  have hlim : lim = 1048576 := rfl
  have hlen := ga0.1
  refine Tm.guard (by first | omega | (simp only [lim, maxLen_eq, most] at *; omega) | (simp only [lim, most] at *; refine ⟨?_, ?_, ?_, ?_⟩ <;> omega)) ?_
  refine Tm.loop (okk := Fuel) (p := fun k => k) (fun i hi => hi) (b := fun k => laws_toWeighS.l0 k a0 (fun z0 => some z0)) (fun v => match v with | (i, u1) => (((a0.length : Int)) - i).toNat) (fun v => match v with | (i, u1) => 0 ≤ i ∧ i ≤ (a0.length : Int) ∧ Filled a0 ([.d (.str (⟨#[]⟩ : ByteArray)), .d (.int .i64 0)] : List C) i u1) ?_ ?_ ?_
  · rintro ⟨i, u1⟩ hI
    try simp only [] at hI ⊢
    have : big = 2 ^ 100 := rfl
    have := ga0.1
    simp only [lim] at this
    omega
  · exact ⟨by omega, by simp, Filled.start _ _⟩
  · rintro ⟨i, u1⟩ hI L hL
    try simp only [] at hI
    obtain ⟨i0, i1, hF⟩ := hI
    have hFl := hF.len i1
    simp only [laws_toWeighS.l0]
    refine Tm.ite (fun h1 => ?_) (fun h1 => ?_)
    · try simp only [decide_eq_true_eq, decide_eq_false_iff_not, Int.not_lt, Int.not_le, bne_iff_ne, ne_eq, bne_eq_false_iff_eq, Bool.not_eq_true', Bool.not_eq_false'] at h1
      refine Tm.atRow (by first | assumption | omega | (simp only [lim, maxLen_eq] at *; omega)) (by first | assumption | omega | (simp only [lim, maxLen_eq] at *; omega)) (fun x2 hx3 hm4 => ?_)
      obtain ⟨c5, c6, rfl, g7, g8, _⟩ := ga0.2 x2 hm4
      refine Tm.uncons ?_
      refine Tm.dStr ?_
      refine Tm.uncons ?_
      refine Tm.dInt ?_
      refine Tm.atEnd ?_
      refine laws_toWeigh.tm (fun i hi => hi.1) (laws_toWeigh.T (by first | assumption | omega | (simp only [lim, maxLen_eq] at *; omega))) (fun y10 y11 hy9 => ?_)
      try simp only [] at hy9
      obtain ⟨rfl, rfl, _⟩ := hy9
      refine Tm.guard (by first | omega | (simp only [lim, maxLen_eq, most] at *; omega) | (simp only [lim, most] at *; refine ⟨?_, ?_, ?_, ?_⟩ <;> omega)) ?_
      refine Tm.guard (by first | omega | (simp only [lim, maxLen_eq, most] at *; omega) | (simp only [lim, most] at *; refine ⟨?_, ?_, ?_, ?_⟩ <;> omega)) ?_
      try rw [wrap_i64 (x := i + 1) (by omega) (by omega)]
      refine hL (_, _) ⟨by omega, by omega, hF.next i0 hx3 rfl (by simp [C.immCells, C.imm])⟩ (by (try simp only []); omega)
    · try simp only [decide_eq_true_eq, decide_eq_false_iff_not, Int.not_lt, Int.not_le, bne_iff_ne, ne_eq, bne_eq_false_iff_eq, Bool.not_eq_true', Bool.not_eq_false'] at h1
      exact Tm.ret (by exact ⟨hF.all (by omega), trivial⟩)
theorem laws_toWant.f_of {β : Type} {k : Nat} {a0_0 : Int} {a0_1 : List (List D)} {a0_2 : List (List D)} {a0_3 : List (List D)} {z0 : Int} {z1 : List (List C)} {z2 : List (List C)} {z3 : List (List C)} (h : laws_toWant.t k a0_0 a0_1 a0_2 a0_3 = some (z0, z1, z2, z3)) (K : Int → (List (List C)) → (List (List C)) → (List (List C)) → Option β) : laws_toWant.f k a0_0 a0_1 a0_2 a0_3 K = K z0 z1 z2 z3 := by
  unfold laws_toWant.f
  rw [h]
theorem laws_toWant.tm {ι α : Type} {ok : ι → Prop} {ψ : α → Prop} {p : ι → Nat} (hp : ∀ i, ok i → big ≤ p i) {a0_0 : Int} {a0_1 : List (List D)} {a0_2 : List (List D)} {a0_3 : List (List D)} {φ : Int × (List (List C)) × (List (List C)) × (List (List C)) → Prop} (h : Tm Fuel (fun k => laws_toWant.t k a0_0 a0_1 a0_2 a0_3) φ) {G : ι → Int → (List (List C)) → (List (List C)) → (List (List C)) → Option α} (hG : ∀ z0 z1 z2 z3, φ (z0, z1, z2, z3) → Tm ok (fun i => G i z0 z1 z2 z3) ψ) : Tm ok (fun i => laws_toWant.f (p i) a0_0 a0_1 a0_2 a0_3 (G i)) ψ := by
  obtain ⟨⟨z0, z1, z2, z3⟩, h1, h2⟩ := h
  exact (hG z0 z1 z2 z3 h1).congr fun i hi => laws_toWant.f_of (h2 (p i) (hp i hi)) _
theorem laws_toWant.T {a0_0 : Int} {a0_1 : List (List D)} {a0_2 : List (List D)} {a0_3 : List (List D)} (ga0_1 : SlOk RISLSE lim a0_1) (ga0_2 : SlOk RS lim a0_2) (ga0_3 : SlOk RSI lim a0_3) : Tm Fuel (fun k => laws_toWant.t k a0_0 a0_1 a0_2 a0_3) (fun z => z.1 = a0_0 ∧ C.immRows z.2.1 = a0_1 ∧ C.immRows z.2.2.1 = a0_2 ∧ C.immRows z.2.2.2 = a0_3 ∧ True) := by
  unfold laws_toWant.t laws_toWant.g
  have hm := maxLen_eq
  have hlim : lim = 1048576 := rfl
  refine laws_toTermS.tm (fun i hi => hi) (laws_toTermS.T (by first | assumption | omega | (simp only [lim, maxLen_eq] at *; omega))) (fun y2 hy1 => ?_)
  try simp only [] at hy1
  obtain ⟨e3, _⟩ := hy1
  try simp only [e3]
  refine laws_toStringS.tm (fun i hi => hi) (laws_toStringS.T (by first | assumption | omega | (simp only [lim, maxLen_eq] at *; omega))) (fun y5 hy4 => ?_)
  try simp only [] at hy4
  obtain ⟨e6, _⟩ := hy4
  try simp only [e6]
  refine laws_toWeighS.tm (fun i hi => hi) (laws_toWeighS.T (by first | assumption | omega | (simp only [lim, maxLen_eq] at *; omega))) (fun y8 hy7 => ?_)
  try simp only [] at hy7
  obtain ⟨e9, _⟩ := hy7
  try simp only [e9]
  exact Tm.ret (by exact ⟨by first | rfl | assumption, by first | rfl | assumption, by first | rfl | assumption, by first | rfl | assumption, trivial⟩)
theorem laws_toLabel.f_of {β : Type} {k : Nat} {a0_0 : ByteArray} {a0_1 : ByteArray} {z0 : ByteArray} {z1 : ByteArray} (h : laws_toLabel.t k a0_0 a0_1 = some (z0, z1)) (K : ByteArray → ByteArray → Option β) : laws_toLabel.f k a0_0 a0_1 K = K z0 z1 := by
  unfold laws_toLabel.f
  rw [h]
theorem laws_toLabel.tm {ι α : Type} {ok : ι → Prop} {ψ : α → Prop} {p : ι → Nat} (hp : ∀ i, ok i → big ≤ p i) {a0_0 : ByteArray} {a0_1 : ByteArray} {φ : ByteArray × ByteArray → Prop} (h : Tm Fuel (fun k => laws_toLabel.t k a0_0 a0_1) φ) {G : ι → ByteArray → ByteArray → Option α} (hG : ∀ z0 z1, φ (z0, z1) → Tm ok (fun i => G i z0 z1) ψ) : Tm ok (fun i => laws_toLabel.f (p i) a0_0 a0_1 (G i)) ψ := by
  obtain ⟨⟨z0, z1⟩, h1, h2⟩ := h
  exact (hG z0 z1 h1).congr fun i hi => laws_toLabel.f_of (h2 (p i) (hp i hi)) _
theorem laws_toLabel.T {a0_0 : ByteArray} {a0_1 : ByteArray} (ga0_0 : a0_0.size ≤ lim) (ga0_1 : a0_1.size ≤ lim) : Tm Fuel (fun k => laws_toLabel.t k a0_0 a0_1) (fun z => z.1 = a0_0 ∧ z.2 = a0_1 ∧ True) := by
  unfold laws_toLabel.t laws_toLabel.g
  have hm := maxLen_eq
  have hlim : lim = 1048576 := rfl
  exact Tm.ret (by exact ⟨by first | rfl | assumption, by first | rfl | assumption, trivial⟩)
theorem laws_toLabelS.f_of {β : Type} {k : Nat} {a0 : List (List D)} {z0 : List (List C)} (h : laws_toLabelS.t k a0 = some z0) (K : (List (List C)) → Option β) : laws_toLabelS.f k a0 K = K z0 := by
  unfold laws_toLabelS.f
  rw [h]
theorem laws_toLabelS.tm {ι α : Type} {ok : ι → Prop} {ψ : α → Prop} {p : ι → Nat} (hp : ∀ i, ok i → big ≤ p i) {a0 : List (List D)} {φ : (List (List C)) → Prop} (h : Tm Fuel (fun k => laws_toLabelS.t k a0) φ) {G : ι → (List (List C)) → Option α} (hG : ∀ z0, φ z0 → Tm ok (fun i => G i z0) ψ) : Tm ok (fun i => laws_toLabelS.f (p i) a0 (G i)) ψ := by
  obtain ⟨z0, h1, h2⟩ := h
  exact (hG z0 h1).congr fun i hi => laws_toLabelS.f_of (h2 (p i) (hp i hi)) _
theorem laws_toLabelS.T {a0 : List (List D)} (ga0 : SlOk RSS lim a0) : Tm Fuel (fun k => laws_toLabelS.t k a0) (fun z => C.immRows z = a0 ∧ True) := by
  unfold laws_toLabelS.t laws_toLabelS.g
  have hm := maxLen_eq
  have hlim : lim = 1048576 := rfl
  have hlen := ga0.1
  refine Tm.guard (by first | omega | (simp only [lim, maxLen_eq, most] at *; omega) | (simp only [lim, most] at *; refine ⟨?_, ?_, ?_, ?_⟩ <;> omega)) ?_
  refine Tm.loop (okk := Fuel) (p := fun k => k) (fun i hi => hi) (b := fun k => laws_toLabelS.l0 k a0 (fun z0 => some z0)) (fun v => match v with | (i, u1) => (((a0.length : Int)) - i).toNat) (fun v => match v with | (i, u1) => 0 ≤ i ∧ i ≤ (a0.length : Int) ∧ Filled a0 ([.d (.str (⟨#[]⟩ : ByteArray)), .d (.str (⟨#[]⟩ : ByteArray))] : List C) i u1) ?_ ?_ ?_
  · rintro ⟨i, u1⟩ hI
    try simp only [] at hI ⊢
    have : big = 2 ^ 100 := rfl
    have := ga0.1
    simp only [lim] at this
    omega
  · exact ⟨by omega, by simp, Filled.start _ _⟩
  · rintro ⟨i, u1⟩ hI L hL
    try simp only [] at hI
    obtain ⟨i0, i1, hF⟩ := hI
    have hFl := hF.len i1
    simp only [laws_toLabelS.l0]
    refine Tm.ite (fun h1 => ?_) (fun h1 => ?_)
    · try simp only [decide_eq_true_eq, decide_eq_false_iff_not, Int.not_lt, Int.not_le, bne_iff_ne, ne_eq, bne_eq_false_iff_eq, Bool.not_eq_true', Bool.not_eq_false'] at h1
      refine Tm.atRow (by first | assumption | omega | (simp only [lim, maxLen_eq] at *; omega)) (by first | assumption | omega | (simp only [lim, maxLen_eq] at *; omega)) (fun x2 hx3 hm4 => ?_)
      obtain ⟨c5, c6, rfl, g7, g8, _⟩ := ga0.2 x2 hm4
      refine Tm.uncons ?_
      refine Tm.dStr ?_
      refine Tm.uncons ?_
      refine Tm.dStr ?_
      refine Tm.atEnd ?_
      refine laws_toLabel.tm (fun i hi => hi.1) (laws_toLabel.T (by first | assumption | omega | (simp only [lim, maxLen_eq] at *; omega)) (by first | assumption | omega | (simp only [lim, maxLen_eq] at *; omega))) (fun y10 y11 hy9 => ?_)
      try simp only [] at hy9
      obtain ⟨rfl, rfl, _⟩ := hy9
      refine Tm.guard (by first | omega | (simp only [lim, maxLen_eq, most] at *; omega) | (simp only [lim, most] at *; refine ⟨?_, ?_, ?_, ?_⟩ <;> omega)) ?_
      refine Tm.guard (by first | omega | (simp only [lim, maxLen_eq, most] at *; omega) | (simp only [lim, most] at *; refine ⟨?_, ?_, ?_, ?_⟩ <;> omega)) ?_
      try rw [wrap_i64 (x := i + 1) (by omega) (by omega)]
      refine hL (_, _) ⟨by omega, by omega, hF.next i0 hx3 rfl (by simp [C.immCells, C.imm])⟩ (by (try simp only []); omega)
    · try simp only [decide_eq_true_eq, decide_eq_false_iff_not, Int.not_lt, Int.not_le, bne_iff_ne, ne_eq, bne_eq_false_iff_eq, Bool.not_eq_true', Bool.not_eq_false'] at h1
      exact Tm.ret (by exact ⟨hF.all (by omega), trivial⟩)
theorem laws_toIsland.f_of {β : Type} {k : Nat} {a0_0 : ByteArray} {a0_1 : List (List D)} {a0_2 : List (List D)} {a0_3 : Int} {z0 : ByteArray} {z1 : List (List C)} {z2 : List (List C)} {z3 : Int} (h : laws_toIsland.t k a0_0 a0_1 a0_2 a0_3 = some (z0, z1, z2, z3)) (K : ByteArray → (List (List C)) → (List (List C)) → Int → Option β) : laws_toIsland.f k a0_0 a0_1 a0_2 a0_3 K = K z0 z1 z2 z3 := by
  unfold laws_toIsland.f
  rw [h]
theorem laws_toIsland.tm {ι α : Type} {ok : ι → Prop} {ψ : α → Prop} {p : ι → Nat} (hp : ∀ i, ok i → big ≤ p i) {a0_0 : ByteArray} {a0_1 : List (List D)} {a0_2 : List (List D)} {a0_3 : Int} {φ : ByteArray × (List (List C)) × (List (List C)) × Int → Prop} (h : Tm Fuel (fun k => laws_toIsland.t k a0_0 a0_1 a0_2 a0_3) φ) {G : ι → ByteArray → (List (List C)) → (List (List C)) → Int → Option α} (hG : ∀ z0 z1 z2 z3, φ (z0, z1, z2, z3) → Tm ok (fun i => G i z0 z1 z2 z3) ψ) : Tm ok (fun i => laws_toIsland.f (p i) a0_0 a0_1 a0_2 a0_3 (G i)) ψ := by
  obtain ⟨⟨z0, z1, z2, z3⟩, h1, h2⟩ := h
  exact (hG z0 z1 z2 z3 h1).congr fun i hi => laws_toIsland.f_of (h2 (p i) (hp i hi)) _
theorem laws_toIsland.T {a0_0 : ByteArray} {a0_1 : List (List D)} {a0_2 : List (List D)} {a0_3 : Int} (ga0_0 : a0_0.size ≤ lim) (ga0_1 : SlOk RSS lim a0_1) (ga0_2 : SlOk RS lim a0_2) : Tm Fuel (fun k => laws_toIsland.t k a0_0 a0_1 a0_2 a0_3) (fun z => z.1 = a0_0 ∧ C.immRows z.2.1 = a0_1 ∧ C.immRows z.2.2.1 = a0_2 ∧ z.2.2.2 = a0_3 ∧ True) := by
  unfold laws_toIsland.t laws_toIsland.g
  have hm := maxLen_eq
  have hlim : lim = 1048576 := rfl
  refine laws_toLabelS.tm (fun i hi => hi) (laws_toLabelS.T (by first | assumption | omega | (simp only [lim, maxLen_eq] at *; omega))) (fun y2 hy1 => ?_)
  try simp only [] at hy1
  obtain ⟨e3, _⟩ := hy1
  try simp only [e3]
  refine laws_toStringS.tm (fun i hi => hi) (laws_toStringS.T (by first | assumption | omega | (simp only [lim, maxLen_eq] at *; omega))) (fun y5 hy4 => ?_)
  try simp only [] at hy4
  obtain ⟨e6, _⟩ := hy4
  try simp only [e6]
  exact Tm.ret (by exact ⟨by first | rfl | assumption, by first | rfl | assumption, by first | rfl | assumption, by first | rfl | assumption, trivial⟩)
theorem spec_l1In.f_of {β : Type} {k : Nat} {a0 : Int} {a1 : Int} {a2 : Int} {z0 : Bool} (h : spec_l1In.t k a0 a1 a2 = some z0) (K : Bool → Option β) : spec_l1In.f k a0 a1 a2 K = K z0 := by
  unfold spec_l1In.f
  rw [h]
theorem spec_l1In.tm {ι α : Type} {ok : ι → Prop} {ψ : α → Prop} {p : ι → Nat} (hp : ∀ i, ok i → big ≤ p i) {a0 : Int} {a1 : Int} {a2 : Int} {φ : Bool → Prop} (h : Tm Fuel (fun k => spec_l1In.t k a0 a1 a2) φ) {G : ι → Bool → Option α} (hG : ∀ z0, φ z0 → Tm ok (fun i => G i z0) ψ) : Tm ok (fun i => spec_l1In.f (p i) a0 a1 a2 (G i)) ψ := by
  obtain ⟨z0, h1, h2⟩ := h
  exact (hG z0 h1).congr fun i hi => spec_l1In.f_of (h2 (p i) (hp i hi)) _
theorem spec_l1In.T {a0 : Int} {a1 : Int} {a2 : Int} : Tm Fuel (fun k => spec_l1In.t k a0 a1 a2) (fun r => r = true → a1 ≤ a0 ∧ a0 ≤ a2) := by
  unfold spec_l1In.t spec_l1In.g
  have hm := maxLen_eq
  have hlim : lim = 1048576 := rfl
  refine Tm.ite (fun h1 => ?_) (fun h1 => ?_)
  · try simp only [decide_eq_true_eq, decide_eq_false_iff_not, Int.not_lt, Int.not_le, bne_iff_ne, ne_eq, bne_eq_false_iff_eq, Bool.not_eq_true', Bool.not_eq_false'] at h1
    exact Tm.ret (by first | (intro h; simp at h; omega) | (intro h; cases h))
  · try simp only [decide_eq_true_eq, decide_eq_false_iff_not, Int.not_lt, Int.not_le, bne_iff_ne, ne_eq, bne_eq_false_iff_eq, Bool.not_eq_true', Bool.not_eq_false'] at h1
    exact Tm.ret (by first | (intro h; simp at h; omega) | (intro h; cases h))
noncomputable def spec_l1In.v (a0 : Int) (a1 : Int) (a2 : Int) : Bool := (spec_l1In.t big a0 a1 a2).getD default
theorem spec_l1In.tv {a0 : Int} {a1 : Int} {a2 : Int} {k : Nat} (hk : Fuel k) : spec_l1In.t k a0 a1 a2 = some (spec_l1In.v a0 a1 a2) := (spec_l1In.T).val hk
theorem spec_l1In.fv {a0 : Int} {a1 : Int} {a2 : Int} {k : Nat} (hk : Fuel k) {β : Type} (K : Bool → Option β) : spec_l1In.f k a0 a1 a2 K = K (spec_l1In.v a0 a1 a2) := spec_l1In.f_of (spec_l1In.tv hk) K
theorem spec_NameOk.f_of {β : Type} {k : Nat} {a0 : ByteArray} {z0 : Bool} (h : spec_NameOk.t k a0 = some z0) (K : Bool → Option β) : spec_NameOk.f k a0 K = K z0 := by
  unfold spec_NameOk.f
  rw [h]
theorem spec_NameOk.tm {ι α : Type} {ok : ι → Prop} {ψ : α → Prop} {p : ι → Nat} (hp : ∀ i, ok i → big ≤ p i) {a0 : ByteArray} {φ : Bool → Prop} (h : Tm Fuel (fun k => spec_NameOk.t k a0) φ) {G : ι → Bool → Option α} (hG : ∀ z0, φ z0 → Tm ok (fun i => G i z0) ψ) : Tm ok (fun i => spec_NameOk.f (p i) a0 (G i)) ψ := by
  obtain ⟨z0, h1, h2⟩ := h
  exact (hG z0 h1).congr fun i hi => spec_NameOk.f_of (h2 (p i) (hp i hi)) _
theorem spec_NameOk.T {a0 : ByteArray} (ga0 : a0.size ≤ lim) : Tm Fuel (fun k => spec_NameOk.t k a0) (fun _ => True) := by
  unfold spec_NameOk.t spec_NameOk.g
  have hm := maxLen_eq
  have hlim : lim = 1048576 := rfl
  refine Tm.loop (okk := Fuel) (p := fun k => k) (fun i hi => hi) (b := fun k => spec_NameOk.l0 k a0 (fun z0 => some z0)) (fun i => (((a0.size : Int)) - i).toNat) (fun i => 0 ≤ i ∧ i ≤ (a0.size : Int)) ?_ ?_ ?_
  · rintro i hI
    try simp only [] at hI ⊢
    have : big = 2 ^ 100 := rfl
    omega
  · ((try simp only []); omega)
  · rintro i hI L hL
    try simp only [] at hI
    obtain ⟨i0, i1⟩ := hI
    simp only [spec_NameOk.l0]
    refine Tm.ite (fun h1 => ?_) (fun h1 => ?_)
    · try simp only [decide_eq_true_eq, decide_eq_false_iff_not, Int.not_lt, Int.not_le, bne_iff_ne, ne_eq, bne_eq_false_iff_eq, Bool.not_eq_true', Bool.not_eq_false'] at h1
      refine Tm.atStr (by first | assumption | omega | (simp only [lim, maxLen_eq] at *; omega)) (by first | assumption | omega | (simp only [lim, maxLen_eq] at *; omega)) (fun b2 hb3 => ?_)
      try rw [wrap_i64 (x := (b2.toNat : Int)) (by omega) (by omega)]
      refine spec_l1In.tm (fun i hi => hi.1) (spec_l1In.T) (fun y5 hy4 => ?_)
      refine Tm.ite (fun h6 => ?_) (fun h6 => ?_)
      · try simp only [decide_eq_true_eq, decide_eq_false_iff_not, Int.not_lt, Int.not_le, bne_iff_ne, ne_eq, bne_eq_false_iff_eq, Bool.not_eq_true', Bool.not_eq_false'] at h6
        refine Tm.atStr (by first | assumption | omega | (simp only [lim, maxLen_eq] at *; omega)) (by first | assumption | omega | (simp only [lim, maxLen_eq] at *; omega)) (fun b7 hb8 => ?_)
        try rw [wrap_i64 (x := (b7.toNat : Int)) (by omega) (by omega)]
        refine spec_l1In.tm (fun i hi => hi.1) (spec_l1In.T) (fun y10 hy9 => ?_)
        refine Tm.ite (fun h11 => ?_) (fun h11 => ?_)
        · try simp only [decide_eq_true_eq, decide_eq_false_iff_not, Int.not_lt, Int.not_le, bne_iff_ne, ne_eq, bne_eq_false_iff_eq, Bool.not_eq_true', Bool.not_eq_false'] at h11
          refine Tm.atStr (by first | assumption | omega | (simp only [lim, maxLen_eq] at *; omega)) (by first | assumption | omega | (simp only [lim, maxLen_eq] at *; omega)) (fun b12 hb13 => ?_)
          refine Tm.ite (fun h14 => ?_) (fun h14 => ?_)
          · try simp only [decide_eq_true_eq, decide_eq_false_iff_not, Int.not_lt, Int.not_le, bne_iff_ne, ne_eq, bne_eq_false_iff_eq, Bool.not_eq_true', Bool.not_eq_false'] at h14
            exact Tm.ret (by trivial)
          · try simp only [decide_eq_true_eq, decide_eq_false_iff_not, Int.not_lt, Int.not_le, bne_iff_ne, ne_eq, bne_eq_false_iff_eq, Bool.not_eq_true', Bool.not_eq_false'] at h14
            try rw [wrap_i64 (x := i + 1) (by omega) (by omega)]
            exact hL ((i + 1)) (by (try simp only []); omega) (by (try simp only []); omega)
        · try simp only [decide_eq_true_eq, decide_eq_false_iff_not, Int.not_lt, Int.not_le, bne_iff_ne, ne_eq, bne_eq_false_iff_eq, Bool.not_eq_true', Bool.not_eq_false'] at h11
          have z15 := hy9 h11
          try rw [wrap_i64 (x := i + 1) (by omega) (by omega)]
          exact hL ((i + 1)) (by (try simp only []); omega) (by (try simp only []); omega)
      · try simp only [decide_eq_true_eq, decide_eq_false_iff_not, Int.not_lt, Int.not_le, bne_iff_ne, ne_eq, bne_eq_false_iff_eq, Bool.not_eq_true', Bool.not_eq_false'] at h6
        have z16 := hy4 h6
        try rw [wrap_i64 (x := i + 1) (by omega) (by omega)]
        exact hL ((i + 1)) (by (try simp only []); omega) (by (try simp only []); omega)
    · try simp only [decide_eq_true_eq, decide_eq_false_iff_not, Int.not_lt, Int.not_le, bne_iff_ne, ne_eq, bne_eq_false_iff_eq, Bool.not_eq_true', Bool.not_eq_false'] at h1
      refine spec_l1In.tm (fun i hi => hi.1) (spec_l1In.T) (fun y18 hy17 => ?_)
      refine Tm.ite (fun h19 => ?_) (fun h19 => ?_)
      · try simp only [decide_eq_true_eq, decide_eq_false_iff_not, Int.not_lt, Int.not_le, bne_iff_ne, ne_eq, bne_eq_false_iff_eq, Bool.not_eq_true', Bool.not_eq_false'] at h19
        have z20 := hy17 h19
        refine Tm.atStr (by first | assumption | omega | (simp only [lim, maxLen_eq] at *; omega)) (by first | assumption | omega | (simp only [lim, maxLen_eq] at *; omega)) (fun b21 hb22 => ?_)
        refine Tm.ite (fun h23 => ?_) (fun h23 => ?_)
        · try simp only [decide_eq_true_eq, decide_eq_false_iff_not, Int.not_lt, Int.not_le, bne_iff_ne, ne_eq, bne_eq_false_iff_eq, Bool.not_eq_true', Bool.not_eq_false'] at h23
          try rw [wrap_i64 (x := (a0.size : Int) - 1) (by omega) (by omega)]
          refine Tm.atStr (by first | assumption | omega | (simp only [lim, maxLen_eq] at *; omega)) (by first | assumption | omega | (simp only [lim, maxLen_eq] at *; omega)) (fun b24 hb25 => ?_)
          exact Tm.ret (by trivial)
        · try simp only [decide_eq_true_eq, decide_eq_false_iff_not, Int.not_lt, Int.not_le, bne_iff_ne, ne_eq, bne_eq_false_iff_eq, Bool.not_eq_true', Bool.not_eq_false'] at h23
          exact Tm.ret (by trivial)
      · try simp only [decide_eq_true_eq, decide_eq_false_iff_not, Int.not_lt, Int.not_le, bne_iff_ne, ne_eq, bne_eq_false_iff_eq, Bool.not_eq_true', Bool.not_eq_false'] at h19
        exact Tm.ret (by trivial)
noncomputable def spec_NameOk.v (a0 : ByteArray) : Bool := (spec_NameOk.t big a0).getD default
theorem spec_NameOk.tv {a0 : ByteArray} (ga0 : a0.size ≤ lim) {k : Nat} (hk : Fuel k) : spec_NameOk.t k a0 = some (spec_NameOk.v a0) := (spec_NameOk.T ga0).val hk
theorem spec_NameOk.fv {a0 : ByteArray} (ga0 : a0.size ≤ lim) {k : Nat} (hk : Fuel k) {β : Type} (K : Bool → Option β) : spec_NameOk.f k a0 K = K (spec_NameOk.v a0) := spec_NameOk.f_of (spec_NameOk.tv ga0 hk) K
theorem spec_l2Term.f_of {β : Type} {k : Nat} {a0_0 : Int} {a0_1 : ByteArray} {a0_2 : List (List D)} {z0 : Bool} (h : spec_l2Term.t k a0_0 a0_1 a0_2 = some z0) (K : Bool → Option β) : spec_l2Term.f k a0_0 a0_1 a0_2 K = K z0 := by
  unfold spec_l2Term.f
  rw [h]
theorem spec_l2Term.tm {ι α : Type} {ok : ι → Prop} {ψ : α → Prop} {p : ι → Nat} (hp : ∀ i, ok i → big ≤ p i) {a0_0 : Int} {a0_1 : ByteArray} {a0_2 : List (List D)} {φ : Bool → Prop} (h : Tm Fuel (fun k => spec_l2Term.t k a0_0 a0_1 a0_2) φ) {G : ι → Bool → Option α} (hG : ∀ z0, φ z0 → Tm ok (fun i => G i z0) ψ) : Tm ok (fun i => spec_l2Term.f (p i) a0_0 a0_1 a0_2 (G i)) ψ := by
  obtain ⟨z0, h1, h2⟩ := h
  exact (hG z0 h1).congr fun i hi => spec_l2Term.f_of (h2 (p i) (hp i hi)) _
theorem spec_l2Term.T {a0_0 : Int} {a0_1 : ByteArray} {a0_2 : List (List D)} (ga0_1 : a0_1.size ≤ lim) (ga0_2 : SlOk RS lim a0_2) : Tm Fuel (fun k => spec_l2Term.t k a0_0 a0_1 a0_2) (fun _ => True) := by
  unfold spec_l2Term.t spec_l2Term.g
  have hm := maxLen_eq
  have hlim : lim = 1048576 := rfl
  have la0_2 := ga0_2.1
  refine Tm.loop (okk := Fuel) (p := fun k => k) (fun i hi => hi) (b := fun k => spec_l2Term.l0 k (a0_2.length : Int) a0_0 a0_1 a0_2 (fun z0 => some z0)) (fun i => (((a0_2.length : Int)) - i).toNat) (fun i => 0 ≤ i ∧ i ≤ (a0_2.length : Int)) ?_ ?_ ?_
  · rintro i hI
    try simp only [] at hI ⊢
    have : big = 2 ^ 100 := rfl
    omega
  · ((try simp only []); omega)
  · rintro i hI L hL
    try simp only [] at hI
    obtain ⟨i0, i1⟩ := hI
    simp only [spec_l2Term.l0]
    refine Tm.ite (fun h1 => ?_) (fun h1 => ?_)
    · try simp only [decide_eq_true_eq, decide_eq_false_iff_not, Int.not_lt, Int.not_le, bne_iff_ne, ne_eq, bne_eq_false_iff_eq, Bool.not_eq_true', Bool.not_eq_false'] at h1
      refine Tm.atRow (by first | assumption | omega | (simp only [lim, maxLen_eq] at *; omega)) (by first | assumption | omega | (simp only [lim, maxLen_eq] at *; omega)) (fun x2 hx3 hm4 => ?_)
      obtain ⟨c5, rfl, g6, _⟩ := ga0_2.2 x2 hm4
      refine Tm.uncons ?_
      refine Tm.dStr ?_
      refine Tm.atEnd ?_
      refine spec_NameOk.tm (fun i hi => hi.1) (spec_NameOk.T (by first | assumption | omega | (simp only [lim, maxLen_eq] at *; omega))) (fun y8 hy7 => ?_)
      refine Tm.ite (fun h9 => ?_) (fun h9 => ?_)
      · try simp only [decide_eq_true_eq, decide_eq_false_iff_not, Int.not_lt, Int.not_le, bne_iff_ne, ne_eq, bne_eq_false_iff_eq, Bool.not_eq_true', Bool.not_eq_false'] at h9
        exact Tm.ret (by trivial)
      · try simp only [decide_eq_true_eq, decide_eq_false_iff_not, Int.not_lt, Int.not_le, bne_iff_ne, ne_eq, bne_eq_false_iff_eq, Bool.not_eq_true', Bool.not_eq_false'] at h9
        refine Tm.ite (fun h10 => ?_) (fun h10 => ?_)
        · try simp only [decide_eq_true_eq, decide_eq_false_iff_not, Int.not_lt, Int.not_le, bne_iff_ne, ne_eq, bne_eq_false_iff_eq, Bool.not_eq_true', Bool.not_eq_false'] at h10
          try rw [wrap_i64 (x := i - 1) (by omega) (by omega)]
          refine Tm.atRow (by first | assumption | omega | (simp only [lim, maxLen_eq] at *; omega)) (by first | assumption | omega | (simp only [lim, maxLen_eq] at *; omega)) (fun x11 hx12 hm13 => ?_)
          obtain ⟨c14, rfl, g15, _⟩ := ga0_2.2 x11 hm13
          refine Tm.uncons ?_
          refine Tm.dStr ?_
          refine Tm.atEnd ?_
          refine Tm.atRow (by first | assumption | omega | (simp only [lim, maxLen_eq] at *; omega)) (by first | assumption | omega | (simp only [lim, maxLen_eq] at *; omega)) (fun x16 hx17 hm18 => ?_)
          rw [hx3] at hx17
          injection hx17 with hx17
          subst hx17
          refine Tm.uncons ?_
          refine Tm.dStr ?_
          refine Tm.atEnd ?_
          refine Tm.ite (fun h20 => ?_) (fun h20 => ?_)
          · try simp only [decide_eq_true_eq, decide_eq_false_iff_not, Int.not_lt, Int.not_le, bne_iff_ne, ne_eq, bne_eq_false_iff_eq, Bool.not_eq_true', Bool.not_eq_false'] at h20
            exact Tm.ret (by trivial)
          · try simp only [decide_eq_true_eq, decide_eq_false_iff_not, Int.not_lt, Int.not_le, bne_iff_ne, ne_eq, bne_eq_false_iff_eq, Bool.not_eq_true', Bool.not_eq_false'] at h20
            try rw [wrap_i64 (x := i + 1) (by omega) (by omega)]
            exact hL ((i + 1)) (by (try simp only []); omega) (by (try simp only []); omega)
        · try simp only [decide_eq_true_eq, decide_eq_false_iff_not, Int.not_lt, Int.not_le, bne_iff_ne, ne_eq, bne_eq_false_iff_eq, Bool.not_eq_true', Bool.not_eq_false'] at h10
          try rw [wrap_i64 (x := i + 1) (by omega) (by omega)]
          exact hL ((i + 1)) (by (try simp only []); omega) (by (try simp only []); omega)
    · try simp only [decide_eq_true_eq, decide_eq_false_iff_not, Int.not_lt, Int.not_le, bne_iff_ne, ne_eq, bne_eq_false_iff_eq, Bool.not_eq_true', Bool.not_eq_false'] at h1
      refine spec_NameOk.tm (fun i hi => hi.1) (spec_NameOk.T (by first | assumption | omega | (simp only [lim, maxLen_eq] at *; omega))) (fun y22 hy21 => ?_)
      refine Tm.ite (fun h23 => ?_) (fun h23 => ?_)
      · try simp only [decide_eq_true_eq, decide_eq_false_iff_not, Int.not_lt, Int.not_le, bne_iff_ne, ne_eq, bne_eq_false_iff_eq, Bool.not_eq_true', Bool.not_eq_false'] at h23
        exact Tm.ret (by trivial)
      · try simp only [decide_eq_true_eq, decide_eq_false_iff_not, Int.not_lt, Int.not_le, bne_iff_ne, ne_eq, bne_eq_false_iff_eq, Bool.not_eq_true', Bool.not_eq_false'] at h23
        refine Tm.ite (fun h24 => ?_) (fun h24 => ?_)
        · try simp only [decide_eq_true_eq, decide_eq_false_iff_not, Int.not_lt, Int.not_le, bne_iff_ne, ne_eq, bne_eq_false_iff_eq, Bool.not_eq_true', Bool.not_eq_false'] at h24
          refine Tm.ite (fun h25 => ?_) (fun h25 => ?_)
          · try simp only [decide_eq_true_eq, decide_eq_false_iff_not, Int.not_lt, Int.not_le, bne_iff_ne, ne_eq, bne_eq_false_iff_eq, Bool.not_eq_true', Bool.not_eq_false'] at h25
            exact Tm.ret (by trivial)
          · try simp only [decide_eq_true_eq, decide_eq_false_iff_not, Int.not_lt, Int.not_le, bne_iff_ne, ne_eq, bne_eq_false_iff_eq, Bool.not_eq_true', Bool.not_eq_false'] at h25
            refine Tm.ite (fun h26 => ?_) (fun h26 => ?_)
            · try simp only [decide_eq_true_eq, decide_eq_false_iff_not, Int.not_lt, Int.not_le, bne_iff_ne, ne_eq, bne_eq_false_iff_eq, Bool.not_eq_true', Bool.not_eq_false'] at h26
              refine spec_l1In.tm (fun i hi => hi.1) (spec_l1In.T) (fun y28 hy27 => ?_)
              exact Tm.ret (by trivial)
            · try simp only [decide_eq_true_eq, decide_eq_false_iff_not, Int.not_lt, Int.not_le, bne_iff_ne, ne_eq, bne_eq_false_iff_eq, Bool.not_eq_true', Bool.not_eq_false'] at h26
              refine Tm.ite (fun h29 => ?_) (fun h29 => ?_)
              · try simp only [decide_eq_true_eq, decide_eq_false_iff_not, Int.not_lt, Int.not_le, bne_iff_ne, ne_eq, bne_eq_false_iff_eq, Bool.not_eq_true', Bool.not_eq_false'] at h29
                refine Tm.ite (fun h30 => ?_) (fun h30 => ?_)
                · try simp only [decide_eq_true_eq, decide_eq_false_iff_not, Int.not_lt, Int.not_le, bne_iff_ne, ne_eq, bne_eq_false_iff_eq, Bool.not_eq_true', Bool.not_eq_false'] at h30
                  exact Tm.ret (by trivial)
                · try simp only [decide_eq_true_eq, decide_eq_false_iff_not, Int.not_lt, Int.not_le, bne_iff_ne, ne_eq, bne_eq_false_iff_eq, Bool.not_eq_true', Bool.not_eq_false'] at h30
                  exact Tm.ret (by trivial)
              · try simp only [decide_eq_true_eq, decide_eq_false_iff_not, Int.not_lt, Int.not_le, bne_iff_ne, ne_eq, bne_eq_false_iff_eq, Bool.not_eq_true', Bool.not_eq_false'] at h29
                refine Tm.ite (fun h31 => ?_) (fun h31 => ?_)
                · try simp only [decide_eq_true_eq, decide_eq_false_iff_not, Int.not_lt, Int.not_le, bne_iff_ne, ne_eq, bne_eq_false_iff_eq, Bool.not_eq_true', Bool.not_eq_false'] at h31
                  exact Tm.ret (by trivial)
                · try simp only [decide_eq_true_eq, decide_eq_false_iff_not, Int.not_lt, Int.not_le, bne_iff_ne, ne_eq, bne_eq_false_iff_eq, Bool.not_eq_true', Bool.not_eq_false'] at h31
                  exact Tm.ret (by trivial)
        · try simp only [decide_eq_true_eq, decide_eq_false_iff_not, Int.not_lt, Int.not_le, bne_iff_ne, ne_eq, bne_eq_false_iff_eq, Bool.not_eq_true', Bool.not_eq_false'] at h24
          refine Tm.ite (fun h32 => ?_) (fun h32 => ?_)
          · try simp only [decide_eq_true_eq, decide_eq_false_iff_not, Int.not_lt, Int.not_le, bne_iff_ne, ne_eq, bne_eq_false_iff_eq, Bool.not_eq_true', Bool.not_eq_false'] at h32
            exact Tm.ret (by trivial)
          · try simp only [decide_eq_true_eq, decide_eq_false_iff_not, Int.not_lt, Int.not_le, bne_iff_ne, ne_eq, bne_eq_false_iff_eq, Bool.not_eq_true', Bool.not_eq_false'] at h32
            refine Tm.ite (fun h33 => ?_) (fun h33 => ?_)
            · try simp only [decide_eq_true_eq, decide_eq_false_iff_not, Int.not_lt, Int.not_le, bne_iff_ne, ne_eq, bne_eq_false_iff_eq, Bool.not_eq_true', Bool.not_eq_false'] at h33
              refine spec_l1In.tm (fun i hi => hi.1) (spec_l1In.T) (fun y35 hy34 => ?_)
              exact Tm.ret (by trivial)
            · try simp only [decide_eq_true_eq, decide_eq_false_iff_not, Int.not_lt, Int.not_le, bne_iff_ne, ne_eq, bne_eq_false_iff_eq, Bool.not_eq_true', Bool.not_eq_false'] at h33
              refine Tm.ite (fun h36 => ?_) (fun h36 => ?_)
              · try simp only [decide_eq_true_eq, decide_eq_false_iff_not, Int.not_lt, Int.not_le, bne_iff_ne, ne_eq, bne_eq_false_iff_eq, Bool.not_eq_true', Bool.not_eq_false'] at h36
                refine Tm.ite (fun h37 => ?_) (fun h37 => ?_)
                · try simp only [decide_eq_true_eq, decide_eq_false_iff_not, Int.not_lt, Int.not_le, bne_iff_ne, ne_eq, bne_eq_false_iff_eq, Bool.not_eq_true', Bool.not_eq_false'] at h37
                  exact Tm.ret (by trivial)
                · try simp only [decide_eq_true_eq, decide_eq_false_iff_not, Int.not_lt, Int.not_le, bne_iff_ne, ne_eq, bne_eq_false_iff_eq, Bool.not_eq_true', Bool.not_eq_false'] at h37
                  exact Tm.ret (by trivial)
              · try simp only [decide_eq_true_eq, decide_eq_false_iff_not, Int.not_lt, Int.not_le, bne_iff_ne, ne_eq, bne_eq_false_iff_eq, Bool.not_eq_true', Bool.not_eq_false'] at h36
                refine Tm.ite (fun h38 => ?_) (fun h38 => ?_)
                · try simp only [decide_eq_true_eq, decide_eq_false_iff_not, Int.not_lt, Int.not_le, bne_iff_ne, ne_eq, bne_eq_false_iff_eq, Bool.not_eq_true', Bool.not_eq_false'] at h38
                  exact Tm.ret (by trivial)
                · try simp only [decide_eq_true_eq, decide_eq_false_iff_not, Int.not_lt, Int.not_le, bne_iff_ne, ne_eq, bne_eq_false_iff_eq, Bool.not_eq_true', Bool.not_eq_false'] at h38
                  exact Tm.ret (by trivial)
noncomputable def spec_l2Term.v (a0_0 : Int) (a0_1 : ByteArray) (a0_2 : List (List D)) : Bool := (spec_l2Term.t big a0_0 a0_1 a0_2).getD default
theorem spec_l2Term.tv {a0_0 : Int} {a0_1 : ByteArray} {a0_2 : List (List D)} (ga0_1 : a0_1.size ≤ lim) (ga0_2 : SlOk RS lim a0_2) {k : Nat} (hk : Fuel k) : spec_l2Term.t k a0_0 a0_1 a0_2 = some (spec_l2Term.v a0_0 a0_1 a0_2) := (spec_l2Term.T ga0_1 ga0_2).val hk
theorem spec_l2Term.fv {a0_0 : Int} {a0_1 : ByteArray} {a0_2 : List (List D)} (ga0_1 : a0_1.size ≤ lim) (ga0_2 : SlOk RS lim a0_2) {k : Nat} (hk : Fuel k) {β : Type} (K : Bool → Option β) : spec_l2Term.f k a0_0 a0_1 a0_2 K = K (spec_l2Term.v a0_0 a0_1 a0_2) := spec_l2Term.f_of (spec_l2Term.tv ga0_1 ga0_2 hk) K
theorem spec_SelectorOk.f_of {β : Type} {k : Nat} {a0 : List (List D)} {z0 : Bool} (h : spec_SelectorOk.t k a0 = some z0) (K : Bool → Option β) : spec_SelectorOk.f k a0 K = K z0 := by
  unfold spec_SelectorOk.f
  rw [h]
theorem spec_SelectorOk.tm {ι α : Type} {ok : ι → Prop} {ψ : α → Prop} {p : ι → Nat} (hp : ∀ i, ok i → big ≤ p i) {a0 : List (List D)} {φ : Bool → Prop} (h : Tm Fuel (fun k => spec_SelectorOk.t k a0) φ) {G : ι → Bool → Option α} (hG : ∀ z0, φ z0 → Tm ok (fun i => G i z0) ψ) : Tm ok (fun i => spec_SelectorOk.f (p i) a0 (G i)) ψ := by
  obtain ⟨z0, h1, h2⟩ := h
  exact (hG z0 h1).congr fun i hi => spec_SelectorOk.f_of (h2 (p i) (hp i hi)) _
theorem spec_SelectorOk.T {a0 : List (List D)} (ga0 : SlOk RISLSE lim a0) : Tm Fuel (fun k => spec_SelectorOk.t k a0) (fun _ => True) := by
  unfold spec_SelectorOk.t spec_SelectorOk.g
  have hm := maxLen_eq
  have hlim : lim = 1048576 := rfl
  have la0 := ga0.1
  refine Tm.loop (okk := Fuel) (p := fun k => k) (fun i hi => hi) (b := fun k => spec_SelectorOk.l0 k a0 (fun z0 => some z0)) (fun i => (((a0.length : Int)) - i).toNat) (fun i => 0 ≤ i ∧ i ≤ (a0.length : Int)) ?_ ?_ ?_
  · rintro i hI
    try simp only [] at hI ⊢
    have : big = 2 ^ 100 := rfl
    omega
  · ((try simp only []); omega)
  · rintro i hI L hL
    try simp only [] at hI
    obtain ⟨i0, i1⟩ := hI
    simp only [spec_SelectorOk.l0]
    refine Tm.ite (fun h1 => ?_) (fun h1 => ?_)
    · try simp only [decide_eq_true_eq, decide_eq_false_iff_not, Int.not_lt, Int.not_le, bne_iff_ne, ne_eq, bne_eq_false_iff_eq, Bool.not_eq_true', Bool.not_eq_false'] at h1
      refine Tm.atRow (by first | assumption | omega | (simp only [lim, maxLen_eq] at *; omega)) (by first | assumption | omega | (simp only [lim, maxLen_eq] at *; omega)) (fun x2 hx3 hm4 => ?_)
      obtain ⟨c5, c6, c7, rfl, g8, g9, g10, _⟩ := ga0.2 x2 hm4
      refine Tm.uncons ?_
      refine Tm.dInt ?_
      refine Tm.uncons ?_
      refine Tm.dStr ?_
      refine Tm.uncons ?_
      refine Tm.dSl ?_
      refine Tm.atEnd ?_
      refine spec_l2Term.tm (fun i hi => hi.1) (spec_l2Term.T (by first | assumption | omega | (simp only [lim, maxLen_eq] at *; omega)) (by first | assumption | omega | (simp only [lim, maxLen_eq] at *; omega))) (fun y12 hy11 => ?_)
      refine Tm.ite (fun h13 => ?_) (fun h13 => ?_)
      · try simp only [decide_eq_true_eq, decide_eq_false_iff_not, Int.not_lt, Int.not_le, bne_iff_ne, ne_eq, bne_eq_false_iff_eq, Bool.not_eq_true', Bool.not_eq_false'] at h13
        exact Tm.ret (by trivial)
      · try simp only [decide_eq_true_eq, decide_eq_false_iff_not, Int.not_lt, Int.not_le, bne_iff_ne, ne_eq, bne_eq_false_iff_eq, Bool.not_eq_true', Bool.not_eq_false'] at h13
        try rw [wrap_i64 (x := i + 1) (by omega) (by omega)]
        exact hL ((i + 1)) (by (try simp only []); omega) (by (try simp only []); omega)
    · try simp only [decide_eq_true_eq, decide_eq_false_iff_not, Int.not_lt, Int.not_le, bne_iff_ne, ne_eq, bne_eq_false_iff_eq, Bool.not_eq_true', Bool.not_eq_false'] at h1
      exact Tm.ret (by trivial)
noncomputable def spec_SelectorOk.v (a0 : List (List D)) : Bool := (spec_SelectorOk.t big a0).getD default
theorem spec_SelectorOk.tv {a0 : List (List D)} (ga0 : SlOk RISLSE lim a0) {k : Nat} (hk : Fuel k) : spec_SelectorOk.t k a0 = some (spec_SelectorOk.v a0) := (spec_SelectorOk.T ga0).val hk
theorem spec_SelectorOk.fv {a0 : List (List D)} (ga0 : SlOk RISLSE lim a0) {k : Nat} (hk : Fuel k) {β : Type} (K : Bool → Option β) : spec_SelectorOk.f k a0 K = K (spec_SelectorOk.v a0) := spec_SelectorOk.f_of (spec_SelectorOk.tv ga0 hk) K
theorem spec_l10Names.f_of {β : Type} {k : Nat} {a0 : List (List D)} {a1 : Int} {z0 : Bool} (h : spec_l10Names.t k a0 a1 = some z0) (K : Bool → Option β) : spec_l10Names.f k a0 a1 K = K z0 := by
  unfold spec_l10Names.f
  rw [h]
theorem spec_l10Names.tm {ι α : Type} {ok : ι → Prop} {ψ : α → Prop} {p : ι → Nat} (hp : ∀ i, ok i → big ≤ p i) {a0 : List (List D)} {a1 : Int} {φ : Bool → Prop} (h : Tm Fuel (fun k => spec_l10Names.t k a0 a1) φ) {G : ι → Bool → Option α} (hG : ∀ z0, φ z0 → Tm ok (fun i => G i z0) ψ) : Tm ok (fun i => spec_l10Names.f (p i) a0 a1 (G i)) ψ := by
  obtain ⟨z0, h1, h2⟩ := h
  exact (hG z0 h1).congr fun i hi => spec_l10Names.f_of (h2 (p i) (hp i hi)) _
theorem spec_l10Names.T {a0 : List (List D)} {a1 : Int} (ga0 : SlOk RS lim a0) : Tm Fuel (fun k => spec_l10Names.t k a0 a1) (fun _ => True) := by
  unfold spec_l10Names.t spec_l10Names.g
  have hm := maxLen_eq
  have hlim : lim = 1048576 := rfl
  have la0 := ga0.1
  refine Tm.loop (okk := Fuel) (p := fun k => k) (fun i hi => hi) (b := fun k => spec_l10Names.l0 k a0 a1 (fun z0 => some z0)) (fun i => (((a0.length : Int)) - i).toNat) (fun i => 0 ≤ i ∧ i ≤ (a0.length : Int)) ?_ ?_ ?_
  · rintro i hI
    try simp only [] at hI ⊢
    have : big = 2 ^ 100 := rfl
    omega
  · ((try simp only []); omega)
  · rintro i hI L hL
    try simp only [] at hI
    obtain ⟨i0, i1⟩ := hI
    simp only [spec_l10Names.l0]
    refine Tm.ite (fun h1 => ?_) (fun h1 => ?_)
    · try simp only [decide_eq_true_eq, decide_eq_false_iff_not, Int.not_lt, Int.not_le, bne_iff_ne, ne_eq, bne_eq_false_iff_eq, Bool.not_eq_true', Bool.not_eq_false'] at h1
      refine Tm.atRow (by first | assumption | omega | (simp only [lim, maxLen_eq] at *; omega)) (by first | assumption | omega | (simp only [lim, maxLen_eq] at *; omega)) (fun x2 hx3 hm4 => ?_)
      obtain ⟨c5, rfl, g6, _⟩ := ga0.2 x2 hm4
      refine Tm.uncons ?_
      refine Tm.dStr ?_
      refine Tm.atEnd ?_
      refine spec_NameOk.tm (fun i hi => hi.1) (spec_NameOk.T (by first | assumption | omega | (simp only [lim, maxLen_eq] at *; omega))) (fun y8 hy7 => ?_)
      refine Tm.ite (fun h9 => ?_) (fun h9 => ?_)
      · try simp only [decide_eq_true_eq, decide_eq_false_iff_not, Int.not_lt, Int.not_le, bne_iff_ne, ne_eq, bne_eq_false_iff_eq, Bool.not_eq_true', Bool.not_eq_false'] at h9
        exact Tm.ret (by trivial)
      · try simp only [decide_eq_true_eq, decide_eq_false_iff_not, Int.not_lt, Int.not_le, bne_iff_ne, ne_eq, bne_eq_false_iff_eq, Bool.not_eq_true', Bool.not_eq_false'] at h9
        refine Tm.ite (fun h10 => ?_) (fun h10 => ?_)
        · try simp only [decide_eq_true_eq, decide_eq_false_iff_not, Int.not_lt, Int.not_le, bne_iff_ne, ne_eq, bne_eq_false_iff_eq, Bool.not_eq_true', Bool.not_eq_false'] at h10
          try rw [wrap_i64 (x := i - 1) (by omega) (by omega)]
          refine Tm.atRow (by first | assumption | omega | (simp only [lim, maxLen_eq] at *; omega)) (by first | assumption | omega | (simp only [lim, maxLen_eq] at *; omega)) (fun x11 hx12 hm13 => ?_)
          obtain ⟨c14, rfl, g15, _⟩ := ga0.2 x11 hm13
          refine Tm.uncons ?_
          refine Tm.dStr ?_
          refine Tm.atEnd ?_
          refine Tm.atRow (by first | assumption | omega | (simp only [lim, maxLen_eq] at *; omega)) (by first | assumption | omega | (simp only [lim, maxLen_eq] at *; omega)) (fun x16 hx17 hm18 => ?_)
          rw [hx3] at hx17
          injection hx17 with hx17
          subst hx17
          refine Tm.uncons ?_
          refine Tm.dStr ?_
          refine Tm.atEnd ?_
          refine Tm.ite (fun h20 => ?_) (fun h20 => ?_)
          · try simp only [decide_eq_true_eq, decide_eq_false_iff_not, Int.not_lt, Int.not_le, bne_iff_ne, ne_eq, bne_eq_false_iff_eq, Bool.not_eq_true', Bool.not_eq_false'] at h20
            exact Tm.ret (by trivial)
          · try simp only [decide_eq_true_eq, decide_eq_false_iff_not, Int.not_lt, Int.not_le, bne_iff_ne, ne_eq, bne_eq_false_iff_eq, Bool.not_eq_true', Bool.not_eq_false'] at h20
            try rw [wrap_i64 (x := i + 1) (by omega) (by omega)]
            exact hL ((i + 1)) (by (try simp only []); omega) (by (try simp only []); omega)
        · try simp only [decide_eq_true_eq, decide_eq_false_iff_not, Int.not_lt, Int.not_le, bne_iff_ne, ne_eq, bne_eq_false_iff_eq, Bool.not_eq_true', Bool.not_eq_false'] at h10
          try rw [wrap_i64 (x := i + 1) (by omega) (by omega)]
          exact hL ((i + 1)) (by (try simp only []); omega) (by (try simp only []); omega)
    · try simp only [decide_eq_true_eq, decide_eq_false_iff_not, Int.not_lt, Int.not_le, bne_iff_ne, ne_eq, bne_eq_false_iff_eq, Bool.not_eq_true', Bool.not_eq_false'] at h1
      exact Tm.ret (by trivial)
noncomputable def spec_l10Names.v (a0 : List (List D)) (a1 : Int) : Bool := (spec_l10Names.t big a0 a1).getD default
theorem spec_l10Names.tv {a0 : List (List D)} {a1 : Int} (ga0 : SlOk RS lim a0) {k : Nat} (hk : Fuel k) : spec_l10Names.t k a0 a1 = some (spec_l10Names.v a0 a1) := (spec_l10Names.T ga0).val hk
theorem spec_l10Names.fv {a0 : List (List D)} {a1 : Int} (ga0 : SlOk RS lim a0) {k : Nat} (hk : Fuel k) {β : Type} (K : Bool → Option β) : spec_l10Names.f k a0 a1 K = K (spec_l10Names.v a0 a1) := spec_l10Names.f_of (spec_l10Names.tv ga0 hk) K
theorem spec_WantOk.f_of {β : Type} {k : Nat} {a0_0 : Int} {a0_1 : List (List D)} {a0_2 : List (List D)} {a0_3 : List (List D)} {z0 : Bool} (h : spec_WantOk.t k a0_0 a0_1 a0_2 a0_3 = some z0) (K : Bool → Option β) : spec_WantOk.f k a0_0 a0_1 a0_2 a0_3 K = K z0 := by
  unfold spec_WantOk.f
  rw [h]
theorem spec_WantOk.tm {ι α : Type} {ok : ι → Prop} {ψ : α → Prop} {p : ι → Nat} (hp : ∀ i, ok i → big ≤ p i) {a0_0 : Int} {a0_1 : List (List D)} {a0_2 : List (List D)} {a0_3 : List (List D)} {φ : Bool → Prop} (h : Tm Fuel (fun k => spec_WantOk.t k a0_0 a0_1 a0_2 a0_3) φ) {G : ι → Bool → Option α} (hG : ∀ z0, φ z0 → Tm ok (fun i => G i z0) ψ) : Tm ok (fun i => spec_WantOk.f (p i) a0_0 a0_1 a0_2 a0_3 (G i)) ψ := by
  obtain ⟨z0, h1, h2⟩ := h
  exact (hG z0 h1).congr fun i hi => spec_WantOk.f_of (h2 (p i) (hp i hi)) _
theorem spec_WantOk.T {a0_0 : Int} {a0_1 : List (List D)} {a0_2 : List (List D)} {a0_3 : List (List D)} (ga0_1 : SlOk RISLSE lim a0_1) (ga0_2 : SlOk RS lim a0_2) (ga0_3 : SlOk RSI lim a0_3) : Tm Fuel (fun k => spec_WantOk.t k a0_0 a0_1 a0_2 a0_3) (fun _ => True) := by
  unfold spec_WantOk.t spec_WantOk.g
  have hm := maxLen_eq
  have hlim : lim = 1048576 := rfl
  have la0_1 := ga0_1.1
  have la0_2 := ga0_2.1
  have la0_3 := ga0_3.1
  refine Tm.loop (okk := Fuel) (p := fun k => k) (fun i hi => hi) (b := fun k => spec_WantOk.l0 k a0_0 a0_1 a0_2 a0_3 (fun z0 => some z0)) (fun i => (((a0_3.length : Int)) - i).toNat) (fun i => 0 ≤ i ∧ i ≤ (a0_3.length : Int)) ?_ ?_ ?_
  · rintro i hI
    try simp only [] at hI ⊢
    have : big = 2 ^ 100 := rfl
    omega
  · ((try simp only []); omega)
  · rintro i hI L hL
    try simp only [] at hI
    obtain ⟨i0, i1⟩ := hI
    simp only [spec_WantOk.l0]
    refine Tm.ite (fun h1 => ?_) (fun h1 => ?_)
    · try simp only [decide_eq_true_eq, decide_eq_false_iff_not, Int.not_lt, Int.not_le, bne_iff_ne, ne_eq, bne_eq_false_iff_eq, Bool.not_eq_true', Bool.not_eq_false'] at h1
      refine Tm.atRow (by first | assumption | omega | (simp only [lim, maxLen_eq] at *; omega)) (by first | assumption | omega | (simp only [lim, maxLen_eq] at *; omega)) (fun x2 hx3 hm4 => ?_)
      obtain ⟨c5, c6, rfl, g7, g8, _⟩ := ga0_3.2 x2 hm4
      refine Tm.uncons ?_
      refine Tm.dStr ?_
      refine Tm.uncons ?_
      refine Tm.dInt ?_
      refine Tm.atEnd ?_
      refine spec_NameOk.tm (fun i hi => hi.1) (spec_NameOk.T (by first | assumption | omega | (simp only [lim, maxLen_eq] at *; omega))) (fun y10 hy9 => ?_)
      refine Tm.ite (fun h11 => ?_) (fun h11 => ?_)
      · try simp only [decide_eq_true_eq, decide_eq_false_iff_not, Int.not_lt, Int.not_le, bne_iff_ne, ne_eq, bne_eq_false_iff_eq, Bool.not_eq_true', Bool.not_eq_false'] at h11
        exact Tm.ret (by trivial)
      · try simp only [decide_eq_true_eq, decide_eq_false_iff_not, Int.not_lt, Int.not_le, bne_iff_ne, ne_eq, bne_eq_false_iff_eq, Bool.not_eq_true', Bool.not_eq_false'] at h11
        refine Tm.atRow (by first | assumption | omega | (simp only [lim, maxLen_eq] at *; omega)) (by first | assumption | omega | (simp only [lim, maxLen_eq] at *; omega)) (fun x12 hx13 hm14 => ?_)
        rw [hx3] at hx13
        injection hx13 with hx13
        subst hx13
        refine Tm.uncons ?_
        refine Tm.dStr ?_
        refine Tm.uncons ?_
        refine Tm.dInt ?_
        refine Tm.atEnd ?_
        refine spec_l1In.tm (fun i hi => hi.1) (spec_l1In.T) (fun y18 hy17 => ?_)
        refine Tm.ite (fun h19 => ?_) (fun h19 => ?_)
        · try simp only [decide_eq_true_eq, decide_eq_false_iff_not, Int.not_lt, Int.not_le, bne_iff_ne, ne_eq, bne_eq_false_iff_eq, Bool.not_eq_true', Bool.not_eq_false'] at h19
          exact Tm.ret (by trivial)
        · try simp only [decide_eq_true_eq, decide_eq_false_iff_not, Int.not_lt, Int.not_le, bne_iff_ne, ne_eq, bne_eq_false_iff_eq, Bool.not_eq_true', Bool.not_eq_false'] at h19
          have z20 := hy17 h19
          refine Tm.ite (fun h21 => ?_) (fun h21 => ?_)
          · try simp only [decide_eq_true_eq, decide_eq_false_iff_not, Int.not_lt, Int.not_le, bne_iff_ne, ne_eq, bne_eq_false_iff_eq, Bool.not_eq_true', Bool.not_eq_false'] at h21
            try rw [wrap_i64 (x := i - 1) (by omega) (by omega)]
            refine Tm.atRow (by first | assumption | omega | (simp only [lim, maxLen_eq] at *; omega)) (by first | assumption | omega | (simp only [lim, maxLen_eq] at *; omega)) (fun x22 hx23 hm24 => ?_)
            obtain ⟨c25, c26, rfl, g27, g28, _⟩ := ga0_3.2 x22 hm24
            refine Tm.uncons ?_
            refine Tm.dStr ?_
            refine Tm.uncons ?_
            refine Tm.dInt ?_
            refine Tm.atEnd ?_
            refine Tm.atRow (by first | assumption | omega | (simp only [lim, maxLen_eq] at *; omega)) (by first | assumption | omega | (simp only [lim, maxLen_eq] at *; omega)) (fun x29 hx30 hm31 => ?_)
            rw [hx3] at hx30
            injection hx30 with hx30
            subst hx30
            refine Tm.uncons ?_
            refine Tm.dStr ?_
            refine Tm.uncons ?_
            refine Tm.dInt ?_
            refine Tm.atEnd ?_
            refine Tm.ite (fun h34 => ?_) (fun h34 => ?_)
            · try simp only [decide_eq_true_eq, decide_eq_false_iff_not, Int.not_lt, Int.not_le, bne_iff_ne, ne_eq, bne_eq_false_iff_eq, Bool.not_eq_true', Bool.not_eq_false'] at h34
              exact Tm.ret (by trivial)
            · try simp only [decide_eq_true_eq, decide_eq_false_iff_not, Int.not_lt, Int.not_le, bne_iff_ne, ne_eq, bne_eq_false_iff_eq, Bool.not_eq_true', Bool.not_eq_false'] at h34
              try rw [wrap_i64 (x := i + 1) (by omega) (by omega)]
              exact hL ((i + 1)) (by (try simp only []); omega) (by (try simp only []); omega)
          · try simp only [decide_eq_true_eq, decide_eq_false_iff_not, Int.not_lt, Int.not_le, bne_iff_ne, ne_eq, bne_eq_false_iff_eq, Bool.not_eq_true', Bool.not_eq_false'] at h21
            try rw [wrap_i64 (x := i + 1) (by omega) (by omega)]
            exact hL ((i + 1)) (by (try simp only []); omega) (by (try simp only []); omega)
    · try simp only [decide_eq_true_eq, decide_eq_false_iff_not, Int.not_lt, Int.not_le, bne_iff_ne, ne_eq, bne_eq_false_iff_eq, Bool.not_eq_true', Bool.not_eq_false'] at h1
      refine spec_l1In.tm (fun i hi => hi.1) (spec_l1In.T) (fun y36 hy35 => ?_)
      refine Tm.ite (fun h37 => ?_) (fun h37 => ?_)
      · try simp only [decide_eq_true_eq, decide_eq_false_iff_not, Int.not_lt, Int.not_le, bne_iff_ne, ne_eq, bne_eq_false_iff_eq, Bool.not_eq_true', Bool.not_eq_false'] at h37
        have z38 := hy35 h37
        refine spec_SelectorOk.tm (fun i hi => hi.1) (spec_SelectorOk.T (by first | assumption | omega | (simp only [lim, maxLen_eq] at *; omega))) (fun y40 hy39 => ?_)
        refine Tm.ite (fun h41 => ?_) (fun h41 => ?_)
        · try simp only [decide_eq_true_eq, decide_eq_false_iff_not, Int.not_lt, Int.not_le, bne_iff_ne, ne_eq, bne_eq_false_iff_eq, Bool.not_eq_true', Bool.not_eq_false'] at h41
          refine spec_l10Names.tm (fun i hi => hi.1) (spec_l10Names.T (by first | assumption | omega | (simp only [lim, maxLen_eq] at *; omega))) (fun y43 hy42 => ?_)
          refine Tm.ite (fun h44 => ?_) (fun h44 => ?_)
          · try simp only [decide_eq_true_eq, decide_eq_false_iff_not, Int.not_lt, Int.not_le, bne_iff_ne, ne_eq, bne_eq_false_iff_eq, Bool.not_eq_true', Bool.not_eq_false'] at h44
            exact Tm.ret (by trivial)
          · try simp only [decide_eq_true_eq, decide_eq_false_iff_not, Int.not_lt, Int.not_le, bne_iff_ne, ne_eq, bne_eq_false_iff_eq, Bool.not_eq_true', Bool.not_eq_false'] at h44
            exact Tm.ret (by trivial)
        · try simp only [decide_eq_true_eq, decide_eq_false_iff_not, Int.not_lt, Int.not_le, bne_iff_ne, ne_eq, bne_eq_false_iff_eq, Bool.not_eq_true', Bool.not_eq_false'] at h41
          exact Tm.ret (by trivial)
      · try simp only [decide_eq_true_eq, decide_eq_false_iff_not, Int.not_lt, Int.not_le, bne_iff_ne, ne_eq, bne_eq_false_iff_eq, Bool.not_eq_true', Bool.not_eq_false'] at h37
        exact Tm.ret (by trivial)
noncomputable def spec_WantOk.v (a0_0 : Int) (a0_1 : List (List D)) (a0_2 : List (List D)) (a0_3 : List (List D)) : Bool := (spec_WantOk.t big a0_0 a0_1 a0_2 a0_3).getD default
theorem spec_WantOk.tv {a0_0 : Int} {a0_1 : List (List D)} {a0_2 : List (List D)} {a0_3 : List (List D)} (ga0_1 : SlOk RISLSE lim a0_1) (ga0_2 : SlOk RS lim a0_2) (ga0_3 : SlOk RSI lim a0_3) {k : Nat} (hk : Fuel k) : spec_WantOk.t k a0_0 a0_1 a0_2 a0_3 = some (spec_WantOk.v a0_0 a0_1 a0_2 a0_3) := (spec_WantOk.T ga0_1 ga0_2 ga0_3).val hk
theorem spec_WantOk.fv {a0_0 : Int} {a0_1 : List (List D)} {a0_2 : List (List D)} {a0_3 : List (List D)} (ga0_1 : SlOk RISLSE lim a0_1) (ga0_2 : SlOk RS lim a0_2) (ga0_3 : SlOk RSI lim a0_3) {k : Nat} (hk : Fuel k) {β : Type} (K : Bool → Option β) : spec_WantOk.f k a0_0 a0_1 a0_2 a0_3 K = K (spec_WantOk.v a0_0 a0_1 a0_2 a0_3) := spec_WantOk.f_of (spec_WantOk.tv ga0_1 ga0_2 ga0_3 hk) K
theorem spec_LabelsOk.f_of {β : Type} {k : Nat} {a0 : List (List D)} {z0 : Bool} (h : spec_LabelsOk.t k a0 = some z0) (K : Bool → Option β) : spec_LabelsOk.f k a0 K = K z0 := by
  unfold spec_LabelsOk.f
  rw [h]
theorem spec_LabelsOk.tm {ι α : Type} {ok : ι → Prop} {ψ : α → Prop} {p : ι → Nat} (hp : ∀ i, ok i → big ≤ p i) {a0 : List (List D)} {φ : Bool → Prop} (h : Tm Fuel (fun k => spec_LabelsOk.t k a0) φ) {G : ι → Bool → Option α} (hG : ∀ z0, φ z0 → Tm ok (fun i => G i z0) ψ) : Tm ok (fun i => spec_LabelsOk.f (p i) a0 (G i)) ψ := by
  obtain ⟨z0, h1, h2⟩ := h
  exact (hG z0 h1).congr fun i hi => spec_LabelsOk.f_of (h2 (p i) (hp i hi)) _
theorem spec_LabelsOk.T {a0 : List (List D)} (ga0 : SlOk RSS lim a0) : Tm Fuel (fun k => spec_LabelsOk.t k a0) (fun _ => True) := by
  unfold spec_LabelsOk.t spec_LabelsOk.g
  have hm := maxLen_eq
  have hlim : lim = 1048576 := rfl
  have la0 := ga0.1
  refine Tm.loop (okk := Fuel) (p := fun k => k) (fun i hi => hi) (b := fun k => spec_LabelsOk.l0 k a0 (fun z0 => some z0)) (fun i => (((a0.length : Int)) - i).toNat) (fun i => 0 ≤ i ∧ i ≤ (a0.length : Int)) ?_ ?_ ?_
  · rintro i hI
    try simp only [] at hI ⊢
    have : big = 2 ^ 100 := rfl
    omega
  · ((try simp only []); omega)
  · rintro i hI L hL
    try simp only [] at hI
    obtain ⟨i0, i1⟩ := hI
    simp only [spec_LabelsOk.l0]
    refine Tm.ite (fun h1 => ?_) (fun h1 => ?_)
    · try simp only [decide_eq_true_eq, decide_eq_false_iff_not, Int.not_lt, Int.not_le, bne_iff_ne, ne_eq, bne_eq_false_iff_eq, Bool.not_eq_true', Bool.not_eq_false'] at h1
      refine Tm.atRow (by first | assumption | omega | (simp only [lim, maxLen_eq] at *; omega)) (by first | assumption | omega | (simp only [lim, maxLen_eq] at *; omega)) (fun x2 hx3 hm4 => ?_)
      obtain ⟨c5, c6, rfl, g7, g8, _⟩ := ga0.2 x2 hm4
      refine Tm.uncons ?_
      refine Tm.dStr ?_
      refine Tm.uncons ?_
      refine Tm.dStr ?_
      refine Tm.atEnd ?_
      refine spec_NameOk.tm (fun i hi => hi.1) (spec_NameOk.T (by first | assumption | omega | (simp only [lim, maxLen_eq] at *; omega))) (fun y10 hy9 => ?_)
      refine Tm.ite (fun h11 => ?_) (fun h11 => ?_)
      · try simp only [decide_eq_true_eq, decide_eq_false_iff_not, Int.not_lt, Int.not_le, bne_iff_ne, ne_eq, bne_eq_false_iff_eq, Bool.not_eq_true', Bool.not_eq_false'] at h11
        exact Tm.ret (by trivial)
      · try simp only [decide_eq_true_eq, decide_eq_false_iff_not, Int.not_lt, Int.not_le, bne_iff_ne, ne_eq, bne_eq_false_iff_eq, Bool.not_eq_true', Bool.not_eq_false'] at h11
        refine Tm.atRow (by first | assumption | omega | (simp only [lim, maxLen_eq] at *; omega)) (by first | assumption | omega | (simp only [lim, maxLen_eq] at *; omega)) (fun x12 hx13 hm14 => ?_)
        rw [hx3] at hx13
        injection hx13 with hx13
        subst hx13
        refine Tm.uncons ?_
        refine Tm.dStr ?_
        refine Tm.uncons ?_
        refine Tm.dStr ?_
        refine Tm.atEnd ?_
        refine spec_NameOk.tm (fun i hi => hi.1) (spec_NameOk.T (by first | assumption | omega | (simp only [lim, maxLen_eq] at *; omega))) (fun y18 hy17 => ?_)
        refine Tm.ite (fun h19 => ?_) (fun h19 => ?_)
        · try simp only [decide_eq_true_eq, decide_eq_false_iff_not, Int.not_lt, Int.not_le, bne_iff_ne, ne_eq, bne_eq_false_iff_eq, Bool.not_eq_true', Bool.not_eq_false'] at h19
          exact Tm.ret (by trivial)
        · try simp only [decide_eq_true_eq, decide_eq_false_iff_not, Int.not_lt, Int.not_le, bne_iff_ne, ne_eq, bne_eq_false_iff_eq, Bool.not_eq_true', Bool.not_eq_false'] at h19
          refine Tm.ite (fun h20 => ?_) (fun h20 => ?_)
          · try simp only [decide_eq_true_eq, decide_eq_false_iff_not, Int.not_lt, Int.not_le, bne_iff_ne, ne_eq, bne_eq_false_iff_eq, Bool.not_eq_true', Bool.not_eq_false'] at h20
            try rw [wrap_i64 (x := i - 1) (by omega) (by omega)]
            refine Tm.atRow (by first | assumption | omega | (simp only [lim, maxLen_eq] at *; omega)) (by first | assumption | omega | (simp only [lim, maxLen_eq] at *; omega)) (fun x21 hx22 hm23 => ?_)
            obtain ⟨c24, c25, rfl, g26, g27, _⟩ := ga0.2 x21 hm23
            refine Tm.uncons ?_
            refine Tm.dStr ?_
            refine Tm.uncons ?_
            refine Tm.dStr ?_
            refine Tm.atEnd ?_
            refine Tm.atRow (by first | assumption | omega | (simp only [lim, maxLen_eq] at *; omega)) (by first | assumption | omega | (simp only [lim, maxLen_eq] at *; omega)) (fun x28 hx29 hm30 => ?_)
            rw [hx3] at hx29
            injection hx29 with hx29
            subst hx29
            refine Tm.uncons ?_
            refine Tm.dStr ?_
            refine Tm.uncons ?_
            refine Tm.dStr ?_
            refine Tm.atEnd ?_
            refine Tm.ite (fun h33 => ?_) (fun h33 => ?_)
            · try simp only [decide_eq_true_eq, decide_eq_false_iff_not, Int.not_lt, Int.not_le, bne_iff_ne, ne_eq, bne_eq_false_iff_eq, Bool.not_eq_true', Bool.not_eq_false'] at h33
              exact Tm.ret (by trivial)
            · try simp only [decide_eq_true_eq, decide_eq_false_iff_not, Int.not_lt, Int.not_le, bne_iff_ne, ne_eq, bne_eq_false_iff_eq, Bool.not_eq_true', Bool.not_eq_false'] at h33
              try rw [wrap_i64 (x := i + 1) (by omega) (by omega)]
              exact hL ((i + 1)) (by (try simp only []); omega) (by (try simp only []); omega)
          · try simp only [decide_eq_true_eq, decide_eq_false_iff_not, Int.not_lt, Int.not_le, bne_iff_ne, ne_eq, bne_eq_false_iff_eq, Bool.not_eq_true', Bool.not_eq_false'] at h20
            try rw [wrap_i64 (x := i + 1) (by omega) (by omega)]
            exact hL ((i + 1)) (by (try simp only []); omega) (by (try simp only []); omega)
    · try simp only [decide_eq_true_eq, decide_eq_false_iff_not, Int.not_lt, Int.not_le, bne_iff_ne, ne_eq, bne_eq_false_iff_eq, Bool.not_eq_true', Bool.not_eq_false'] at h1
      exact Tm.ret (by trivial)
noncomputable def spec_LabelsOk.v (a0 : List (List D)) : Bool := (spec_LabelsOk.t big a0).getD default
theorem spec_LabelsOk.tv {a0 : List (List D)} (ga0 : SlOk RSS lim a0) {k : Nat} (hk : Fuel k) : spec_LabelsOk.t k a0 = some (spec_LabelsOk.v a0) := (spec_LabelsOk.T ga0).val hk
theorem spec_LabelsOk.fv {a0 : List (List D)} (ga0 : SlOk RSS lim a0) {k : Nat} (hk : Fuel k) {β : Type} (K : Bool → Option β) : spec_LabelsOk.f k a0 K = K (spec_LabelsOk.v a0) := spec_LabelsOk.f_of (spec_LabelsOk.tv ga0 hk) K
theorem spec_IslandOk.f_of {β : Type} {k : Nat} {a0_0 : ByteArray} {a0_1 : List (List D)} {a0_2 : List (List D)} {a0_3 : Int} {z0 : Bool} (h : spec_IslandOk.t k a0_0 a0_1 a0_2 a0_3 = some z0) (K : Bool → Option β) : spec_IslandOk.f k a0_0 a0_1 a0_2 a0_3 K = K z0 := by
  unfold spec_IslandOk.f
  rw [h]
theorem spec_IslandOk.tm {ι α : Type} {ok : ι → Prop} {ψ : α → Prop} {p : ι → Nat} (hp : ∀ i, ok i → big ≤ p i) {a0_0 : ByteArray} {a0_1 : List (List D)} {a0_2 : List (List D)} {a0_3 : Int} {φ : Bool → Prop} (h : Tm Fuel (fun k => spec_IslandOk.t k a0_0 a0_1 a0_2 a0_3) φ) {G : ι → Bool → Option α} (hG : ∀ z0, φ z0 → Tm ok (fun i => G i z0) ψ) : Tm ok (fun i => spec_IslandOk.f (p i) a0_0 a0_1 a0_2 a0_3 (G i)) ψ := by
  obtain ⟨z0, h1, h2⟩ := h
  exact (hG z0 h1).congr fun i hi => spec_IslandOk.f_of (h2 (p i) (hp i hi)) _
theorem spec_IslandOk.T {a0_0 : ByteArray} {a0_1 : List (List D)} {a0_2 : List (List D)} {a0_3 : Int} (ga0_0 : a0_0.size ≤ lim) (ga0_1 : SlOk RSS lim a0_1) (ga0_2 : SlOk RS lim a0_2) : Tm Fuel (fun k => spec_IslandOk.t k a0_0 a0_1 a0_2 a0_3) (fun _ => True) := by
  unfold spec_IslandOk.t spec_IslandOk.g
  have hm := maxLen_eq
  have hlim : lim = 1048576 := rfl
  have la0_1 := ga0_1.1
  have la0_2 := ga0_2.1
  refine spec_NameOk.tm (fun i hi => hi) (spec_NameOk.T (by first | assumption | omega | (simp only [lim, maxLen_eq] at *; omega))) (fun y2 hy1 => ?_)
  refine Tm.ite (fun h3 => ?_) (fun h3 => ?_)
  · try simp only [decide_eq_true_eq, decide_eq_false_iff_not, Int.not_lt, Int.not_le, bne_iff_ne, ne_eq, bne_eq_false_iff_eq, Bool.not_eq_true', Bool.not_eq_false'] at h3
    refine spec_LabelsOk.tm (fun i hi => hi) (spec_LabelsOk.T (by first | assumption | omega | (simp only [lim, maxLen_eq] at *; omega))) (fun y5 hy4 => ?_)
    refine Tm.ite (fun h6 => ?_) (fun h6 => ?_)
    · try simp only [decide_eq_true_eq, decide_eq_false_iff_not, Int.not_lt, Int.not_le, bne_iff_ne, ne_eq, bne_eq_false_iff_eq, Bool.not_eq_true', Bool.not_eq_false'] at h6
      refine spec_l10Names.tm (fun i hi => hi) (spec_l10Names.T (by first | assumption | omega | (simp only [lim, maxLen_eq] at *; omega))) (fun y8 hy7 => ?_)
      refine Tm.ite (fun h9 => ?_) (fun h9 => ?_)
      · try simp only [decide_eq_true_eq, decide_eq_false_iff_not, Int.not_lt, Int.not_le, bne_iff_ne, ne_eq, bne_eq_false_iff_eq, Bool.not_eq_true', Bool.not_eq_false'] at h9
        refine spec_l1In.tm (fun i hi => hi) (spec_l1In.T) (fun y11 hy10 => ?_)
        exact Tm.ret (by trivial)
      · try simp only [decide_eq_true_eq, decide_eq_false_iff_not, Int.not_lt, Int.not_le, bne_iff_ne, ne_eq, bne_eq_false_iff_eq, Bool.not_eq_true', Bool.not_eq_false'] at h9
        exact Tm.ret (by trivial)
    · try simp only [decide_eq_true_eq, decide_eq_false_iff_not, Int.not_lt, Int.not_le, bne_iff_ne, ne_eq, bne_eq_false_iff_eq, Bool.not_eq_true', Bool.not_eq_false'] at h6
      exact Tm.ret (by trivial)
  · try simp only [decide_eq_true_eq, decide_eq_false_iff_not, Int.not_lt, Int.not_le, bne_iff_ne, ne_eq, bne_eq_false_iff_eq, Bool.not_eq_true', Bool.not_eq_false'] at h3
    exact Tm.ret (by trivial)
noncomputable def spec_IslandOk.v (a0_0 : ByteArray) (a0_1 : List (List D)) (a0_2 : List (List D)) (a0_3 : Int) : Bool := (spec_IslandOk.t big a0_0 a0_1 a0_2 a0_3).getD default
theorem spec_IslandOk.tv {a0_0 : ByteArray} {a0_1 : List (List D)} {a0_2 : List (List D)} {a0_3 : Int} (ga0_0 : a0_0.size ≤ lim) (ga0_1 : SlOk RSS lim a0_1) (ga0_2 : SlOk RS lim a0_2) {k : Nat} (hk : Fuel k) : spec_IslandOk.t k a0_0 a0_1 a0_2 a0_3 = some (spec_IslandOk.v a0_0 a0_1 a0_2 a0_3) := (spec_IslandOk.T ga0_0 ga0_1 ga0_2).val hk
theorem spec_IslandOk.fv {a0_0 : ByteArray} {a0_1 : List (List D)} {a0_2 : List (List D)} {a0_3 : Int} (ga0_0 : a0_0.size ≤ lim) (ga0_1 : SlOk RSS lim a0_1) (ga0_2 : SlOk RS lim a0_2) {k : Nat} (hk : Fuel k) {β : Type} (K : Bool → Option β) : spec_IslandOk.f k a0_0 a0_1 a0_2 a0_3 K = K (spec_IslandOk.v a0_0 a0_1 a0_2 a0_3) := spec_IslandOk.f_of (spec_IslandOk.tv ga0_0 ga0_1 ga0_2 hk) K
theorem spec_LabelGet.f_of {β : Type} {k : Nat} {a0 : List (List D)} {a1 : ByteArray} {z0 : ByteArray} {z1 : Bool} (h : spec_LabelGet.t k a0 a1 = some (z0, z1)) (K : ByteArray → Bool → Option β) : spec_LabelGet.f k a0 a1 K = K z0 z1 := by
  unfold spec_LabelGet.f
  rw [h]
theorem spec_LabelGet.tm {ι α : Type} {ok : ι → Prop} {ψ : α → Prop} {p : ι → Nat} (hp : ∀ i, ok i → big ≤ p i) {a0 : List (List D)} {a1 : ByteArray} {φ : ByteArray × Bool → Prop} (h : Tm Fuel (fun k => spec_LabelGet.t k a0 a1) φ) {G : ι → ByteArray → Bool → Option α} (hG : ∀ z0 z1, φ (z0, z1) → Tm ok (fun i => G i z0 z1) ψ) : Tm ok (fun i => spec_LabelGet.f (p i) a0 a1 (G i)) ψ := by
  obtain ⟨⟨z0, z1⟩, h1, h2⟩ := h
  exact (hG z0 z1 h1).congr fun i hi => spec_LabelGet.f_of (h2 (p i) (hp i hi)) _
theorem spec_LabelGet.T {a0 : List (List D)} {a1 : ByteArray} (ga0 : SlOk RSS lim a0) (ga1 : a1.size ≤ lim) : Tm Fuel (fun k => spec_LabelGet.t k a0 a1) (fun z => z.1.size ≤ lim) := by
  unfold spec_LabelGet.t spec_LabelGet.g
  have hm := maxLen_eq
  have hlim : lim = 1048576 := rfl
  have la0 := ga0.1
  refine Tm.loop (okk := Fuel) (p := fun k => k) (fun i hi => hi) (b := fun k => spec_LabelGet.l0 k a0 a1 (fun z0 z1 => some (z0, z1))) (fun i => (((a0.length : Int)) - i).toNat) (fun i => 0 ≤ i ∧ i ≤ (a0.length : Int)) ?_ ?_ ?_
  · rintro i hI
    try simp only [] at hI ⊢
    have : big = 2 ^ 100 := rfl
    omega
  · ((try simp only []); omega)
  · rintro i hI L hL
    try simp only [] at hI
    obtain ⟨i0, i1⟩ := hI
    simp only [spec_LabelGet.l0]
    refine Tm.ite (fun h1 => ?_) (fun h1 => ?_)
    · try simp only [decide_eq_true_eq, decide_eq_false_iff_not, Int.not_lt, Int.not_le, bne_iff_ne, ne_eq, bne_eq_false_iff_eq, Bool.not_eq_true', Bool.not_eq_false'] at h1
      refine Tm.atRow (by first | assumption | omega | (simp only [lim, maxLen_eq] at *; omega)) (by first | assumption | omega | (simp only [lim, maxLen_eq] at *; omega)) (fun x2 hx3 hm4 => ?_)
      obtain ⟨c5, c6, rfl, g7, g8, _⟩ := ga0.2 x2 hm4
      refine Tm.uncons ?_
      refine Tm.dStr ?_
      refine Tm.uncons ?_
      refine Tm.dStr ?_
      refine Tm.atEnd ?_
      refine Tm.ite (fun h9 => ?_) (fun h9 => ?_)
      · try simp only [decide_eq_true_eq, decide_eq_false_iff_not, Int.not_lt, Int.not_le, bne_iff_ne, ne_eq, bne_eq_false_iff_eq, Bool.not_eq_true', Bool.not_eq_false'] at h9
        refine Tm.atRow (by first | assumption | omega | (simp only [lim, maxLen_eq] at *; omega)) (by first | assumption | omega | (simp only [lim, maxLen_eq] at *; omega)) (fun x10 hx11 hm12 => ?_)
        rw [hx3] at hx11
        injection hx11 with hx11
        subst hx11
        refine Tm.uncons ?_
        refine Tm.dStr ?_
        refine Tm.uncons ?_
        refine Tm.dStr ?_
        refine Tm.atEnd ?_
        exact Tm.ret (by first | assumption | (simp only [lim]; decide))
      · try simp only [decide_eq_true_eq, decide_eq_false_iff_not, Int.not_lt, Int.not_le, bne_iff_ne, ne_eq, bne_eq_false_iff_eq, Bool.not_eq_true', Bool.not_eq_false'] at h9
        try rw [wrap_i64 (x := i + 1) (by omega) (by omega)]
        exact hL ((i + 1)) (by (try simp only []); omega) (by (try simp only []); omega)
    · try simp only [decide_eq_true_eq, decide_eq_false_iff_not, Int.not_lt, Int.not_le, bne_iff_ne, ne_eq, bne_eq_false_iff_eq, Bool.not_eq_true', Bool.not_eq_false'] at h1
      exact Tm.ret (by first | assumption | (simp only [lim]; decide))
noncomputable def spec_LabelGet.v (a0 : List (List D)) (a1 : ByteArray) : ByteArray × Bool := (spec_LabelGet.t big a0 a1).getD default
theorem spec_LabelGet.tv {a0 : List (List D)} {a1 : ByteArray} (ga0 : SlOk RSS lim a0) (ga1 : a1.size ≤ lim) {k : Nat} (hk : Fuel k) : spec_LabelGet.t k a0 a1 = some (spec_LabelGet.v a0 a1) := (spec_LabelGet.T ga0 ga1).val hk
theorem spec_LabelGet.fv {a0 : List (List D)} {a1 : ByteArray} (ga0 : SlOk RSS lim a0) (ga1 : a1.size ≤ lim) {k : Nat} (hk : Fuel k) {β : Type} (K : ByteArray → Bool → Option β) : spec_LabelGet.f k a0 a1 K = K ((spec_LabelGet.v a0 a1).1) ((spec_LabelGet.v a0 a1).2) := spec_LabelGet.f_of (spec_LabelGet.tv ga0 ga1 hk) K
theorem spec_l2Among.f_of {β : Type} {k : Nat} {a0 : List (List D)} {a1 : ByteArray} {z0 : Bool} (h : spec_l2Among.t k a0 a1 = some z0) (K : Bool → Option β) : spec_l2Among.f k a0 a1 K = K z0 := by
  unfold spec_l2Among.f
  rw [h]
theorem spec_l2Among.tm {ι α : Type} {ok : ι → Prop} {ψ : α → Prop} {p : ι → Nat} (hp : ∀ i, ok i → big ≤ p i) {a0 : List (List D)} {a1 : ByteArray} {φ : Bool → Prop} (h : Tm Fuel (fun k => spec_l2Among.t k a0 a1) φ) {G : ι → Bool → Option α} (hG : ∀ z0, φ z0 → Tm ok (fun i => G i z0) ψ) : Tm ok (fun i => spec_l2Among.f (p i) a0 a1 (G i)) ψ := by
  obtain ⟨z0, h1, h2⟩ := h
  exact (hG z0 h1).congr fun i hi => spec_l2Among.f_of (h2 (p i) (hp i hi)) _
theorem spec_l2Among.T {a0 : List (List D)} {a1 : ByteArray} (ga0 : SlOk RS lim a0) (ga1 : a1.size ≤ lim) : Tm Fuel (fun k => spec_l2Among.t k a0 a1) (fun _ => True) := by
  unfold spec_l2Among.t spec_l2Among.g
  have hm := maxLen_eq
  have hlim : lim = 1048576 := rfl
  have la0 := ga0.1
  refine Tm.loop (okk := Fuel) (p := fun k => k) (fun i hi => hi) (b := fun k => spec_l2Among.l0 k a0 a1 (fun z0 => some z0)) (fun i => (((a0.length : Int)) - i).toNat) (fun i => 0 ≤ i ∧ i ≤ (a0.length : Int)) ?_ ?_ ?_
  · rintro i hI
    try simp only [] at hI ⊢
    have : big = 2 ^ 100 := rfl
    omega
  · ((try simp only []); omega)
  · rintro i hI L hL
    try simp only [] at hI
    obtain ⟨i0, i1⟩ := hI
    simp only [spec_l2Among.l0]
    refine Tm.ite (fun h1 => ?_) (fun h1 => ?_)
    · try simp only [decide_eq_true_eq, decide_eq_false_iff_not, Int.not_lt, Int.not_le, bne_iff_ne, ne_eq, bne_eq_false_iff_eq, Bool.not_eq_true', Bool.not_eq_false'] at h1
      refine Tm.atRow (by first | assumption | omega | (simp only [lim, maxLen_eq] at *; omega)) (by first | assumption | omega | (simp only [lim, maxLen_eq] at *; omega)) (fun x2 hx3 hm4 => ?_)
      obtain ⟨c5, rfl, g6, _⟩ := ga0.2 x2 hm4
      refine Tm.uncons ?_
      refine Tm.dStr ?_
      refine Tm.atEnd ?_
      refine Tm.ite (fun h7 => ?_) (fun h7 => ?_)
      · try simp only [decide_eq_true_eq, decide_eq_false_iff_not, Int.not_lt, Int.not_le, bne_iff_ne, ne_eq, bne_eq_false_iff_eq, Bool.not_eq_true', Bool.not_eq_false'] at h7
        exact Tm.ret (by trivial)
      · try simp only [decide_eq_true_eq, decide_eq_false_iff_not, Int.not_lt, Int.not_le, bne_iff_ne, ne_eq, bne_eq_false_iff_eq, Bool.not_eq_true', Bool.not_eq_false'] at h7
        try rw [wrap_i64 (x := i + 1) (by omega) (by omega)]
        exact hL ((i + 1)) (by (try simp only []); omega) (by (try simp only []); omega)
    · try simp only [decide_eq_true_eq, decide_eq_false_iff_not, Int.not_lt, Int.not_le, bne_iff_ne, ne_eq, bne_eq_false_iff_eq, Bool.not_eq_true', Bool.not_eq_false'] at h1
      exact Tm.ret (by trivial)
noncomputable def spec_l2Among.v (a0 : List (List D)) (a1 : ByteArray) : Bool := (spec_l2Among.t big a0 a1).getD default
theorem spec_l2Among.tv {a0 : List (List D)} {a1 : ByteArray} (ga0 : SlOk RS lim a0) (ga1 : a1.size ≤ lim) {k : Nat} (hk : Fuel k) : spec_l2Among.t k a0 a1 = some (spec_l2Among.v a0 a1) := (spec_l2Among.T ga0 ga1).val hk
theorem spec_l2Among.fv {a0 : List (List D)} {a1 : ByteArray} (ga0 : SlOk RS lim a0) (ga1 : a1.size ≤ lim) {k : Nat} (hk : Fuel k) {β : Type} (K : Bool → Option β) : spec_l2Among.f k a0 a1 K = K (spec_l2Among.v a0 a1) := spec_l2Among.f_of (spec_l2Among.tv ga0 ga1 hk) K
theorem spec_l2Holds.f_of {β : Type} {k : Nat} {a0_0 : Int} {a0_1 : ByteArray} {a0_2 : List (List D)} {a1 : ByteArray} {a2 : Bool} {z0 : Bool} (h : spec_l2Holds.t k a0_0 a0_1 a0_2 a1 a2 = some z0) (K : Bool → Option β) : spec_l2Holds.f k a0_0 a0_1 a0_2 a1 a2 K = K z0 := by
  unfold spec_l2Holds.f
  rw [h]
theorem spec_l2Holds.tm {ι α : Type} {ok : ι → Prop} {ψ : α → Prop} {p : ι → Nat} (hp : ∀ i, ok i → big ≤ p i) {a0_0 : Int} {a0_1 : ByteArray} {a0_2 : List (List D)} {a1 : ByteArray} {a2 : Bool} {φ : Bool → Prop} (h : Tm Fuel (fun k => spec_l2Holds.t k a0_0 a0_1 a0_2 a1 a2) φ) {G : ι → Bool → Option α} (hG : ∀ z0, φ z0 → Tm ok (fun i => G i z0) ψ) : Tm ok (fun i => spec_l2Holds.f (p i) a0_0 a0_1 a0_2 a1 a2 (G i)) ψ := by
  obtain ⟨z0, h1, h2⟩ := h
  exact (hG z0 h1).congr fun i hi => spec_l2Holds.f_of (h2 (p i) (hp i hi)) _
theorem spec_l2Holds.T {a0_0 : Int} {a0_1 : ByteArray} {a0_2 : List (List D)} {a1 : ByteArray} {a2 : Bool} (ga0_1 : a0_1.size ≤ lim) (ga0_2 : SlOk RS lim a0_2) (ga1 : a1.size ≤ lim) : Tm Fuel (fun k => spec_l2Holds.t k a0_0 a0_1 a0_2 a1 a2) (fun _ => True) := by
  unfold spec_l2Holds.t spec_l2Holds.g
  have hm := maxLen_eq
  have hlim : lim = 1048576 := rfl
  have la0_2 := ga0_2.1
  refine Tm.ite (fun h1 => ?_) (fun h1 => ?_)
  · try simp only [decide_eq_true_eq, decide_eq_false_iff_not, Int.not_lt, Int.not_le, bne_iff_ne, ne_eq, bne_eq_false_iff_eq, Bool.not_eq_true', Bool.not_eq_false'] at h1
    refine Tm.ite (fun h2 => ?_) (fun h2 => ?_)
    · try simp only [decide_eq_true_eq, decide_eq_false_iff_not, Int.not_lt, Int.not_le, bne_iff_ne, ne_eq, bne_eq_false_iff_eq, Bool.not_eq_true', Bool.not_eq_false'] at h2
      refine Tm.ite (fun h3 => ?_) (fun h3 => ?_)
      · try simp only [decide_eq_true_eq, decide_eq_false_iff_not, Int.not_lt, Int.not_le, bne_iff_ne, ne_eq, bne_eq_false_iff_eq, Bool.not_eq_true', Bool.not_eq_false'] at h3
        refine spec_l2Among.tm (fun i hi => hi) (spec_l2Among.T (by first | assumption | omega | (simp only [lim, maxLen_eq] at *; omega)) (by first | assumption | omega | (simp only [lim, maxLen_eq] at *; omega))) (fun y5 hy4 => ?_)
        exact Tm.ret (by trivial)
      · try simp only [decide_eq_true_eq, decide_eq_false_iff_not, Int.not_lt, Int.not_le, bne_iff_ne, ne_eq, bne_eq_false_iff_eq, Bool.not_eq_true', Bool.not_eq_false'] at h3
        exact Tm.ret (by trivial)
    · try simp only [decide_eq_true_eq, decide_eq_false_iff_not, Int.not_lt, Int.not_le, bne_iff_ne, ne_eq, bne_eq_false_iff_eq, Bool.not_eq_true', Bool.not_eq_false'] at h2
      refine Tm.ite (fun h6 => ?_) (fun h6 => ?_)
      · try simp only [decide_eq_true_eq, decide_eq_false_iff_not, Int.not_lt, Int.not_le, bne_iff_ne, ne_eq, bne_eq_false_iff_eq, Bool.not_eq_true', Bool.not_eq_false'] at h6
        refine Tm.ite (fun h7 => ?_) (fun h7 => ?_)
        · try simp only [decide_eq_true_eq, decide_eq_false_iff_not, Int.not_lt, Int.not_le, bne_iff_ne, ne_eq, bne_eq_false_iff_eq, Bool.not_eq_true', Bool.not_eq_false'] at h7
          exact Tm.ret (by trivial)
        · try simp only [decide_eq_true_eq, decide_eq_false_iff_not, Int.not_lt, Int.not_le, bne_iff_ne, ne_eq, bne_eq_false_iff_eq, Bool.not_eq_true', Bool.not_eq_false'] at h7
          refine spec_l2Among.tm (fun i hi => hi) (spec_l2Among.T (by first | assumption | omega | (simp only [lim, maxLen_eq] at *; omega)) (by first | assumption | omega | (simp only [lim, maxLen_eq] at *; omega))) (fun y9 hy8 => ?_)
          exact Tm.ret (by trivial)
      · try simp only [decide_eq_true_eq, decide_eq_false_iff_not, Int.not_lt, Int.not_le, bne_iff_ne, ne_eq, bne_eq_false_iff_eq, Bool.not_eq_true', Bool.not_eq_false'] at h6
        refine Tm.ite (fun h10 => ?_) (fun h10 => ?_)
        · try simp only [decide_eq_true_eq, decide_eq_false_iff_not, Int.not_lt, Int.not_le, bne_iff_ne, ne_eq, bne_eq_false_iff_eq, Bool.not_eq_true', Bool.not_eq_false'] at h10
          exact Tm.ret (by trivial)
        · try simp only [decide_eq_true_eq, decide_eq_false_iff_not, Int.not_lt, Int.not_le, bne_iff_ne, ne_eq, bne_eq_false_iff_eq, Bool.not_eq_true', Bool.not_eq_false'] at h10
          exact Tm.ret (by trivial)
  · try simp only [decide_eq_true_eq, decide_eq_false_iff_not, Int.not_lt, Int.not_le, bne_iff_ne, ne_eq, bne_eq_false_iff_eq, Bool.not_eq_true', Bool.not_eq_false'] at h1
    refine Tm.ite (fun h11 => ?_) (fun h11 => ?_)
    · try simp only [decide_eq_true_eq, decide_eq_false_iff_not, Int.not_lt, Int.not_le, bne_iff_ne, ne_eq, bne_eq_false_iff_eq, Bool.not_eq_true', Bool.not_eq_false'] at h11
      refine Tm.ite (fun h12 => ?_) (fun h12 => ?_)
      · try simp only [decide_eq_true_eq, decide_eq_false_iff_not, Int.not_lt, Int.not_le, bne_iff_ne, ne_eq, bne_eq_false_iff_eq, Bool.not_eq_true', Bool.not_eq_false'] at h12
        refine spec_l2Among.tm (fun i hi => hi) (spec_l2Among.T (by first | assumption | omega | (simp only [lim, maxLen_eq] at *; omega)) (by first | assumption | omega | (simp only [lim, maxLen_eq] at *; omega))) (fun y14 hy13 => ?_)
        exact Tm.ret (by trivial)
      · try simp only [decide_eq_true_eq, decide_eq_false_iff_not, Int.not_lt, Int.not_le, bne_iff_ne, ne_eq, bne_eq_false_iff_eq, Bool.not_eq_true', Bool.not_eq_false'] at h12
        exact Tm.ret (by trivial)
    · try simp only [decide_eq_true_eq, decide_eq_false_iff_not, Int.not_lt, Int.not_le, bne_iff_ne, ne_eq, bne_eq_false_iff_eq, Bool.not_eq_true', Bool.not_eq_false'] at h11
      refine Tm.ite (fun h15 => ?_) (fun h15 => ?_)
      · try simp only [decide_eq_true_eq, decide_eq_false_iff_not, Int.not_lt, Int.not_le, bne_iff_ne, ne_eq, bne_eq_false_iff_eq, Bool.not_eq_true', Bool.not_eq_false'] at h15
        refine Tm.ite (fun h16 => ?_) (fun h16 => ?_)
        · try simp only [decide_eq_true_eq, decide_eq_false_iff_not, Int.not_lt, Int.not_le, bne_iff_ne, ne_eq, bne_eq_false_iff_eq, Bool.not_eq_true', Bool.not_eq_false'] at h16
          exact Tm.ret (by trivial)
        · try simp only [decide_eq_true_eq, decide_eq_false_iff_not, Int.not_lt, Int.not_le, bne_iff_ne, ne_eq, bne_eq_false_iff_eq, Bool.not_eq_true', Bool.not_eq_false'] at h16
          refine spec_l2Among.tm (fun i hi => hi) (spec_l2Among.T (by first | assumption | omega | (simp only [lim, maxLen_eq] at *; omega)) (by first | assumption | omega | (simp only [lim, maxLen_eq] at *; omega))) (fun y18 hy17 => ?_)
          exact Tm.ret (by trivial)
      · try simp only [decide_eq_true_eq, decide_eq_false_iff_not, Int.not_lt, Int.not_le, bne_iff_ne, ne_eq, bne_eq_false_iff_eq, Bool.not_eq_true', Bool.not_eq_false'] at h15
        refine Tm.ite (fun h19 => ?_) (fun h19 => ?_)
        · try simp only [decide_eq_true_eq, decide_eq_false_iff_not, Int.not_lt, Int.not_le, bne_iff_ne, ne_eq, bne_eq_false_iff_eq, Bool.not_eq_true', Bool.not_eq_false'] at h19
          exact Tm.ret (by trivial)
        · try simp only [decide_eq_true_eq, decide_eq_false_iff_not, Int.not_lt, Int.not_le, bne_iff_ne, ne_eq, bne_eq_false_iff_eq, Bool.not_eq_true', Bool.not_eq_false'] at h19
          exact Tm.ret (by trivial)
noncomputable def spec_l2Holds.v (a0_0 : Int) (a0_1 : ByteArray) (a0_2 : List (List D)) (a1 : ByteArray) (a2 : Bool) : Bool := (spec_l2Holds.t big a0_0 a0_1 a0_2 a1 a2).getD default
theorem spec_l2Holds.tv {a0_0 : Int} {a0_1 : ByteArray} {a0_2 : List (List D)} {a1 : ByteArray} {a2 : Bool} (ga0_1 : a0_1.size ≤ lim) (ga0_2 : SlOk RS lim a0_2) (ga1 : a1.size ≤ lim) {k : Nat} (hk : Fuel k) : spec_l2Holds.t k a0_0 a0_1 a0_2 a1 a2 = some (spec_l2Holds.v a0_0 a0_1 a0_2 a1 a2) := (spec_l2Holds.T ga0_1 ga0_2 ga1).val hk
theorem spec_l2Holds.fv {a0_0 : Int} {a0_1 : ByteArray} {a0_2 : List (List D)} {a1 : ByteArray} {a2 : Bool} (ga0_1 : a0_1.size ≤ lim) (ga0_2 : SlOk RS lim a0_2) (ga1 : a1.size ≤ lim) {k : Nat} (hk : Fuel k) {β : Type} (K : Bool → Option β) : spec_l2Holds.f k a0_0 a0_1 a0_2 a1 a2 K = K (spec_l2Holds.v a0_0 a0_1 a0_2 a1 a2) := spec_l2Holds.f_of (spec_l2Holds.tv ga0_1 ga0_2 ga1 hk) K
theorem spec_Matches.f_of {β : Type} {k : Nat} {a0 : List (List D)} {a1 : List (List D)} {z0 : Bool} (h : spec_Matches.t k a0 a1 = some z0) (K : Bool → Option β) : spec_Matches.f k a0 a1 K = K z0 := by
  unfold spec_Matches.f
  rw [h]
theorem spec_Matches.tm {ι α : Type} {ok : ι → Prop} {ψ : α → Prop} {p : ι → Nat} (hp : ∀ i, ok i → big ≤ p i) {a0 : List (List D)} {a1 : List (List D)} {φ : Bool → Prop} (h : Tm Fuel (fun k => spec_Matches.t k a0 a1) φ) {G : ι → Bool → Option α} (hG : ∀ z0, φ z0 → Tm ok (fun i => G i z0) ψ) : Tm ok (fun i => spec_Matches.f (p i) a0 a1 (G i)) ψ := by
  obtain ⟨z0, h1, h2⟩ := h
  exact (hG z0 h1).congr fun i hi => spec_Matches.f_of (h2 (p i) (hp i hi)) _
theorem spec_Matches.T {a0 : List (List D)} {a1 : List (List D)} (ga0 : SlOk RISLSE lim a0) (ga1 : SlOk RSS lim a1) : Tm Fuel (fun k => spec_Matches.t k a0 a1) (fun _ => True) := by
  unfold spec_Matches.t spec_Matches.g
  have hm := maxLen_eq
  have hlim : lim = 1048576 := rfl
  have la0 := ga0.1
  have la1 := ga1.1
  refine spec_SelectorOk.tm (fun i hi => hi) (spec_SelectorOk.T (by first | assumption | omega | (simp only [lim, maxLen_eq] at *; omega))) (fun y2 hy1 => ?_)
  refine Tm.ite (fun h3 => ?_) (fun h3 => ?_)
  · try simp only [decide_eq_true_eq, decide_eq_false_iff_not, Int.not_lt, Int.not_le, bne_iff_ne, ne_eq, bne_eq_false_iff_eq, Bool.not_eq_true', Bool.not_eq_false'] at h3
    exact Tm.ret (by trivial)
  · try simp only [decide_eq_true_eq, decide_eq_false_iff_not, Int.not_lt, Int.not_le, bne_iff_ne, ne_eq, bne_eq_false_iff_eq, Bool.not_eq_true', Bool.not_eq_false'] at h3
    refine spec_LabelsOk.tm (fun i hi => hi) (spec_LabelsOk.T (by first | assumption | omega | (simp only [lim, maxLen_eq] at *; omega))) (fun y5 hy4 => ?_)
    refine Tm.ite (fun h6 => ?_) (fun h6 => ?_)
    · try simp only [decide_eq_true_eq, decide_eq_false_iff_not, Int.not_lt, Int.not_le, bne_iff_ne, ne_eq, bne_eq_false_iff_eq, Bool.not_eq_true', Bool.not_eq_false'] at h6
      exact Tm.ret (by trivial)
    · try simp only [decide_eq_true_eq, decide_eq_false_iff_not, Int.not_lt, Int.not_le, bne_iff_ne, ne_eq, bne_eq_false_iff_eq, Bool.not_eq_true', Bool.not_eq_false'] at h6
      refine Tm.loop (okk := Fuel) (p := fun k => k) (fun i hi => hi) (b := fun k => spec_Matches.l0 k a0 a1 (fun z0 => some z0)) (fun i => (((a0.length : Int)) - i).toNat) (fun i => 0 ≤ i ∧ i ≤ (a0.length : Int)) ?_ ?_ ?_
      · rintro i hI
        try simp only [] at hI ⊢
        have : big = 2 ^ 100 := rfl
        omega
      · ((try simp only []); omega)
      · rintro i hI L hL
        try simp only [] at hI
        obtain ⟨i0, i1⟩ := hI
        simp only [spec_Matches.l0]
        refine Tm.ite (fun h7 => ?_) (fun h7 => ?_)
        · try simp only [decide_eq_true_eq, decide_eq_false_iff_not, Int.not_lt, Int.not_le, bne_iff_ne, ne_eq, bne_eq_false_iff_eq, Bool.not_eq_true', Bool.not_eq_false'] at h7
          refine Tm.atRow (by first | assumption | omega | (simp only [lim, maxLen_eq] at *; omega)) (by first | assumption | omega | (simp only [lim, maxLen_eq] at *; omega)) (fun x8 hx9 hm10 => ?_)
          obtain ⟨c11, c12, c13, rfl, g14, g15, g16, _⟩ := ga0.2 x8 hm10
          refine Tm.uncons ?_
          refine Tm.dInt ?_
          refine Tm.uncons ?_
          refine Tm.dStr ?_
          refine Tm.uncons ?_
          refine Tm.dSl ?_
          refine Tm.atEnd ?_
          refine spec_LabelGet.tm (fun i hi => hi.1) (spec_LabelGet.T (by first | assumption | omega | (simp only [lim, maxLen_eq] at *; omega)) (by first | assumption | omega | (simp only [lim, maxLen_eq] at *; omega))) (fun y18 y19 hy17 => ?_)
          try simp only [] at hy17
          refine Tm.atRow (by first | assumption | omega | (simp only [lim, maxLen_eq] at *; omega)) (by first | assumption | omega | (simp only [lim, maxLen_eq] at *; omega)) (fun x20 hx21 hm22 => ?_)
          rw [hx9] at hx21
          injection hx21 with hx21
          subst hx21
          refine Tm.uncons ?_
          refine Tm.dInt ?_
          refine Tm.uncons ?_
          refine Tm.dStr ?_
          refine Tm.uncons ?_
          refine Tm.dSl ?_
          refine Tm.atEnd ?_
          refine spec_l2Holds.tm (fun i hi => hi.1) (spec_l2Holds.T (by first | assumption | omega | (simp only [lim, maxLen_eq] at *; omega)) (by first | assumption | omega | (simp only [lim, maxLen_eq] at *; omega)) (by first | assumption | omega | (simp only [lim, maxLen_eq] at *; omega))) (fun y27 hy26 => ?_)
          refine Tm.ite (fun h28 => ?_) (fun h28 => ?_)
          · try simp only [decide_eq_true_eq, decide_eq_false_iff_not, Int.not_lt, Int.not_le, bne_iff_ne, ne_eq, bne_eq_false_iff_eq, Bool.not_eq_true', Bool.not_eq_false'] at h28
            exact Tm.ret (by trivial)
          · try simp only [decide_eq_true_eq, decide_eq_false_iff_not, Int.not_lt, Int.not_le, bne_iff_ne, ne_eq, bne_eq_false_iff_eq, Bool.not_eq_true', Bool.not_eq_false'] at h28
            try rw [wrap_i64 (x := i + 1) (by omega) (by omega)]
            exact hL ((i + 1)) (by (try simp only []); omega) (by (try simp only []); omega)
        · try simp only [decide_eq_true_eq, decide_eq_false_iff_not, Int.not_lt, Int.not_le, bne_iff_ne, ne_eq, bne_eq_false_iff_eq, Bool.not_eq_true', Bool.not_eq_false'] at h7
          exact Tm.ret (by trivial)
noncomputable def spec_Matches.v (a0 : List (List D)) (a1 : List (List D)) : Bool := (spec_Matches.t big a0 a1).getD default
theorem spec_Matches.tv {a0 : List (List D)} {a1 : List (List D)} (ga0 : SlOk RISLSE lim a0) (ga1 : SlOk RSS lim a1) {k : Nat} (hk : Fuel k) : spec_Matches.t k a0 a1 = some (spec_Matches.v a0 a1) := (spec_Matches.T ga0 ga1).val hk
theorem spec_Matches.fv {a0 : List (List D)} {a1 : List (List D)} (ga0 : SlOk RISLSE lim a0) (ga1 : SlOk RSS lim a1) {k : Nat} (hk : Fuel k) {β : Type} (K : Bool → Option β) : spec_Matches.f k a0 a1 K = K (spec_Matches.v a0 a1) := spec_Matches.f_of (spec_Matches.tv ga0 ga1 hk) K
theorem spec_Eligible.f_of {β : Type} {k : Nat} {a0_0 : Int} {a0_1 : List (List D)} {a0_2 : List (List D)} {a0_3 : List (List D)} {a1_0 : ByteArray} {a1_1 : List (List D)} {a1_2 : List (List D)} {a1_3 : Int} {z0 : Bool} (h : spec_Eligible.t k a0_0 a0_1 a0_2 a0_3 a1_0 a1_1 a1_2 a1_3 = some z0) (K : Bool → Option β) : spec_Eligible.f k a0_0 a0_1 a0_2 a0_3 a1_0 a1_1 a1_2 a1_3 K = K z0 := by
  unfold spec_Eligible.f
  rw [h]
theorem spec_Eligible.tm {ι α : Type} {ok : ι → Prop} {ψ : α → Prop} {p : ι → Nat} (hp : ∀ i, ok i → big ≤ p i) {a0_0 : Int} {a0_1 : List (List D)} {a0_2 : List (List D)} {a0_3 : List (List D)} {a1_0 : ByteArray} {a1_1 : List (List D)} {a1_2 : List (List D)} {a1_3 : Int} {φ : Bool → Prop} (h : Tm Fuel (fun k => spec_Eligible.t k a0_0 a0_1 a0_2 a0_3 a1_0 a1_1 a1_2 a1_3) φ) {G : ι → Bool → Option α} (hG : ∀ z0, φ z0 → Tm ok (fun i => G i z0) ψ) : Tm ok (fun i => spec_Eligible.f (p i) a0_0 a0_1 a0_2 a0_3 a1_0 a1_1 a1_2 a1_3 (G i)) ψ := by
  obtain ⟨z0, h1, h2⟩ := h
  exact (hG z0 h1).congr fun i hi => spec_Eligible.f_of (h2 (p i) (hp i hi)) _
theorem spec_Eligible.T {a0_0 : Int} {a0_1 : List (List D)} {a0_2 : List (List D)} {a0_3 : List (List D)} {a1_0 : ByteArray} {a1_1 : List (List D)} {a1_2 : List (List D)} {a1_3 : Int} (ga0_1 : SlOk RISLSE lim a0_1) (ga0_2 : SlOk RS lim a0_2) (ga0_3 : SlOk RSI lim a0_3) (ga1_0 : a1_0.size ≤ lim) (ga1_1 : SlOk RSS lim a1_1) (ga1_2 : SlOk RS lim a1_2) : Tm Fuel (fun k => spec_Eligible.t k a0_0 a0_1 a0_2 a0_3 a1_0 a1_1 a1_2 a1_3) (fun _ => True) := by
  unfold spec_Eligible.t spec_Eligible.g
  have hm := maxLen_eq
  have hlim : lim = 1048576 := rfl
  have la0_1 := ga0_1.1
  have la0_2 := ga0_2.1
  have la0_3 := ga0_3.1
  have la1_1 := ga1_1.1
  have la1_2 := ga1_2.1
  refine spec_WantOk.tm (fun i hi => hi) (spec_WantOk.T (by first | assumption | omega | (simp only [lim, maxLen_eq] at *; omega)) (by first | assumption | omega | (simp only [lim, maxLen_eq] at *; omega)) (by first | assumption | omega | (simp only [lim, maxLen_eq] at *; omega))) (fun y2 hy1 => ?_)
  refine Tm.ite (fun h3 => ?_) (fun h3 => ?_)
  · try simp only [decide_eq_true_eq, decide_eq_false_iff_not, Int.not_lt, Int.not_le, bne_iff_ne, ne_eq, bne_eq_false_iff_eq, Bool.not_eq_true', Bool.not_eq_false'] at h3
    exact Tm.ret (by trivial)
  · try simp only [decide_eq_true_eq, decide_eq_false_iff_not, Int.not_lt, Int.not_le, bne_iff_ne, ne_eq, bne_eq_false_iff_eq, Bool.not_eq_true', Bool.not_eq_false'] at h3
    refine spec_IslandOk.tm (fun i hi => hi) (spec_IslandOk.T (by first | assumption | omega | (simp only [lim, maxLen_eq] at *; omega)) (by first | assumption | omega | (simp only [lim, maxLen_eq] at *; omega)) (by first | assumption | omega | (simp only [lim, maxLen_eq] at *; omega))) (fun y5 hy4 => ?_)
    refine Tm.ite (fun h6 => ?_) (fun h6 => ?_)
    · try simp only [decide_eq_true_eq, decide_eq_false_iff_not, Int.not_lt, Int.not_le, bne_iff_ne, ne_eq, bne_eq_false_iff_eq, Bool.not_eq_true', Bool.not_eq_false'] at h6
      exact Tm.ret (by trivial)
    · try simp only [decide_eq_true_eq, decide_eq_false_iff_not, Int.not_lt, Int.not_le, bne_iff_ne, ne_eq, bne_eq_false_iff_eq, Bool.not_eq_true', Bool.not_eq_false'] at h6
      refine spec_Matches.tm (fun i hi => hi) (spec_Matches.T (by first | assumption | omega | (simp only [lim, maxLen_eq] at *; omega)) (by first | assumption | omega | (simp only [lim, maxLen_eq] at *; omega))) (fun y8 hy7 => ?_)
      refine Tm.ite (fun h9 => ?_) (fun h9 => ?_)
      · try simp only [decide_eq_true_eq, decide_eq_false_iff_not, Int.not_lt, Int.not_le, bne_iff_ne, ne_eq, bne_eq_false_iff_eq, Bool.not_eq_true', Bool.not_eq_false'] at h9
        exact Tm.ret (by trivial)
      · try simp only [decide_eq_true_eq, decide_eq_false_iff_not, Int.not_lt, Int.not_le, bne_iff_ne, ne_eq, bne_eq_false_iff_eq, Bool.not_eq_true', Bool.not_eq_false'] at h9
        refine Tm.loop (okk := Fuel) (p := fun k => k) (fun i hi => hi) (b := fun k => spec_Eligible.l0 k a0_0 a0_1 a0_2 a0_3 a1_0 a1_1 a1_2 a1_3 (fun z0 => some z0)) (fun i => (((a1_2.length : Int)) - i).toNat) (fun i => 0 ≤ i ∧ i ≤ (a1_2.length : Int)) ?_ ?_ ?_
        · rintro i hI
          try simp only [] at hI ⊢
          have : big = 2 ^ 100 := rfl
          omega
        · ((try simp only []); omega)
        · rintro i hI L hL
          try simp only [] at hI
          obtain ⟨i0, i1⟩ := hI
          simp only [spec_Eligible.l0]
          refine Tm.ite (fun h10 => ?_) (fun h10 => ?_)
          · try simp only [decide_eq_true_eq, decide_eq_false_iff_not, Int.not_lt, Int.not_le, bne_iff_ne, ne_eq, bne_eq_false_iff_eq, Bool.not_eq_true', Bool.not_eq_false'] at h10
            refine Tm.atRow (by first | assumption | omega | (simp only [lim, maxLen_eq] at *; omega)) (by first | assumption | omega | (simp only [lim, maxLen_eq] at *; omega)) (fun x11 hx12 hm13 => ?_)
            obtain ⟨c14, rfl, g15, _⟩ := ga1_2.2 x11 hm13
            refine Tm.uncons ?_
            refine Tm.dStr ?_
            refine Tm.atEnd ?_
            refine spec_l2Among.tm (fun i hi => hi.1) (spec_l2Among.T (by first | assumption | omega | (simp only [lim, maxLen_eq] at *; omega)) (by first | assumption | omega | (simp only [lim, maxLen_eq] at *; omega))) (fun y17 hy16 => ?_)
            refine Tm.ite (fun h18 => ?_) (fun h18 => ?_)
            · try simp only [decide_eq_true_eq, decide_eq_false_iff_not, Int.not_lt, Int.not_le, bne_iff_ne, ne_eq, bne_eq_false_iff_eq, Bool.not_eq_true', Bool.not_eq_false'] at h18
              exact Tm.ret (by trivial)
            · try simp only [decide_eq_true_eq, decide_eq_false_iff_not, Int.not_lt, Int.not_le, bne_iff_ne, ne_eq, bne_eq_false_iff_eq, Bool.not_eq_true', Bool.not_eq_false'] at h18
              try rw [wrap_i64 (x := i + 1) (by omega) (by omega)]
              exact hL ((i + 1)) (by (try simp only []); omega) (by (try simp only []); omega)
          · try simp only [decide_eq_true_eq, decide_eq_false_iff_not, Int.not_lt, Int.not_le, bne_iff_ne, ne_eq, bne_eq_false_iff_eq, Bool.not_eq_true', Bool.not_eq_false'] at h10
            exact Tm.ret (by trivial)
noncomputable def spec_Eligible.v (a0_0 : Int) (a0_1 : List (List D)) (a0_2 : List (List D)) (a0_3 : List (List D)) (a1_0 : ByteArray) (a1_1 : List (List D)) (a1_2 : List (List D)) (a1_3 : Int) : Bool := (spec_Eligible.t big a0_0 a0_1 a0_2 a0_3 a1_0 a1_1 a1_2 a1_3).getD default
theorem spec_Eligible.tv {a0_0 : Int} {a0_1 : List (List D)} {a0_2 : List (List D)} {a0_3 : List (List D)} {a1_0 : ByteArray} {a1_1 : List (List D)} {a1_2 : List (List D)} {a1_3 : Int} (ga0_1 : SlOk RISLSE lim a0_1) (ga0_2 : SlOk RS lim a0_2) (ga0_3 : SlOk RSI lim a0_3) (ga1_0 : a1_0.size ≤ lim) (ga1_1 : SlOk RSS lim a1_1) (ga1_2 : SlOk RS lim a1_2) {k : Nat} (hk : Fuel k) : spec_Eligible.t k a0_0 a0_1 a0_2 a0_3 a1_0 a1_1 a1_2 a1_3 = some (spec_Eligible.v a0_0 a0_1 a0_2 a0_3 a1_0 a1_1 a1_2 a1_3) := (spec_Eligible.T ga0_1 ga0_2 ga0_3 ga1_0 ga1_1 ga1_2).val hk
theorem spec_Eligible.fv {a0_0 : Int} {a0_1 : List (List D)} {a0_2 : List (List D)} {a0_3 : List (List D)} {a1_0 : ByteArray} {a1_1 : List (List D)} {a1_2 : List (List D)} {a1_3 : Int} (ga0_1 : SlOk RISLSE lim a0_1) (ga0_2 : SlOk RS lim a0_2) (ga0_3 : SlOk RSI lim a0_3) (ga1_0 : a1_0.size ≤ lim) (ga1_1 : SlOk RSS lim a1_1) (ga1_2 : SlOk RS lim a1_2) {k : Nat} (hk : Fuel k) {β : Type} (K : Bool → Option β) : spec_Eligible.f k a0_0 a0_1 a0_2 a0_3 a1_0 a1_1 a1_2 a1_3 K = K (spec_Eligible.v a0_0 a0_1 a0_2 a0_3 a1_0 a1_1 a1_2 a1_3) := spec_Eligible.f_of (spec_Eligible.tv ga0_1 ga0_2 ga0_3 ga1_0 ga1_1 ga1_2 hk) K
theorem impl_within.f_of {β : Type} {k : Nat} {a0 : Int} {a1 : Int} {a2 : Int} {z0 : Bool} (h : impl_within.t k a0 a1 a2 = some z0) (K : Bool → Option β) : impl_within.f k a0 a1 a2 K = K z0 := by
  unfold impl_within.f
  rw [h]
theorem impl_within.tm {ι α : Type} {ok : ι → Prop} {ψ : α → Prop} {p : ι → Nat} (hp : ∀ i, ok i → big ≤ p i) {a0 : Int} {a1 : Int} {a2 : Int} {φ : Bool → Prop} (h : Tm Fuel (fun k => impl_within.t k a0 a1 a2) φ) {G : ι → Bool → Option α} (hG : ∀ z0, φ z0 → Tm ok (fun i => G i z0) ψ) : Tm ok (fun i => impl_within.f (p i) a0 a1 a2 (G i)) ψ := by
  obtain ⟨z0, h1, h2⟩ := h
  exact (hG z0 h1).congr fun i hi => impl_within.f_of (h2 (p i) (hp i hi)) _
theorem impl_NameOk.f_of {β : Type} {k : Nat} {a0 : ByteArray} {z0 : Bool} (h : impl_NameOk.t k a0 = some z0) (K : Bool → Option β) : impl_NameOk.f k a0 K = K z0 := by
  unfold impl_NameOk.f
  rw [h]
theorem impl_NameOk.tm {ι α : Type} {ok : ι → Prop} {ψ : α → Prop} {p : ι → Nat} (hp : ∀ i, ok i → big ≤ p i) {a0 : ByteArray} {φ : Bool → Prop} (h : Tm Fuel (fun k => impl_NameOk.t k a0) φ) {G : ι → Bool → Option α} (hG : ∀ z0, φ z0 → Tm ok (fun i => G i z0) ψ) : Tm ok (fun i => impl_NameOk.f (p i) a0 (G i)) ψ := by
  obtain ⟨z0, h1, h2⟩ := h
  exact (hG z0 h1).congr fun i hi => impl_NameOk.f_of (h2 (p i) (hp i hi)) _
theorem l1In_f {β : Type} {k : Nat} {a b c : Int} (K : Bool → Option β) : spec_l1In.f k a b c K = K (decide (b ≤ a) && decide (a ≤ c)) := by
  refine spec_l1In.f_of ?_ K
  unfold spec_l1In.t spec_l1In.g
  by_cases h : b ≤ a <;> simp [h]
theorem within_f {β : Type} {k : Nat} {a b c : Int} (K : Bool → Option β) : impl_within.f k a b c K = K (decide (b ≤ a) && decide (a ≤ c)) := by
  refine impl_within.f_of ?_ K
  unfold impl_within.t impl_within.g
  by_cases h : b ≤ a <;> simp [h]
theorem impl_NameOk.same {k : Nat} {a : ByteArray} : impl_NameOk.t k a = spec_NameOk.t k a := by
  unfold impl_NameOk.t spec_NameOk.t impl_NameOk.g spec_NameOk.g
  congr 1
  funext L v
  simp only [impl_NameOk.l0, spec_NameOk.l0, l1In_f, within_f]
  refine bif_congr (fun _ => ?_) (fun _ => rfl)
  unfold atStr
  split
  · split
    · rename_i b _
      have hb : b.toNat < 256 := b.toNat_lt
      simp only []
      rw [wrap_i64 (x := (b.toNat : Int)) (by omega) (by omega)]
      generalize (b.toNat : Int) = x
      by_cases h1 : x < 97 <;> by_cases h2 : x < 48 <;> by_cases h3 : x > 57 <;> by_cases h4 : x > 122 <;> simp [h1, h2, h3, h4] <;> (try omega) <;> grind
    · rfl
  · rfl

theorem impl_NameOk_f {β : Type} {k : Nat} {a : ByteArray} (K : Bool → Option β) : impl_NameOk.f k a K = spec_NameOk.f k a K := by
  unfold impl_NameOk.f spec_NameOk.f
  rw [impl_NameOk.same]

theorem impl_isCopies.f_of {β : Type} {k : Nat} {a0 : Int} {z0 : Bool} (h : impl_isCopies.t k a0 = some z0) (K : Bool → Option β) : impl_isCopies.f k a0 K = K z0 := by
  unfold impl_isCopies.f
  rw [h]
theorem impl_isCopies.tm {ι α : Type} {ok : ι → Prop} {ψ : α → Prop} {p : ι → Nat} (hp : ∀ i, ok i → big ≤ p i) {a0 : Int} {φ : Bool → Prop} (h : Tm Fuel (fun k => impl_isCopies.t k a0) φ) {G : ι → Bool → Option α} (hG : ∀ z0, φ z0 → Tm ok (fun i => G i z0) ψ) : Tm ok (fun i => impl_isCopies.f (p i) a0 (G i)) ψ := by
  obtain ⟨z0, h1, h2⟩ := h
  exact (hG z0 h1).congr fun i hi => impl_isCopies.f_of (h2 (p i) (hp i hi)) _
theorem isCopies_f {β : Type} {k : Nat} {a : Int} (K : Bool → Option β) : impl_isCopies.f k a K = K (decide (0 ≤ a) && decide (a ≤ 10000)) := by
  refine impl_isCopies.f_of ?_ K
  unfold impl_isCopies.t impl_isCopies.g
  rw [within_f]

theorem impl_namesOk.f_of {β : Type} {k : Nat} {a0 : List (List D)} {a1 : Int} {z0 : Bool} (h : impl_namesOk.t k a0 a1 = some z0) (K : Bool → Option β) : impl_namesOk.f k a0 a1 K = K z0 := by
  unfold impl_namesOk.f
  rw [h]
theorem impl_namesOk.tm {ι α : Type} {ok : ι → Prop} {ψ : α → Prop} {p : ι → Nat} (hp : ∀ i, ok i → big ≤ p i) {a0 : List (List D)} {a1 : Int} {φ : Bool → Prop} (h : Tm Fuel (fun k => impl_namesOk.t k a0 a1) φ) {G : ι → Bool → Option α} (hG : ∀ z0, φ z0 → Tm ok (fun i => G i z0) ψ) : Tm ok (fun i => impl_namesOk.f (p i) a0 a1 (G i)) ψ := by
  obtain ⟨z0, h1, h2⟩ := h
  exact (hG z0 h1).congr fun i hi => impl_namesOk.f_of (h2 (p i) (hp i hi)) _
theorem impl_namesOk.same {k : Nat} {a : List (List D)} {n : Int} (g : SlOk RS lim a) : impl_namesOk.t k a n = spec_l10Names.t k a n := by
  unfold impl_namesOk.t spec_l10Names.t impl_namesOk.g spec_l10Names.g
  congr 1
  funext L v
  simp only [impl_namesOk.l0, spec_l10Names.l0, impl_NameOk_f]
  refine bif_congr (fun h => ?_) (fun _ => rfl)
  by_cases h0 : 0 ≤ v ∧ v < a.length
  · have hl : v.toNat < a.length := by omega
    obtain ⟨s0, hs, _⟩ := g.2 _ (List.getElem_mem hl)
    have hr := fun F => atRow_get (β := Bool) h0.1 (by rw [← hs]; simp [hl] : a[v.toNat]? = some [.str s0]) F
    simp only [hr, uncons, dStr, atEnd]
  · simp only [atRow_none h0]

theorem impl_termOk.f_of {β : Type} {k : Nat} {a0_0 : Int} {a0_1 : ByteArray} {a0_2 : List (List D)} {z0 : Bool} (h : impl_termOk.t k a0_0 a0_1 a0_2 = some z0) (K : Bool → Option β) : impl_termOk.f k a0_0 a0_1 a0_2 K = K z0 := by
  unfold impl_termOk.f
  rw [h]
theorem impl_termOk.tm {ι α : Type} {ok : ι → Prop} {ψ : α → Prop} {p : ι → Nat} (hp : ∀ i, ok i → big ≤ p i) {a0_0 : Int} {a0_1 : ByteArray} {a0_2 : List (List D)} {φ : Bool → Prop} (h : Tm Fuel (fun k => impl_termOk.t k a0_0 a0_1 a0_2) φ) {G : ι → Bool → Option α} (hG : ∀ z0, φ z0 → Tm ok (fun i => G i z0) ψ) : Tm ok (fun i => impl_termOk.f (p i) a0_0 a0_1 a0_2 (G i)) ψ := by
  obtain ⟨z0, h1, h2⟩ := h
  exact (hG z0 h1).congr fun i hi => impl_termOk.f_of (h2 (p i) (hp i hi)) _
theorem impl_SelectorOk_1.f_of {β : Type} {k : Nat} {a0_0 : Int} {a0_1 : ByteArray} {a0_2 : List (List D)} {z0 : Bool} (h : impl_SelectorOk_1.t k a0_0 a0_1 a0_2 = some z0) (K : Bool → Option β) : impl_SelectorOk_1.f k a0_0 a0_1 a0_2 K = K z0 := by
  unfold impl_SelectorOk_1.f
  rw [h]
theorem impl_SelectorOk_1.tm {ι α : Type} {ok : ι → Prop} {ψ : α → Prop} {p : ι → Nat} (hp : ∀ i, ok i → big ≤ p i) {a0_0 : Int} {a0_1 : ByteArray} {a0_2 : List (List D)} {φ : Bool → Prop} (h : Tm Fuel (fun k => impl_SelectorOk_1.t k a0_0 a0_1 a0_2) φ) {G : ι → Bool → Option α} (hG : ∀ z0, φ z0 → Tm ok (fun i => G i z0) ψ) : Tm ok (fun i => impl_SelectorOk_1.f (p i) a0_0 a0_1 a0_2 (G i)) ψ := by
  obtain ⟨z0, h1, h2⟩ := h
  exact (hG z0 h1).congr fun i hi => impl_SelectorOk_1.f_of (h2 (p i) (hp i hi)) _
theorem slices_IndexFunc_impl_Term__impl_SelectorOk_1.f_of {β : Type} {k : Nat} {a0 : List (List D)} {z0 : Int} (h : slices_IndexFunc_impl_Term__impl_SelectorOk_1.t k a0 = some z0) (K : Int → Option β) : slices_IndexFunc_impl_Term__impl_SelectorOk_1.f k a0 K = K z0 := by
  unfold slices_IndexFunc_impl_Term__impl_SelectorOk_1.f
  rw [h]
theorem slices_IndexFunc_impl_Term__impl_SelectorOk_1.tm {ι α : Type} {ok : ι → Prop} {ψ : α → Prop} {p : ι → Nat} (hp : ∀ i, ok i → big ≤ p i) {a0 : List (List D)} {φ : Int → Prop} (h : Tm Fuel (fun k => slices_IndexFunc_impl_Term__impl_SelectorOk_1.t k a0) φ) {G : ι → Int → Option α} (hG : ∀ z0, φ z0 → Tm ok (fun i => G i z0) ψ) : Tm ok (fun i => slices_IndexFunc_impl_Term__impl_SelectorOk_1.f (p i) a0 (G i)) ψ := by
  obtain ⟨z0, h1, h2⟩ := h
  exact (hG z0 h1).congr fun i hi => slices_IndexFunc_impl_Term__impl_SelectorOk_1.f_of (h2 (p i) (hp i hi)) _
theorem slices_ContainsFunc_impl_Term__impl_SelectorOk_1.f_of {β : Type} {k : Nat} {a0 : List (List D)} {z0 : Bool} (h : slices_ContainsFunc_impl_Term__impl_SelectorOk_1.t k a0 = some z0) (K : Bool → Option β) : slices_ContainsFunc_impl_Term__impl_SelectorOk_1.f k a0 K = K z0 := by
  unfold slices_ContainsFunc_impl_Term__impl_SelectorOk_1.f
  rw [h]
theorem slices_ContainsFunc_impl_Term__impl_SelectorOk_1.tm {ι α : Type} {ok : ι → Prop} {ψ : α → Prop} {p : ι → Nat} (hp : ∀ i, ok i → big ≤ p i) {a0 : List (List D)} {φ : Bool → Prop} (h : Tm Fuel (fun k => slices_ContainsFunc_impl_Term__impl_SelectorOk_1.t k a0) φ) {G : ι → Bool → Option α} (hG : ∀ z0, φ z0 → Tm ok (fun i => G i z0) ψ) : Tm ok (fun i => slices_ContainsFunc_impl_Term__impl_SelectorOk_1.f (p i) a0 (G i)) ψ := by
  obtain ⟨z0, h1, h2⟩ := h
  exact (hG z0 h1).congr fun i hi => slices_ContainsFunc_impl_Term__impl_SelectorOk_1.f_of (h2 (p i) (hp i hi)) _
theorem impl_SelectorOk.f_of {β : Type} {k : Nat} {a0 : List (List D)} {z0 : Bool} (h : impl_SelectorOk.t k a0 = some z0) (K : Bool → Option β) : impl_SelectorOk.f k a0 K = K z0 := by
  unfold impl_SelectorOk.f
  rw [h]
theorem impl_SelectorOk.tm {ι α : Type} {ok : ι → Prop} {ψ : α → Prop} {p : ι → Nat} (hp : ∀ i, ok i → big ≤ p i) {a0 : List (List D)} {φ : Bool → Prop} (h : Tm Fuel (fun k => impl_SelectorOk.t k a0) φ) {G : ι → Bool → Option α} (hG : ∀ z0, φ z0 → Tm ok (fun i => G i z0) ψ) : Tm ok (fun i => impl_SelectorOk.f (p i) a0 (G i)) ψ := by
  obtain ⟨z0, h1, h2⟩ := h
  exact (hG z0 h1).congr fun i hi => impl_SelectorOk.f_of (h2 (p i) (hp i hi)) _
noncomputable def namesB (xs : List (List D)) : Bool := (List.range xs.length).all fun i => spec_NameOk.v (gS xs (i : Int) 0) && (!decide ((i : Int) > 0) || strLt (gS xs ((i : Int) - 1) 0) (gS xs (i : Int) 0))
theorem l10Names_v {a : List (List D)} {n : Int} (g : SlOk RS lim a) {k : Nat} (hk : Fuel k) : spec_l10Names.t k a n = some (namesB a && decide ((a.length : Int) ≤ n)) := by
  have hl := g.1
  have hlim : lim = 1048576 := rfl
  have hb : big = 2 ^ 100 := rfl
  unfold spec_l10Names.t spec_l10Names.g
  rw [iter_all0 (n := a.length) (fun i => spec_NameOk.v (gS a (i : Int) 0) && (!decide ((i : Int) > 0) || strLt (gS a ((i : Int) - 1) 0) (gS a (i : Int) 0))) (r1 := some false) (r2 := some (decide ((a.length : Int) ≤ n))) (by unfold Fuel at hk; omega)]
  · unfold namesB
    generalize List.all _ _ = x
    cases x <;> rfl
  · intro L i hi
    have k0 := (RS.get g (v := (i : Int)) (by omega) (by omega)).2.1
    simp (disch := omega) only [spec_l10Names.l0, dec_true (show (i : Int) < a.length by omega), cond_true, RS.row g, uncons_at, dStr_at, atEnd_at, spec_NameOk.fv k0 hk, wrap_i64]
    by_cases h0 : (i : Int) > 0
    · simp (disch := omega) only [dec_true h0, cond_true, RS.row g, uncons_at, dStr_at, atEnd_at]
      cases spec_NameOk.v (gS a (i : Int) 0) <;> cases strLt (gS a ((i : Int) - 1) 0) (gS a (i : Int) 0) <;> rfl
    · simp only [dec_false h0, cond_false]
      cases spec_NameOk.v (gS a (i : Int) 0) <;> rfl
  · intro L
    simp [spec_l10Names.l0]
theorem kinds (n : Int) : n = 1 ∨ n = 2 ∨ n = 3 ∨ n = 4 ∨ n = 5 ∨ ((n == 1) = false ∧ (n == 2) = false ∧ (n == 3) = false ∧ (n == 4) = false ∧ (n == 5) = false) := by
  simp only [beq_eq_false_iff_ne]
  omega
theorem lens (n : Int) (h : 0 ≤ n) : n = 0 ∨ n = 1 ∨ ((n == 0) = false ∧ (n == 1) = false ∧ 1 ≤ n) := by
  simp only [beq_eq_false_iff_ne]
  omega
noncomputable def termB (kind : Int) (key : ByteArray) (vals : List (List D)) : Bool :=
  namesB vals && spec_NameOk.v key && ((kind == 1 || kind == 2) && (vals.length : Int) == 1 || kind == 3 && (decide ((vals.length : Int) ≥ 1) && decide ((vals.length : Int) ≤ 6)) || (kind == 4 || kind == 5) && (vals.length : Int) == 0)
theorem l2Term_v {kind : Int} {key : ByteArray} {vals : List (List D)} (gk : key.size ≤ lim) (g : SlOk RS lim vals) {k : Nat} (hk : Fuel k) : spec_l2Term.t k kind key vals = some (termB kind key vals) := by
  have hl := g.1
  have hlim : lim = 1048576 := rfl
  have hb : big = 2 ^ 100 := rfl
  unfold spec_l2Term.t spec_l2Term.g
  rw [iter_all0 (n := vals.length) (fun i => spec_NameOk.v (gS vals (i : Int) 0) && (!decide ((i : Int) > 0) || strLt (gS vals ((i : Int) - 1) 0) (gS vals (i : Int) 0))) (r1 := some false)
    (r2 := some (spec_NameOk.v key && ((kind == 1 || kind == 2) && (vals.length : Int) == 1 || kind == 3 && (decide ((vals.length : Int) ≥ 1) && decide ((vals.length : Int) ≤ 6)) || (kind == 4 || kind == 5) && (vals.length : Int) == 0))) (by unfold Fuel at hk; omega)]
  · unfold termB namesB
    generalize List.all _ _ = x
    cases x
    · rfl
    · simp
  · intro L i hi
    have k0 := (RS.get g (v := (i : Int)) (by omega) (by omega)).2.1
    simp (disch := omega) only [spec_l2Term.l0, dec_true (show (i : Int) < vals.length by omega), cond_true, RS.row g, uncons_at, dStr_at, atEnd_at, spec_NameOk.fv k0 hk, wrap_i64]
    by_cases h0 : (i : Int) > 0
    · simp (disch := omega) only [dec_true h0, cond_true, RS.row g, uncons_at, dStr_at, atEnd_at]
      cases spec_NameOk.v (gS vals (i : Int) 0) <;> cases strLt (gS vals ((i : Int) - 1) 0) (gS vals (i : Int) 0) <;> rfl
    · simp only [dec_false h0, cond_false]
      cases spec_NameOk.v (gS vals (i : Int) 0) <;> rfl
  · intro L
    simp only [spec_l2Term.l0, dec_false (show ¬ (vals.length : Int) < vals.length by omega), cond_false, spec_NameOk.fv gk hk, l1In_f, ge_iff_le]
    cases spec_NameOk.v key
    · rfl
    · rcases kinds kind with rfl | rfl | rfl | rfl | rfl | ⟨e1, e2, e3, e4, e5⟩
      all_goals first | (simp only [e1, e2, e3, e4, e5]; simp; done) | (by_cases h7 : 1 ≤ (vals.length : Int) <;> simp [h7]; done)
theorem namesOk_fv {a : List (List D)} {n : Int} (g : SlOk RS lim a) {k : Nat} (hk : Fuel k) {β : Type} (K : Bool → Option β) : impl_namesOk.f k a n K = K (namesB a && decide ((a.length : Int) ≤ n)) :=
  impl_namesOk.f_of ((impl_namesOk.same g).trans (l10Names_v g hk)) K
theorem termOk_v {kind : Int} {key : ByteArray} {vals : List (List D)} (gk : key.size ≤ lim) (g : SlOk RS lim vals) {k : Nat} (hk : Fuel k) : impl_termOk.t k kind key vals = some (termB kind key vals) := by
  unfold impl_termOk.t impl_termOk.g termB
  simp only [impl_NameOk_f, spec_NameOk.fv gk hk, namesOk_fv g hk]
  rcases kinds kind with rfl | rfl | rfl | rfl | rfl | ⟨e1, e2, e3, e4, e5⟩
  all_goals cases spec_NameOk.v key <;> cases namesB vals <;> rcases lens (vals.length : Int) (by omega) with h7 | h7 | ⟨h7, h8, h9⟩ <;> (try simp only [e1, e2, e3, e4, e5]) <;> (first | (simp [h7]; done) | simp [h7, h8, h9])
noncomputable def termsB (a : List (List D)) : Bool := (List.range a.length).all fun i => termB (gI a (i : Int) 0) (gS a (i : Int) 1) (gL a (i : Int) 2)
theorem SelectorOk_v {a : List (List D)} (g : SlOk RISLSE lim a) {k : Nat} (hk : Fuel k) : spec_SelectorOk.t k a = some (termsB a && decide ((a.length : Int) ≤ 8)) := by
  have hl := g.1
  have hlim : lim = 1048576 := rfl
  have hb : big = 2 ^ 100 := rfl
  unfold spec_SelectorOk.t spec_SelectorOk.g
  rw [iter_all0 (n := a.length) (fun i => termB (gI a (i : Int) 0) (gS a (i : Int) 1) (gL a (i : Int) 2)) (r1 := some false) (r2 := some (decide ((a.length : Int) ≤ 8))) (by unfold Fuel at hk; omega)]
  · unfold termsB
    generalize List.all _ _ = x
    cases x <;> rfl
  · intro L i hi
    obtain ⟨-, k0, k1, k2, -⟩ := RISLSE.get g (v := (i : Int)) (by omega) (by omega)
    simp (disch := omega) only [spec_SelectorOk.l0, dec_true (show (i : Int) < a.length by omega), cond_true, RISLSE.row g, uncons_at, dStr_at, dInt_self, dSl_at, atEnd_at, spec_l2Term.f_of (l2Term_v k1 k2 hk), wrap_i64]
    cases termB (gI a (i : Int) 0) (gS a (i : Int) 1) (gL a (i : Int) 2) <;> rfl
  · intro L
    simp [spec_SelectorOk.l0]
theorem SelectorOk_impl {a : List (List D)} (g : SlOk RISLSE lim a) {k : Nat} (hk : Fuel k) : impl_SelectorOk.t k a = some (termsB a && decide ((a.length : Int) ≤ 8)) := by
  have hl := g.1
  have hlim : lim = 1048576 := rfl
  have hb : big = 2 ^ 100 := rfl
  have hf : ∀ {β : Type} (K : Int → Option β), slices_IndexFunc_impl_Term__impl_SelectorOk_1.f k a K = K (findI (fun i => !termB (gI a (i : Int) 0) (gS a (i : Int) 1) (gL a (i : Int) 2)) a.length) := fun K => slices_IndexFunc_impl_Term__impl_SelectorOk_1.f_of (by
    unfold slices_IndexFunc_impl_Term__impl_SelectorOk_1.t slices_IndexFunc_impl_Term__impl_SelectorOk_1.g
    refine iter_findI (n := a.length) _ some (by unfold Fuel at hk; omega) (fun L i hi => ?_) (fun L => by simp [slices_IndexFunc_impl_Term__impl_SelectorOk_1.l0])
    obtain ⟨-, k0, k1, k2, -⟩ := RISLSE.get g (v := (i : Int)) (by omega) (by omega)
    have hs : ∀ {β : Type} (K : Bool → Option β), impl_SelectorOk_1.f k (gI a (i : Int) 0) (gS a (i : Int) 1) (gL a (i : Int) 2) K = K (!termB (gI a (i : Int) 0) (gS a (i : Int) 1) (gL a (i : Int) 2)) := fun K => impl_SelectorOk_1.f_of (by unfold impl_SelectorOk_1.t impl_SelectorOk_1.g; rw [impl_termOk.f_of (termOk_v k1 k2 hk)]) K
    simp (disch := omega) only [slices_IndexFunc_impl_Term__impl_SelectorOk_1.l0, dec_true (show (i : Int) < a.length by omega), cond_true, RISLSE.row g, uncons_at, dStr_at, dInt_self, dSl_at, atEnd_at, hs, wrap_i64]) K
  unfold impl_SelectorOk.t impl_SelectorOk.g
  have hc : ∀ {β : Type} (K : Bool → Option β), slices_ContainsFunc_impl_Term__impl_SelectorOk_1.f k a K = K (!termsB a) := fun K => slices_ContainsFunc_impl_Term__impl_SelectorOk_1.f_of (by
    unfold slices_ContainsFunc_impl_Term__impl_SelectorOk_1.t slices_ContainsFunc_impl_Term__impl_SelectorOk_1.g
    rw [hf, findI_all]
    simp only [Bool.not_not, termsB]) K
  rw [hc]
  by_cases h8 : (a.length : Int) ≤ 8 <;> simp [h8]
theorem impl_SelectorOk_f {a : List (List D)} (g : SlOk RISLSE lim a) {k : Nat} (hk : Fuel k) {β : Type} (K : Bool → Option β) : impl_SelectorOk.f k a K = spec_SelectorOk.f k a K := by
  rw [impl_SelectorOk.f_of (SelectorOk_impl g hk), spec_SelectorOk.f_of (SelectorOk_v g hk)]

theorem impl_WantOk.f_of {β : Type} {k : Nat} {a0_0 : Int} {a0_1 : List (List D)} {a0_2 : List (List D)} {a0_3 : List (List D)} {z0 : Bool} (h : impl_WantOk.t k a0_0 a0_1 a0_2 a0_3 = some z0) (K : Bool → Option β) : impl_WantOk.f k a0_0 a0_1 a0_2 a0_3 K = K z0 := by
  unfold impl_WantOk.f
  rw [h]
theorem impl_WantOk.tm {ι α : Type} {ok : ι → Prop} {ψ : α → Prop} {p : ι → Nat} (hp : ∀ i, ok i → big ≤ p i) {a0_0 : Int} {a0_1 : List (List D)} {a0_2 : List (List D)} {a0_3 : List (List D)} {φ : Bool → Prop} (h : Tm Fuel (fun k => impl_WantOk.t k a0_0 a0_1 a0_2 a0_3) φ) {G : ι → Bool → Option α} (hG : ∀ z0, φ z0 → Tm ok (fun i => G i z0) ψ) : Tm ok (fun i => impl_WantOk.f (p i) a0_0 a0_1 a0_2 a0_3 (G i)) ψ := by
  obtain ⟨z0, h1, h2⟩ := h
  exact (hG z0 h1).congr fun i hi => impl_WantOk.f_of (h2 (p i) (hp i hi)) _
theorem impl_WantOk.same {a0_0 : Int} {a0_1 a0_2 a0_3 : List (List D)} (g0 : SlOk RISLSE lim a0_1) (g1 : SlOk RS lim a0_2) (g2 : SlOk RSI lim a0_3) {k : Nat} (hk : Fuel k) : impl_WantOk.t k a0_0 a0_1 a0_2 a0_3 = spec_WantOk.t k a0_0 a0_1 a0_2 a0_3 := by
  have hl := g2.1
  have hlim : lim = 1048576 := rfl
  unfold impl_WantOk.t spec_WantOk.t impl_WantOk.g spec_WantOk.g
  congr 1
  funext L v
  simp only [impl_WantOk.l0, spec_WantOk.l0, impl_NameOk_f, within_f, l1In_f, isCopies_f, impl_SelectorOk_f g0 hk]
  refine bif_congr (fun h => ?_) (fun _ => ?_)
  · by_cases h0 : 0 ≤ v ∧ v < a0_3.length
    · obtain ⟨h0, h1⟩ := h0
      simp (disch := omega) only [RSI.row g2, uncons_at, dStr_at, dInt_self, atEnd_at]
    · simp only [atRow_none h0]
  · unfold impl_namesOk.f spec_l10Names.f
    simp only [impl_namesOk.same g1]

theorem impl_LabelsOk.f_of {β : Type} {k : Nat} {a0 : List (List D)} {z0 : Bool} (h : impl_LabelsOk.t k a0 = some z0) (K : Bool → Option β) : impl_LabelsOk.f k a0 K = K z0 := by
  unfold impl_LabelsOk.f
  rw [h]
theorem impl_LabelsOk.tm {ι α : Type} {ok : ι → Prop} {ψ : α → Prop} {p : ι → Nat} (hp : ∀ i, ok i → big ≤ p i) {a0 : List (List D)} {φ : Bool → Prop} (h : Tm Fuel (fun k => impl_LabelsOk.t k a0) φ) {G : ι → Bool → Option α} (hG : ∀ z0, φ z0 → Tm ok (fun i => G i z0) ψ) : Tm ok (fun i => impl_LabelsOk.f (p i) a0 (G i)) ψ := by
  obtain ⟨z0, h1, h2⟩ := h
  exact (hG z0 h1).congr fun i hi => impl_LabelsOk.f_of (h2 (p i) (hp i hi)) _
theorem impl_LabelsOk.same {k : Nat} {a : List (List D)} (g : SlOk RSS lim a) : impl_LabelsOk.t k a = spec_LabelsOk.t k a := by
  unfold impl_LabelsOk.t spec_LabelsOk.t impl_LabelsOk.g spec_LabelsOk.g
  congr 1
  funext L v
  simp only [impl_LabelsOk.l0, spec_LabelsOk.l0, impl_NameOk_f]
  refine bif_congr (fun h => ?_) (fun _ => rfl)
  by_cases h0 : 0 ≤ v ∧ v < a.length
  · have hl : v.toNat < a.length := by omega
    obtain ⟨s0, s1, hs, _⟩ := g.2 _ (List.getElem_mem hl)
    have hr := fun F => atRow_get (β := Bool) h0.1 (by rw [← hs]; simp [hl] : a[v.toNat]? = some [.str s0, .str s1]) F
    simp only [hr, uncons, dStr, atEnd]
  · simp only [atRow_none h0]

theorem impl_IslandOk.f_of {β : Type} {k : Nat} {a0_0 : ByteArray} {a0_1 : List (List D)} {a0_2 : List (List D)} {a0_3 : Int} {z0 : Bool} (h : impl_IslandOk.t k a0_0 a0_1 a0_2 a0_3 = some z0) (K : Bool → Option β) : impl_IslandOk.f k a0_0 a0_1 a0_2 a0_3 K = K z0 := by
  unfold impl_IslandOk.f
  rw [h]
theorem impl_IslandOk.tm {ι α : Type} {ok : ι → Prop} {ψ : α → Prop} {p : ι → Nat} (hp : ∀ i, ok i → big ≤ p i) {a0_0 : ByteArray} {a0_1 : List (List D)} {a0_2 : List (List D)} {a0_3 : Int} {φ : Bool → Prop} (h : Tm Fuel (fun k => impl_IslandOk.t k a0_0 a0_1 a0_2 a0_3) φ) {G : ι → Bool → Option α} (hG : ∀ z0, φ z0 → Tm ok (fun i => G i z0) ψ) : Tm ok (fun i => impl_IslandOk.f (p i) a0_0 a0_1 a0_2 a0_3 (G i)) ψ := by
  obtain ⟨z0, h1, h2⟩ := h
  exact (hG z0 h1).congr fun i hi => impl_IslandOk.f_of (h2 (p i) (hp i hi)) _
theorem impl_IslandOk.same {a0_0 : ByteArray} {a0_1 a0_2 : List (List D)} {a0_3 : Int} (g0 : a0_0.size ≤ lim) (g1 : SlOk RSS lim a0_1) (g2 : SlOk RS lim a0_2) {k : Nat} (hk : Fuel k) : impl_IslandOk.t k a0_0 a0_1 a0_2 a0_3 = spec_IslandOk.t k a0_0 a0_1 a0_2 a0_3 := by
  unfold impl_IslandOk.t spec_IslandOk.t impl_IslandOk.g spec_IslandOk.g impl_LabelsOk.f spec_LabelsOk.f impl_namesOk.f spec_l10Names.f
  simp only [impl_NameOk_f, impl_LabelsOk.same g1, impl_namesOk.same g2, isCopies_f, l1In_f]

theorem impl_LabelGet.f_of {β : Type} {k : Nat} {a0 : List (List D)} {a1 : ByteArray} {z0 : ByteArray} {z1 : Bool} (h : impl_LabelGet.t k a0 a1 = some (z0, z1)) (K : ByteArray → Bool → Option β) : impl_LabelGet.f k a0 a1 K = K z0 z1 := by
  unfold impl_LabelGet.f
  rw [h]
theorem impl_LabelGet.tm {ι α : Type} {ok : ι → Prop} {ψ : α → Prop} {p : ι → Nat} (hp : ∀ i, ok i → big ≤ p i) {a0 : List (List D)} {a1 : ByteArray} {φ : ByteArray × Bool → Prop} (h : Tm Fuel (fun k => impl_LabelGet.t k a0 a1) φ) {G : ι → ByteArray → Bool → Option α} (hG : ∀ z0 z1, φ (z0, z1) → Tm ok (fun i => G i z0 z1) ψ) : Tm ok (fun i => impl_LabelGet.f (p i) a0 a1 (G i)) ψ := by
  obtain ⟨⟨z0, z1⟩, h1, h2⟩ := h
  exact (hG z0 z1 h1).congr fun i hi => impl_LabelGet.f_of (h2 (p i) (hp i hi)) _
theorem slices_Index_string.f_of {β : Type} {k : Nat} {a0 : List (List D)} {a1 : ByteArray} {z0 : Int} (h : slices_Index_string.t k a0 a1 = some z0) (K : Int → Option β) : slices_Index_string.f k a0 a1 K = K z0 := by
  unfold slices_Index_string.f
  rw [h]
theorem slices_Index_string.tm {ι α : Type} {ok : ι → Prop} {ψ : α → Prop} {p : ι → Nat} (hp : ∀ i, ok i → big ≤ p i) {a0 : List (List D)} {a1 : ByteArray} {φ : Int → Prop} (h : Tm Fuel (fun k => slices_Index_string.t k a0 a1) φ) {G : ι → Int → Option α} (hG : ∀ z0, φ z0 → Tm ok (fun i => G i z0) ψ) : Tm ok (fun i => slices_Index_string.f (p i) a0 a1 (G i)) ψ := by
  obtain ⟨z0, h1, h2⟩ := h
  exact (hG z0 h1).congr fun i hi => slices_Index_string.f_of (h2 (p i) (hp i hi)) _
theorem slices_Index_string.T {a0 : List (List D)} {a1 : ByteArray} (ga0 : SlOk RS lim a0) (ga1 : a1.size ≤ lim) : Tm Fuel (fun k => slices_Index_string.t k a0 a1) (fun _ => True) := by
  unfold slices_Index_string.t slices_Index_string.g
  have hm := maxLen_eq
  have hlim : lim = 1048576 := rfl
  have la0 := ga0.1
  refine Tm.loop (okk := Fuel) (p := fun k => k) (fun i hi => hi) (b := fun k => slices_Index_string.l0 k a0 a1 (a0.length : Int) (fun z0 => some z0)) (fun i => (((a0.length : Int)) - i).toNat) (fun i => 0 ≤ i ∧ i ≤ (a0.length : Int)) ?_ ?_ ?_
  · rintro i hI
    try simp only [] at hI ⊢
    have : big = 2 ^ 100 := rfl
    omega
  · ((try simp only []); omega)
  · rintro i hI L hL
    try simp only [] at hI
    obtain ⟨i0, i1⟩ := hI
    simp only [slices_Index_string.l0]
    refine Tm.ite (fun h1 => ?_) (fun h1 => ?_)
    · try simp only [decide_eq_true_eq, decide_eq_false_iff_not, Int.not_lt, Int.not_le, bne_iff_ne, ne_eq, bne_eq_false_iff_eq, Bool.not_eq_true', Bool.not_eq_false'] at h1
      refine Tm.atRow (by first | assumption | omega | (simp only [lim, maxLen_eq] at *; omega)) (by first | assumption | omega | (simp only [lim, maxLen_eq] at *; omega)) (fun x2 hx3 hm4 => ?_)
      obtain ⟨c5, rfl, g6, _⟩ := ga0.2 x2 hm4
      refine Tm.uncons ?_
      refine Tm.dStr ?_
      refine Tm.atEnd ?_
      refine Tm.ite (fun h7 => ?_) (fun h7 => ?_)
      · try simp only [decide_eq_true_eq, decide_eq_false_iff_not, Int.not_lt, Int.not_le, bne_iff_ne, ne_eq, bne_eq_false_iff_eq, Bool.not_eq_true', Bool.not_eq_false'] at h7
        exact Tm.ret (by trivial)
      · try simp only [decide_eq_true_eq, decide_eq_false_iff_not, Int.not_lt, Int.not_le, bne_iff_ne, ne_eq, bne_eq_false_iff_eq, Bool.not_eq_true', Bool.not_eq_false'] at h7
        try rw [wrap_i64 (x := i + 1) (by omega) (by omega)]
        exact hL ((i + 1)) (by (try simp only []); omega) (by (try simp only []); omega)
    · try simp only [decide_eq_true_eq, decide_eq_false_iff_not, Int.not_lt, Int.not_le, bne_iff_ne, ne_eq, bne_eq_false_iff_eq, Bool.not_eq_true', Bool.not_eq_false'] at h1
      exact Tm.ret (by trivial)
noncomputable def slices_Index_string.v (a0 : List (List D)) (a1 : ByteArray) : Int := (slices_Index_string.t big a0 a1).getD default
theorem slices_Index_string.tv {a0 : List (List D)} {a1 : ByteArray} (ga0 : SlOk RS lim a0) (ga1 : a1.size ≤ lim) {k : Nat} (hk : Fuel k) : slices_Index_string.t k a0 a1 = some (slices_Index_string.v a0 a1) := (slices_Index_string.T ga0 ga1).val hk
theorem slices_Index_string.fv {a0 : List (List D)} {a1 : ByteArray} (ga0 : SlOk RS lim a0) (ga1 : a1.size ≤ lim) {k : Nat} (hk : Fuel k) {β : Type} (K : Int → Option β) : slices_Index_string.f k a0 a1 K = K (slices_Index_string.v a0 a1) := slices_Index_string.f_of (slices_Index_string.tv ga0 ga1 hk) K
theorem slices_Contains_string.f_of {β : Type} {k : Nat} {a0 : List (List D)} {a1 : ByteArray} {z0 : Bool} (h : slices_Contains_string.t k a0 a1 = some z0) (K : Bool → Option β) : slices_Contains_string.f k a0 a1 K = K z0 := by
  unfold slices_Contains_string.f
  rw [h]
theorem slices_Contains_string.tm {ι α : Type} {ok : ι → Prop} {ψ : α → Prop} {p : ι → Nat} (hp : ∀ i, ok i → big ≤ p i) {a0 : List (List D)} {a1 : ByteArray} {φ : Bool → Prop} (h : Tm Fuel (fun k => slices_Contains_string.t k a0 a1) φ) {G : ι → Bool → Option α} (hG : ∀ z0, φ z0 → Tm ok (fun i => G i z0) ψ) : Tm ok (fun i => slices_Contains_string.f (p i) a0 a1 (G i)) ψ := by
  obtain ⟨z0, h1, h2⟩ := h
  exact (hG z0 h1).congr fun i hi => slices_Contains_string.f_of (h2 (p i) (hp i hi)) _
theorem slices_Contains_string.T {a0 : List (List D)} {a1 : ByteArray} (ga0 : SlOk RS lim a0) (ga1 : a1.size ≤ lim) : Tm Fuel (fun k => slices_Contains_string.t k a0 a1) (fun _ => True) := by
  unfold slices_Contains_string.t slices_Contains_string.g
  have hm := maxLen_eq
  have hlim : lim = 1048576 := rfl
  have la0 := ga0.1
  refine slices_Index_string.tm (fun i hi => hi) (slices_Index_string.T (by first | assumption | omega | (simp only [lim, maxLen_eq] at *; omega)) (by first | assumption | omega | (simp only [lim, maxLen_eq] at *; omega))) (fun y2 hy1 => ?_)
  exact Tm.ret (by trivial)
noncomputable def slices_Contains_string.v (a0 : List (List D)) (a1 : ByteArray) : Bool := (slices_Contains_string.t big a0 a1).getD default
theorem slices_Contains_string.tv {a0 : List (List D)} {a1 : ByteArray} (ga0 : SlOk RS lim a0) (ga1 : a1.size ≤ lim) {k : Nat} (hk : Fuel k) : slices_Contains_string.t k a0 a1 = some (slices_Contains_string.v a0 a1) := (slices_Contains_string.T ga0 ga1).val hk
theorem slices_Contains_string.fv {a0 : List (List D)} {a1 : ByteArray} (ga0 : SlOk RS lim a0) (ga1 : a1.size ≤ lim) {k : Nat} (hk : Fuel k) {β : Type} (K : Bool → Option β) : slices_Contains_string.f k a0 a1 K = K (slices_Contains_string.v a0 a1) := slices_Contains_string.f_of (slices_Contains_string.tv ga0 ga1 hk) K
theorem strEq_comm (a b : ByteArray) : strEq a b = strEq b a := by
  unfold strEq
  rw [Bool.eq_iff_iff]
  simp only [beq_iff_eq]
  exact ⟨Eq.symm, Eq.symm⟩
def amongB (xs : List (List D)) (s : ByteArray) : Bool := !(List.range xs.length).all fun i => !strEq (gS xs (i : Int) 0) s
theorem l2Among_fv {a : List (List D)} {s : ByteArray} (g : SlOk RS lim a) {k : Nat} (hk : Fuel k) {β : Type} (K : Bool → Option β) : spec_l2Among.f k a s K = K (amongB a s) := spec_l2Among.f_of (by
  have hl := g.1
  have hlim : lim = 1048576 := rfl
  have hb : big = 2 ^ 100 := rfl
  unfold spec_l2Among.t spec_l2Among.g amongB
  rw [iter_all0 (n := a.length) (fun i => !strEq (gS a (i : Int) 0) s) (r1 := some true) (r2 := some false) (by unfold Fuel at hk; omega)]
  · generalize List.all _ _ = x
    cases x <;> rfl
  · intro L i hi
    simp (disch := omega) only [spec_l2Among.l0, dec_true (show (i : Int) < a.length by omega), cond_true, RS.row g, uncons_at, dStr_at, atEnd_at, wrap_i64]
    cases strEq (gS a (i : Int) 0) s <;> rfl
  · intro L
    simp [spec_l2Among.l0]) K
theorem contains_fv {a : List (List D)} {s : ByteArray} (g : SlOk RS lim a) {k : Nat} (hk : Fuel k) {β : Type} (K : Bool → Option β) : slices_Contains_string.f k a s K = K (amongB a s) := by
  have hl := g.1
  have hlim : lim = 1048576 := rfl
  have hb : big = 2 ^ 100 := rfl
  have hf : ∀ {β : Type} (K : Int → Option β), slices_Index_string.f k a s K = K (findI (fun i => strEq (gS a (i : Int) 0) s) a.length) := fun K => slices_Index_string.f_of (by
    unfold slices_Index_string.t slices_Index_string.g
    refine iter_findI (n := a.length) _ some (by unfold Fuel at hk; omega) (fun L i hi => ?_) (fun L => by simp [slices_Index_string.l0])
    simp (disch := omega) only [slices_Index_string.l0, dec_true (show (i : Int) < a.length by omega), cond_true, RS.row g, uncons_at, dStr_at, atEnd_at, wrap_i64]
    rw [strEq_comm]) K
  refine slices_Contains_string.f_of ?_ K
  unfold slices_Contains_string.t slices_Contains_string.g
  rw [hf, findI_all]
  rfl

theorem impl_holds.f_of {β : Type} {k : Nat} {a0_0 : Int} {a0_1 : ByteArray} {a0_2 : List (List D)} {a1 : List (List D)} {z0 : Bool} (h : impl_holds.t k a0_0 a0_1 a0_2 a1 = some z0) (K : Bool → Option β) : impl_holds.f k a0_0 a0_1 a0_2 a1 K = K z0 := by
  unfold impl_holds.f
  rw [h]
theorem impl_holds.tm {ι α : Type} {ok : ι → Prop} {ψ : α → Prop} {p : ι → Nat} (hp : ∀ i, ok i → big ≤ p i) {a0_0 : Int} {a0_1 : ByteArray} {a0_2 : List (List D)} {a1 : List (List D)} {φ : Bool → Prop} (h : Tm Fuel (fun k => impl_holds.t k a0_0 a0_1 a0_2 a1) φ) {G : ι → Bool → Option α} (hG : ∀ z0, φ z0 → Tm ok (fun i => G i z0) ψ) : Tm ok (fun i => impl_holds.f (p i) a0_0 a0_1 a0_2 a1 (G i)) ψ := by
  obtain ⟨z0, h1, h2⟩ := h
  exact (hG z0 h1).congr fun i hi => impl_holds.f_of (h2 (p i) (hp i hi)) _
theorem impl_Matches_1.f_of {β : Type} {k : Nat} {a0_0 : Int} {a0_1 : ByteArray} {a0_2 : List (List D)} {f0_0 : List (List D)} {z0 : Bool} (h : impl_Matches_1.t k a0_0 a0_1 a0_2 f0_0 = some z0) (K : Bool → Option β) : impl_Matches_1.f k a0_0 a0_1 a0_2 f0_0 K = K z0 := by
  unfold impl_Matches_1.f
  rw [h]
theorem impl_Matches_1.tm {ι α : Type} {ok : ι → Prop} {ψ : α → Prop} {p : ι → Nat} (hp : ∀ i, ok i → big ≤ p i) {a0_0 : Int} {a0_1 : ByteArray} {a0_2 : List (List D)} {f0_0 : List (List D)} {φ : Bool → Prop} (h : Tm Fuel (fun k => impl_Matches_1.t k a0_0 a0_1 a0_2 f0_0) φ) {G : ι → Bool → Option α} (hG : ∀ z0, φ z0 → Tm ok (fun i => G i z0) ψ) : Tm ok (fun i => impl_Matches_1.f (p i) a0_0 a0_1 a0_2 f0_0 (G i)) ψ := by
  obtain ⟨z0, h1, h2⟩ := h
  exact (hG z0 h1).congr fun i hi => impl_Matches_1.f_of (h2 (p i) (hp i hi)) _
theorem slices_IndexFunc_impl_Term__impl_Matches_1.f_of {β : Type} {k : Nat} {a0 : List (List D)} {a1_0_0 : List (List D)} {z0 : Int} (h : slices_IndexFunc_impl_Term__impl_Matches_1.t k a0 a1_0_0 = some z0) (K : Int → Option β) : slices_IndexFunc_impl_Term__impl_Matches_1.f k a0 a1_0_0 K = K z0 := by
  unfold slices_IndexFunc_impl_Term__impl_Matches_1.f
  rw [h]
theorem slices_IndexFunc_impl_Term__impl_Matches_1.tm {ι α : Type} {ok : ι → Prop} {ψ : α → Prop} {p : ι → Nat} (hp : ∀ i, ok i → big ≤ p i) {a0 : List (List D)} {a1_0_0 : List (List D)} {φ : Int → Prop} (h : Tm Fuel (fun k => slices_IndexFunc_impl_Term__impl_Matches_1.t k a0 a1_0_0) φ) {G : ι → Int → Option α} (hG : ∀ z0, φ z0 → Tm ok (fun i => G i z0) ψ) : Tm ok (fun i => slices_IndexFunc_impl_Term__impl_Matches_1.f (p i) a0 a1_0_0 (G i)) ψ := by
  obtain ⟨z0, h1, h2⟩ := h
  exact (hG z0 h1).congr fun i hi => slices_IndexFunc_impl_Term__impl_Matches_1.f_of (h2 (p i) (hp i hi)) _
theorem slices_ContainsFunc_impl_Term__impl_Matches_1.f_of {β : Type} {k : Nat} {a0 : List (List D)} {a1_0_0 : List (List D)} {z0 : Bool} (h : slices_ContainsFunc_impl_Term__impl_Matches_1.t k a0 a1_0_0 = some z0) (K : Bool → Option β) : slices_ContainsFunc_impl_Term__impl_Matches_1.f k a0 a1_0_0 K = K z0 := by
  unfold slices_ContainsFunc_impl_Term__impl_Matches_1.f
  rw [h]
theorem slices_ContainsFunc_impl_Term__impl_Matches_1.tm {ι α : Type} {ok : ι → Prop} {ψ : α → Prop} {p : ι → Nat} (hp : ∀ i, ok i → big ≤ p i) {a0 : List (List D)} {a1_0_0 : List (List D)} {φ : Bool → Prop} (h : Tm Fuel (fun k => slices_ContainsFunc_impl_Term__impl_Matches_1.t k a0 a1_0_0) φ) {G : ι → Bool → Option α} (hG : ∀ z0, φ z0 → Tm ok (fun i => G i z0) ψ) : Tm ok (fun i => slices_ContainsFunc_impl_Term__impl_Matches_1.f (p i) a0 a1_0_0 (G i)) ψ := by
  obtain ⟨z0, h1, h2⟩ := h
  exact (hG z0 h1).congr fun i hi => slices_ContainsFunc_impl_Term__impl_Matches_1.f_of (h2 (p i) (hp i hi)) _
theorem impl_Matches.f_of {β : Type} {k : Nat} {a0 : List (List D)} {a1 : List (List D)} {z0 : Bool} (h : impl_Matches.t k a0 a1 = some z0) (K : Bool → Option β) : impl_Matches.f k a0 a1 K = K z0 := by
  unfold impl_Matches.f
  rw [h]
theorem impl_Matches.tm {ι α : Type} {ok : ι → Prop} {ψ : α → Prop} {p : ι → Nat} (hp : ∀ i, ok i → big ≤ p i) {a0 : List (List D)} {a1 : List (List D)} {φ : Bool → Prop} (h : Tm Fuel (fun k => impl_Matches.t k a0 a1) φ) {G : ι → Bool → Option α} (hG : ∀ z0, φ z0 → Tm ok (fun i => G i z0) ψ) : Tm ok (fun i => impl_Matches.f (p i) a0 a1 (G i)) ψ := by
  obtain ⟨z0, h1, h2⟩ := h
  exact (hG z0 h1).congr fun i hi => impl_Matches.f_of (h2 (p i) (hp i hi)) _
theorem impl_LabelGet.same {k : Nat} {a : List (List D)} {s : ByteArray} (g : SlOk RSS lim a) : impl_LabelGet.t k a s = spec_LabelGet.t k a s := by
  unfold impl_LabelGet.t spec_LabelGet.t impl_LabelGet.g spec_LabelGet.g
  congr 1
  funext L v
  simp only [impl_LabelGet.l0, spec_LabelGet.l0]
  refine bif_congr (fun h => ?_) (fun _ => rfl)
  by_cases h0 : 0 ≤ v ∧ v < a.length
  · obtain ⟨h0, h1⟩ := h0
    simp (disch := omega) only [RSS.row g, uncons_at, dStr_at, atEnd_at]
  · simp only [atRow_none h0]
theorem impl_LabelGet_fv {a : List (List D)} {s : ByteArray} (g : SlOk RSS lim a) (gs : s.size ≤ lim) {k : Nat} (hk : Fuel k) {β : Type} (K : ByteArray → Bool → Option β) : impl_LabelGet.f k a s K = K (spec_LabelGet.v a s).1 (spec_LabelGet.v a s).2 := by
  rw [← spec_LabelGet.fv g gs hk K]
  unfold impl_LabelGet.f spec_LabelGet.f
  rw [impl_LabelGet.same g]
def holdsB (kind : Int) (vals : List (List D)) (v : ByteArray) (has : Bool) : Bool :=
  bif kind == 1 || kind == 3 then has && amongB vals v else bif kind == 2 then !(has && amongB vals v) else bif kind == 4 then has else !has
theorem l2Holds_fv {kind : Int} {key : ByteArray} {vals : List (List D)} {v : ByteArray} {has : Bool} (g : SlOk RS lim vals) {k : Nat} (hk : Fuel k) {β : Type} (K : Bool → Option β) : spec_l2Holds.f k kind key vals v has K = K (holdsB kind vals v has) := spec_l2Holds.f_of (by
  unfold spec_l2Holds.t spec_l2Holds.g holdsB
  simp only [l2Among_fv g hk]
  rcases kinds kind with rfl | rfl | rfl | rfl | rfl | ⟨e1, e2, e3, e4, e5⟩
  all_goals cases has <;> cases amongB vals v <;> (try simp only [e1, e2, e3, e4, e5]) <;> rfl) K
theorem holds_fv {kind : Int} {key : ByteArray} {vals labels : List (List D)} (gk : key.size ≤ lim) (g : SlOk RS lim vals) (gl : SlOk RSS lim labels) {k : Nat} (hk : Fuel k) {β : Type} (K : Bool → Option β) : impl_holds.f k kind key vals labels K = K (holdsB kind vals (spec_LabelGet.v labels key).1 (spec_LabelGet.v labels key).2) := impl_holds.f_of (by
  unfold impl_holds.t impl_holds.g holdsB
  simp only [contains_fv g hk, impl_LabelGet_fv gl gk hk]
  generalize spec_LabelGet.v labels key = y
  obtain ⟨v, has⟩ := y
  rcases kinds kind with rfl | rfl | rfl | rfl | rfl | ⟨e1, e2, e3, e4, e5⟩
  all_goals cases has <;> cases amongB vals v <;> (try simp only [e1, e2, e3, e4, e5]) <;> rfl) K
noncomputable def matchB (sel labels : List (List D)) : Bool := (List.range sel.length).all fun i => holdsB (gI sel (i : Int) 0) (gL sel (i : Int) 2) (spec_LabelGet.v labels (gS sel (i : Int) 1)).1 (spec_LabelGet.v labels (gS sel (i : Int) 1)).2
theorem LabelsOk_impl_f {a : List (List D)} (g : SlOk RSS lim a) {k : Nat} {β : Type} (K : Bool → Option β) : impl_LabelsOk.f k a K = spec_LabelsOk.f k a K := by
  unfold impl_LabelsOk.f spec_LabelsOk.f
  rw [impl_LabelsOk.same g]
theorem impl_Matches.same {sel labels : List (List D)} (g : SlOk RISLSE lim sel) (gl : SlOk RSS lim labels) {k : Nat} (hk : Fuel k) : impl_Matches.t k sel labels = spec_Matches.t k sel labels := by
  have hl := g.1
  have hlim : lim = 1048576 := rfl
  have hb : big = 2 ^ 100 := rfl
  have hf : ∀ {β : Type} (K : Int → Option β), slices_IndexFunc_impl_Term__impl_Matches_1.f k sel labels K = K (findI (fun i => !holdsB (gI sel (i : Int) 0) (gL sel (i : Int) 2) (spec_LabelGet.v labels (gS sel (i : Int) 1)).1 (spec_LabelGet.v labels (gS sel (i : Int) 1)).2) sel.length) := fun K => slices_IndexFunc_impl_Term__impl_Matches_1.f_of (by
    unfold slices_IndexFunc_impl_Term__impl_Matches_1.t slices_IndexFunc_impl_Term__impl_Matches_1.g
    refine iter_findI (n := sel.length) _ some (by unfold Fuel at hk; omega) (fun L i hi => ?_) (fun L => by simp [slices_IndexFunc_impl_Term__impl_Matches_1.l0])
    obtain ⟨-, k0, k1, k2, -⟩ := RISLSE.get g (v := (i : Int)) (by omega) (by omega)
    have hs : ∀ {β : Type} (K : Bool → Option β), impl_Matches_1.f k (gI sel (i : Int) 0) (gS sel (i : Int) 1) (gL sel (i : Int) 2) labels K = K (!holdsB (gI sel (i : Int) 0) (gL sel (i : Int) 2) (spec_LabelGet.v labels (gS sel (i : Int) 1)).1 (spec_LabelGet.v labels (gS sel (i : Int) 1)).2) := fun K => impl_Matches_1.f_of (by unfold impl_Matches_1.t impl_Matches_1.g; rw [holds_fv k1 k2 gl hk]) K
    simp (disch := omega) only [slices_IndexFunc_impl_Term__impl_Matches_1.l0, dec_true (show (i : Int) < sel.length by omega), cond_true, RISLSE.row g, uncons_at, dStr_at, dInt_self, dSl_at, atEnd_at, hs, wrap_i64]) K
  have hc : ∀ {β : Type} (K : Bool → Option β), slices_ContainsFunc_impl_Term__impl_Matches_1.f k sel labels K = K (!matchB sel labels) := fun K => slices_ContainsFunc_impl_Term__impl_Matches_1.f_of (by
    unfold slices_ContainsFunc_impl_Term__impl_Matches_1.t slices_ContainsFunc_impl_Term__impl_Matches_1.g
    rw [hf, findI_all]
    simp only [Bool.not_not, matchB]) K
  have hi : ∀ {β : Type} (K : Bool → Option β), iter (spec_Matches.l0 k sel labels K) k 0 = K (matchB sel labels) := fun K => by
    rw [iter_all0 (n := sel.length) (fun i => holdsB (gI sel (i : Int) 0) (gL sel (i : Int) 2) (spec_LabelGet.v labels (gS sel (i : Int) 1)).1 (spec_LabelGet.v labels (gS sel (i : Int) 1)).2) (r1 := K false) (r2 := K true) (by unfold Fuel at hk; omega)]
    · unfold matchB
      generalize List.all _ _ = x
      cases x <;> rfl
    · intro L i hi
      obtain ⟨-, k0, k1, k2, -⟩ := RISLSE.get g (v := (i : Int)) (by omega) (by omega)
      simp (disch := omega) only [spec_Matches.l0, dec_true (show (i : Int) < sel.length by omega), cond_true, RISLSE.row g, uncons_at, dStr_at, dInt_self, dSl_at, atEnd_at, spec_LabelGet.fv gl k1 hk, l2Holds_fv k2 hk, wrap_i64]
      generalize holdsB _ _ _ _ = x
      cases x <;> rfl
    · intro L
      simp [spec_Matches.l0]
  unfold impl_Matches.t spec_Matches.t impl_Matches.g spec_Matches.g
  simp only [impl_SelectorOk_f g hk, LabelsOk_impl_f gl, hc, hi]
  rw [spec_SelectorOk.fv g hk, spec_SelectorOk.fv g hk]
  cases spec_SelectorOk.v sel
  · rfl
  · simp only [cond_true, Bool.not_true, cond_false]
    rw [spec_LabelsOk.fv gl hk, spec_LabelsOk.fv gl hk]
    cases spec_LabelsOk.v labels <;> simp
theorem impl_Matches_f {sel labels : List (List D)} (g : SlOk RISLSE lim sel) (gl : SlOk RSS lim labels) {k : Nat} (hk : Fuel k) {β : Type} (K : Bool → Option β) : impl_Matches.f k sel labels K = K (spec_Matches.v sel labels) := by
  rw [← spec_Matches.fv g gl hk K]
  unfold impl_Matches.f spec_Matches.f
  rw [impl_Matches.same g gl hk]

theorem impl_Eligible_1.f_of {β : Type} {k : Nat} {a0 : ByteArray} {f0_0 : Int} {f0_1 : List (List D)} {f0_2 : List (List D)} {f0_3 : List (List D)} {z0 : Bool} (h : impl_Eligible_1.t k a0 f0_0 f0_1 f0_2 f0_3 = some z0) (K : Bool → Option β) : impl_Eligible_1.f k a0 f0_0 f0_1 f0_2 f0_3 K = K z0 := by
  unfold impl_Eligible_1.f
  rw [h]
theorem impl_Eligible_1.tm {ι α : Type} {ok : ι → Prop} {ψ : α → Prop} {p : ι → Nat} (hp : ∀ i, ok i → big ≤ p i) {a0 : ByteArray} {f0_0 : Int} {f0_1 : List (List D)} {f0_2 : List (List D)} {f0_3 : List (List D)} {φ : Bool → Prop} (h : Tm Fuel (fun k => impl_Eligible_1.t k a0 f0_0 f0_1 f0_2 f0_3) φ) {G : ι → Bool → Option α} (hG : ∀ z0, φ z0 → Tm ok (fun i => G i z0) ψ) : Tm ok (fun i => impl_Eligible_1.f (p i) a0 f0_0 f0_1 f0_2 f0_3 (G i)) ψ := by
  obtain ⟨z0, h1, h2⟩ := h
  exact (hG z0 h1).congr fun i hi => impl_Eligible_1.f_of (h2 (p i) (hp i hi)) _
theorem slices_IndexFunc_string__impl_Eligible_1.f_of {β : Type} {k : Nat} {a0 : List (List D)} {a1_0_0 : Int} {a1_0_1 : List (List D)} {a1_0_2 : List (List D)} {a1_0_3 : List (List D)} {z0 : Int} (h : slices_IndexFunc_string__impl_Eligible_1.t k a0 a1_0_0 a1_0_1 a1_0_2 a1_0_3 = some z0) (K : Int → Option β) : slices_IndexFunc_string__impl_Eligible_1.f k a0 a1_0_0 a1_0_1 a1_0_2 a1_0_3 K = K z0 := by
  unfold slices_IndexFunc_string__impl_Eligible_1.f
  rw [h]
theorem slices_IndexFunc_string__impl_Eligible_1.tm {ι α : Type} {ok : ι → Prop} {ψ : α → Prop} {p : ι → Nat} (hp : ∀ i, ok i → big ≤ p i) {a0 : List (List D)} {a1_0_0 : Int} {a1_0_1 : List (List D)} {a1_0_2 : List (List D)} {a1_0_3 : List (List D)} {φ : Int → Prop} (h : Tm Fuel (fun k => slices_IndexFunc_string__impl_Eligible_1.t k a0 a1_0_0 a1_0_1 a1_0_2 a1_0_3) φ) {G : ι → Int → Option α} (hG : ∀ z0, φ z0 → Tm ok (fun i => G i z0) ψ) : Tm ok (fun i => slices_IndexFunc_string__impl_Eligible_1.f (p i) a0 a1_0_0 a1_0_1 a1_0_2 a1_0_3 (G i)) ψ := by
  obtain ⟨z0, h1, h2⟩ := h
  exact (hG z0 h1).congr fun i hi => slices_IndexFunc_string__impl_Eligible_1.f_of (h2 (p i) (hp i hi)) _
theorem slices_ContainsFunc_string__impl_Eligible_1.f_of {β : Type} {k : Nat} {a0 : List (List D)} {a1_0_0 : Int} {a1_0_1 : List (List D)} {a1_0_2 : List (List D)} {a1_0_3 : List (List D)} {z0 : Bool} (h : slices_ContainsFunc_string__impl_Eligible_1.t k a0 a1_0_0 a1_0_1 a1_0_2 a1_0_3 = some z0) (K : Bool → Option β) : slices_ContainsFunc_string__impl_Eligible_1.f k a0 a1_0_0 a1_0_1 a1_0_2 a1_0_3 K = K z0 := by
  unfold slices_ContainsFunc_string__impl_Eligible_1.f
  rw [h]
theorem slices_ContainsFunc_string__impl_Eligible_1.tm {ι α : Type} {ok : ι → Prop} {ψ : α → Prop} {p : ι → Nat} (hp : ∀ i, ok i → big ≤ p i) {a0 : List (List D)} {a1_0_0 : Int} {a1_0_1 : List (List D)} {a1_0_2 : List (List D)} {a1_0_3 : List (List D)} {φ : Bool → Prop} (h : Tm Fuel (fun k => slices_ContainsFunc_string__impl_Eligible_1.t k a0 a1_0_0 a1_0_1 a1_0_2 a1_0_3) φ) {G : ι → Bool → Option α} (hG : ∀ z0, φ z0 → Tm ok (fun i => G i z0) ψ) : Tm ok (fun i => slices_ContainsFunc_string__impl_Eligible_1.f (p i) a0 a1_0_0 a1_0_1 a1_0_2 a1_0_3 (G i)) ψ := by
  obtain ⟨z0, h1, h2⟩ := h
  exact (hG z0 h1).congr fun i hi => slices_ContainsFunc_string__impl_Eligible_1.f_of (h2 (p i) (hp i hi)) _
theorem impl_Eligible.f_of {β : Type} {k : Nat} {a0_0 : Int} {a0_1 : List (List D)} {a0_2 : List (List D)} {a0_3 : List (List D)} {a1_0 : ByteArray} {a1_1 : List (List D)} {a1_2 : List (List D)} {a1_3 : Int} {z0 : Bool} (h : impl_Eligible.t k a0_0 a0_1 a0_2 a0_3 a1_0 a1_1 a1_2 a1_3 = some z0) (K : Bool → Option β) : impl_Eligible.f k a0_0 a0_1 a0_2 a0_3 a1_0 a1_1 a1_2 a1_3 K = K z0 := by
  unfold impl_Eligible.f
  rw [h]
theorem impl_Eligible.tm {ι α : Type} {ok : ι → Prop} {ψ : α → Prop} {p : ι → Nat} (hp : ∀ i, ok i → big ≤ p i) {a0_0 : Int} {a0_1 : List (List D)} {a0_2 : List (List D)} {a0_3 : List (List D)} {a1_0 : ByteArray} {a1_1 : List (List D)} {a1_2 : List (List D)} {a1_3 : Int} {φ : Bool → Prop} (h : Tm Fuel (fun k => impl_Eligible.t k a0_0 a0_1 a0_2 a0_3 a1_0 a1_1 a1_2 a1_3) φ) {G : ι → Bool → Option α} (hG : ∀ z0, φ z0 → Tm ok (fun i => G i z0) ψ) : Tm ok (fun i => impl_Eligible.f (p i) a0_0 a0_1 a0_2 a0_3 a1_0 a1_1 a1_2 a1_3 (G i)) ψ := by
  obtain ⟨z0, h1, h2⟩ := h
  exact (hG z0 h1).congr fun i hi => impl_Eligible.f_of (h2 (p i) (hp i hi)) _
theorem impl_Eligible.same {a0_0 : Int} {a0_1 a0_2 a0_3 : List (List D)} {a1_0 : ByteArray} {a1_1 a1_2 : List (List D)} {a1_3 : Int} (g0 : SlOk RISLSE lim a0_1) (g1 : SlOk RS lim a0_2) (g2 : SlOk RSI lim a0_3) (g3 : a1_0.size ≤ lim) (g4 : SlOk RSS lim a1_1) (g5 : SlOk RS lim a1_2) {k : Nat} (hk : Fuel k) : impl_Eligible.t k a0_0 a0_1 a0_2 a0_3 a1_0 a1_1 a1_2 a1_3 = spec_Eligible.t k a0_0 a0_1 a0_2 a0_3 a1_0 a1_1 a1_2 a1_3 := by
  have hl := g5.1
  have hlim : lim = 1048576 := rfl
  have hb : big = 2 ^ 100 := rfl
  have hf : ∀ {β : Type} (K : Int → Option β), slices_IndexFunc_string__impl_Eligible_1.f k a1_2 a0_0 a0_1 a0_2 a0_3 K = K (findI (fun i => !amongB a0_2 (gS a1_2 (i : Int) 0)) a1_2.length) := fun K => slices_IndexFunc_string__impl_Eligible_1.f_of (by
    unfold slices_IndexFunc_string__impl_Eligible_1.t slices_IndexFunc_string__impl_Eligible_1.g
    refine iter_findI (n := a1_2.length) _ some (by unfold Fuel at hk; omega) (fun L i hi => ?_) (fun L => by simp [slices_IndexFunc_string__impl_Eligible_1.l0])
    have hs : ∀ {β : Type} (K : Bool → Option β), impl_Eligible_1.f k (gS a1_2 (i : Int) 0) a0_0 a0_1 a0_2 a0_3 K = K (!amongB a0_2 (gS a1_2 (i : Int) 0)) := fun K => impl_Eligible_1.f_of (by unfold impl_Eligible_1.t impl_Eligible_1.g; rw [contains_fv g1 hk]) K
    simp (disch := omega) only [slices_IndexFunc_string__impl_Eligible_1.l0, dec_true (show (i : Int) < a1_2.length by omega), cond_true, RS.row g5, uncons_at, dStr_at, atEnd_at, hs, wrap_i64]) K
  have hc : ∀ {β : Type} (K : Bool → Option β), slices_ContainsFunc_string__impl_Eligible_1.f k a1_2 a0_0 a0_1 a0_2 a0_3 K = K (!(List.range a1_2.length).all fun i => amongB a0_2 (gS a1_2 (i : Int) 0)) := fun K => slices_ContainsFunc_string__impl_Eligible_1.f_of (by
    unfold slices_ContainsFunc_string__impl_Eligible_1.t slices_ContainsFunc_string__impl_Eligible_1.g
    rw [hf, findI_all]
    simp only [Bool.not_not]) K
  have hi : ∀ {β : Type} (K : Bool → Option β), iter (spec_Eligible.l0 k a0_0 a0_1 a0_2 a0_3 a1_0 a1_1 a1_2 a1_3 K) k 0 = K ((List.range a1_2.length).all fun i => amongB a0_2 (gS a1_2 (i : Int) 0)) := fun K => by
    rw [iter_all0 (n := a1_2.length) (fun i => amongB a0_2 (gS a1_2 (i : Int) 0)) (r1 := K false) (r2 := K true) (by unfold Fuel at hk; omega)]
    · generalize List.all _ _ = x
      cases x <;> rfl
    · intro L i hi
      simp (disch := omega) only [spec_Eligible.l0, dec_true (show (i : Int) < a1_2.length by omega), cond_true, RS.row g5, uncons_at, dStr_at, atEnd_at, l2Among_fv g1 hk, wrap_i64]
      generalize amongB _ _ = x
      cases x <;> rfl
    · intro L
      simp [spec_Eligible.l0]
  have hw : ∀ {β : Type} (K : Bool → Option β), impl_WantOk.f k a0_0 a0_1 a0_2 a0_3 K = spec_WantOk.f k a0_0 a0_1 a0_2 a0_3 K := fun K => by
    unfold impl_WantOk.f spec_WantOk.f
    rw [impl_WantOk.same g0 g1 g2 hk]
  have hn : ∀ {β : Type} (K : Bool → Option β), impl_IslandOk.f k a1_0 a1_1 a1_2 a1_3 K = spec_IslandOk.f k a1_0 a1_1 a1_2 a1_3 K := fun K => by
    unfold impl_IslandOk.f spec_IslandOk.f
    rw [impl_IslandOk.same g3 g4 g5 hk]
  unfold impl_Eligible.t spec_Eligible.t impl_Eligible.g spec_Eligible.g
  simp only [hw, hn, hc, hi, spec_WantOk.fv g0 g1 g2 hk, spec_IslandOk.fv g3 g4 g5 hk, impl_Matches_f g0 g4 hk, spec_Matches.fv g0 g4 hk]
  cases spec_WantOk.v a0_0 a0_1 a0_2 a0_3 <;> cases spec_IslandOk.v a1_0 a1_1 a1_2 a1_3 <;> cases spec_Matches.v a0_1 a1_1 <;> simp

theorem laws_eqStringS.f_of {β : Type} {k : Nat} {a0 : List (List D)} {a1 : List (List D)} {z0 : Bool} (h : laws_eqStringS.t k a0 a1 = some z0) (K : Bool → Option β) : laws_eqStringS.f k a0 a1 K = K z0 := by
  unfold laws_eqStringS.f
  rw [h]
theorem laws_eqStringS.tm {ι α : Type} {ok : ι → Prop} {ψ : α → Prop} {p : ι → Nat} (hp : ∀ i, ok i → big ≤ p i) {a0 : List (List D)} {a1 : List (List D)} {φ : Bool → Prop} (h : Tm Fuel (fun k => laws_eqStringS.t k a0 a1) φ) {G : ι → Bool → Option α} (hG : ∀ z0, φ z0 → Tm ok (fun i => G i z0) ψ) : Tm ok (fun i => laws_eqStringS.f (p i) a0 a1 (G i)) ψ := by
  obtain ⟨z0, h1, h2⟩ := h
  exact (hG z0 h1).congr fun i hi => laws_eqStringS.f_of (h2 (p i) (hp i hi)) _
theorem laws_eqStringS.T {a0 : List (List D)} (ga0 : SlOk RS lim a0) : Tm Fuel (fun k => laws_eqStringS.t k a0 a0) (fun r => r = true) := by
  unfold laws_eqStringS.t laws_eqStringS.g
  have hm := maxLen_eq
  have hlim : lim = 1048576 := rfl
  have hlen := ga0.1
  refine Tm.ite (fun h1 => ?_) (fun h1 => ?_)
  · try simp only [decide_eq_true_eq, decide_eq_false_iff_not, Int.not_lt, Int.not_le, bne_iff_ne, ne_eq, bne_eq_false_iff_eq, Bool.not_eq_true', Bool.not_eq_false'] at h1
    exact Tm.ret (by first | rfl | (exfalso; simp [strEq_self] at *))
  · try simp only [decide_eq_true_eq, decide_eq_false_iff_not, Int.not_lt, Int.not_le, bne_iff_ne, ne_eq, bne_eq_false_iff_eq, Bool.not_eq_true', Bool.not_eq_false'] at h1
    refine Tm.loop (okk := Fuel) (p := fun k => k) (fun i hi => hi) (b := fun k => laws_eqStringS.l0 k a0 a0 (fun z0 => some z0)) (fun i => (((a0.length : Int)) - i).toNat) (fun i => 0 ≤ i ∧ i ≤ (a0.length : Int)) ?_ ?_ ?_
    · rintro i hI
      try simp only [] at hI ⊢
      have : big = 2 ^ 100 := rfl
      have := ga0.1
      simp only [lim] at this
      omega
    · ((try simp only []); omega)
    · rintro i hI L hL
      try simp only [] at hI
      obtain ⟨i0, i1⟩ := hI
      simp only [laws_eqStringS.l0]
      refine Tm.ite (fun h2 => ?_) (fun h2 => ?_)
      · try simp only [decide_eq_true_eq, decide_eq_false_iff_not, Int.not_lt, Int.not_le, bne_iff_ne, ne_eq, bne_eq_false_iff_eq, Bool.not_eq_true', Bool.not_eq_false'] at h2
        refine Tm.atRow (by first | assumption | omega | (simp only [lim, maxLen_eq] at *; omega)) (by first | assumption | omega | (simp only [lim, maxLen_eq] at *; omega)) (fun x3 hx4 hm5 => ?_)
        obtain ⟨c6, rfl, g7, _⟩ := ga0.2 x3 hm5
        refine Tm.uncons ?_
        refine Tm.dStr ?_
        refine Tm.atEnd ?_
        refine Tm.atRow (by first | assumption | omega | (simp only [lim, maxLen_eq] at *; omega)) (by first | assumption | omega | (simp only [lim, maxLen_eq] at *; omega)) (fun x8 hx9 hm10 => ?_)
        rw [hx4] at hx9
        injection hx9 with hx9
        subst hx9
        refine Tm.uncons ?_
        refine Tm.dStr ?_
        refine Tm.atEnd ?_
        refine Tm.ite (fun h12 => ?_) (fun h12 => ?_)
        · try simp only [decide_eq_true_eq, decide_eq_false_iff_not, Int.not_lt, Int.not_le, bne_iff_ne, ne_eq, bne_eq_false_iff_eq, Bool.not_eq_true', Bool.not_eq_false'] at h12
          exact Tm.ret (by first | rfl | (exfalso; simp [strEq_self] at *))
        · try simp only [decide_eq_true_eq, decide_eq_false_iff_not, Int.not_lt, Int.not_le, bne_iff_ne, ne_eq, bne_eq_false_iff_eq, Bool.not_eq_true', Bool.not_eq_false'] at h12
          try rw [wrap_i64 (x := i + 1) (by omega) (by omega)]
          exact hL ((i + 1)) (by (try simp only []); omega) (by (try simp only []); omega)
      · try simp only [decide_eq_true_eq, decide_eq_false_iff_not, Int.not_lt, Int.not_le, bne_iff_ne, ne_eq, bne_eq_false_iff_eq, Bool.not_eq_true', Bool.not_eq_false'] at h2
        exact Tm.ret (by first | rfl | (exfalso; simp [strEq_self] at *))
theorem laws_eqTerm.f_of {β : Type} {k : Nat} {a0_0 : Int} {a0_1 : ByteArray} {a0_2 : List (List D)} {a1_0 : Int} {a1_1 : ByteArray} {a1_2 : List (List D)} {z0 : Bool} (h : laws_eqTerm.t k a0_0 a0_1 a0_2 a1_0 a1_1 a1_2 = some z0) (K : Bool → Option β) : laws_eqTerm.f k a0_0 a0_1 a0_2 a1_0 a1_1 a1_2 K = K z0 := by
  unfold laws_eqTerm.f
  rw [h]
theorem laws_eqTerm.tm {ι α : Type} {ok : ι → Prop} {ψ : α → Prop} {p : ι → Nat} (hp : ∀ i, ok i → big ≤ p i) {a0_0 : Int} {a0_1 : ByteArray} {a0_2 : List (List D)} {a1_0 : Int} {a1_1 : ByteArray} {a1_2 : List (List D)} {φ : Bool → Prop} (h : Tm Fuel (fun k => laws_eqTerm.t k a0_0 a0_1 a0_2 a1_0 a1_1 a1_2) φ) {G : ι → Bool → Option α} (hG : ∀ z0, φ z0 → Tm ok (fun i => G i z0) ψ) : Tm ok (fun i => laws_eqTerm.f (p i) a0_0 a0_1 a0_2 a1_0 a1_1 a1_2 (G i)) ψ := by
  obtain ⟨z0, h1, h2⟩ := h
  exact (hG z0 h1).congr fun i hi => laws_eqTerm.f_of (h2 (p i) (hp i hi)) _
theorem laws_eqTerm.T {a0_0 : Int} {a0_1 : ByteArray} {a0_2 : List (List D)} (ga0_1 : a0_1.size ≤ lim) (ga0_2 : SlOk RS lim a0_2) : Tm Fuel (fun k => laws_eqTerm.t k a0_0 a0_1 a0_2 a0_0 a0_1 a0_2) (fun r => r = true) := by
  unfold laws_eqTerm.t laws_eqTerm.g
  have hm := maxLen_eq
  have hlim : lim = 1048576 := rfl
  refine Tm.ite (fun h1 => ?_) (fun h1 => ?_)
  · try simp only [decide_eq_true_eq, decide_eq_false_iff_not, Int.not_lt, Int.not_le, bne_iff_ne, ne_eq, bne_eq_false_iff_eq, Bool.not_eq_true', Bool.not_eq_false'] at h1
    exact Tm.ret (by first | rfl | (exfalso; simp [strEq_self] at *))
  · try simp only [decide_eq_true_eq, decide_eq_false_iff_not, Int.not_lt, Int.not_le, bne_iff_ne, ne_eq, bne_eq_false_iff_eq, Bool.not_eq_true', Bool.not_eq_false'] at h1
    refine Tm.ite (fun h2 => ?_) (fun h2 => ?_)
    · try simp only [decide_eq_true_eq, decide_eq_false_iff_not, Int.not_lt, Int.not_le, bne_iff_ne, ne_eq, bne_eq_false_iff_eq, Bool.not_eq_true', Bool.not_eq_false'] at h2
      exact Tm.ret (by first | rfl | (exfalso; simp [strEq_self] at *))
    · try simp only [decide_eq_true_eq, decide_eq_false_iff_not, Int.not_lt, Int.not_le, bne_iff_ne, ne_eq, bne_eq_false_iff_eq, Bool.not_eq_true', Bool.not_eq_false'] at h2
      refine laws_eqStringS.tm (fun i hi => hi) (laws_eqStringS.T (by first | assumption | omega | (simp only [lim, maxLen_eq] at *; omega))) (fun y4 hy3 => ?_)
      subst hy3
      refine Tm.ite (fun h5 => ?_) (fun h5 => ?_)
      · try simp only [decide_eq_true_eq, decide_eq_false_iff_not, Int.not_lt, Int.not_le, bne_iff_ne, ne_eq, bne_eq_false_iff_eq, Bool.not_eq_true', Bool.not_eq_false'] at h5
        exact Tm.ret (by first | rfl | (exfalso; simp [strEq_self] at *))
      · try simp only [decide_eq_true_eq, decide_eq_false_iff_not, Int.not_lt, Int.not_le, bne_iff_ne, ne_eq, bne_eq_false_iff_eq, Bool.not_eq_true', Bool.not_eq_false'] at h5
        exact Tm.ret (by first | rfl | (exfalso; simp [strEq_self] at *))
theorem laws_eqTermS.f_of {β : Type} {k : Nat} {a0 : List (List D)} {a1 : List (List D)} {z0 : Bool} (h : laws_eqTermS.t k a0 a1 = some z0) (K : Bool → Option β) : laws_eqTermS.f k a0 a1 K = K z0 := by
  unfold laws_eqTermS.f
  rw [h]
theorem laws_eqTermS.tm {ι α : Type} {ok : ι → Prop} {ψ : α → Prop} {p : ι → Nat} (hp : ∀ i, ok i → big ≤ p i) {a0 : List (List D)} {a1 : List (List D)} {φ : Bool → Prop} (h : Tm Fuel (fun k => laws_eqTermS.t k a0 a1) φ) {G : ι → Bool → Option α} (hG : ∀ z0, φ z0 → Tm ok (fun i => G i z0) ψ) : Tm ok (fun i => laws_eqTermS.f (p i) a0 a1 (G i)) ψ := by
  obtain ⟨z0, h1, h2⟩ := h
  exact (hG z0 h1).congr fun i hi => laws_eqTermS.f_of (h2 (p i) (hp i hi)) _
theorem laws_eqTermS.T {a0 : List (List D)} (ga0 : SlOk RISLSE lim a0) : Tm Fuel (fun k => laws_eqTermS.t k a0 a0) (fun r => r = true) := by
  unfold laws_eqTermS.t laws_eqTermS.g
  have hm := maxLen_eq
  have hlim : lim = 1048576 := rfl
  have hlen := ga0.1
  refine Tm.ite (fun h1 => ?_) (fun h1 => ?_)
  · try simp only [decide_eq_true_eq, decide_eq_false_iff_not, Int.not_lt, Int.not_le, bne_iff_ne, ne_eq, bne_eq_false_iff_eq, Bool.not_eq_true', Bool.not_eq_false'] at h1
    exact Tm.ret (by first | rfl | (exfalso; simp [strEq_self] at *))
  · try simp only [decide_eq_true_eq, decide_eq_false_iff_not, Int.not_lt, Int.not_le, bne_iff_ne, ne_eq, bne_eq_false_iff_eq, Bool.not_eq_true', Bool.not_eq_false'] at h1
    refine Tm.loop (okk := Fuel) (p := fun k => k) (fun i hi => hi) (b := fun k => laws_eqTermS.l0 k a0 a0 (fun z0 => some z0)) (fun i => (((a0.length : Int)) - i).toNat) (fun i => 0 ≤ i ∧ i ≤ (a0.length : Int)) ?_ ?_ ?_
    · rintro i hI
      try simp only [] at hI ⊢
      have : big = 2 ^ 100 := rfl
      have := ga0.1
      simp only [lim] at this
      omega
    · ((try simp only []); omega)
    · rintro i hI L hL
      try simp only [] at hI
      obtain ⟨i0, i1⟩ := hI
      simp only [laws_eqTermS.l0]
      refine Tm.ite (fun h2 => ?_) (fun h2 => ?_)
      · try simp only [decide_eq_true_eq, decide_eq_false_iff_not, Int.not_lt, Int.not_le, bne_iff_ne, ne_eq, bne_eq_false_iff_eq, Bool.not_eq_true', Bool.not_eq_false'] at h2
        refine Tm.atRow (by first | assumption | omega | (simp only [lim, maxLen_eq] at *; omega)) (by first | assumption | omega | (simp only [lim, maxLen_eq] at *; omega)) (fun x3 hx4 hm5 => ?_)
        obtain ⟨c6, c7, c8, rfl, g9, g10, g11, _⟩ := ga0.2 x3 hm5
        refine Tm.uncons ?_
        refine Tm.dInt ?_
        refine Tm.uncons ?_
        refine Tm.dStr ?_
        refine Tm.uncons ?_
        refine Tm.dSl ?_
        refine Tm.atEnd ?_
        refine Tm.atRow (by first | assumption | omega | (simp only [lim, maxLen_eq] at *; omega)) (by first | assumption | omega | (simp only [lim, maxLen_eq] at *; omega)) (fun x12 hx13 hm14 => ?_)
        rw [hx4] at hx13
        injection hx13 with hx13
        subst hx13
        refine Tm.uncons ?_
        refine Tm.dInt ?_
        refine Tm.uncons ?_
        refine Tm.dStr ?_
        refine Tm.uncons ?_
        refine Tm.dSl ?_
        refine Tm.atEnd ?_
        refine laws_eqTerm.tm (fun i hi => hi.1) (laws_eqTerm.T (by first | assumption | omega | (simp only [lim, maxLen_eq] at *; omega)) (by first | assumption | omega | (simp only [lim, maxLen_eq] at *; omega))) (fun y19 hy18 => ?_)
        subst hy18
        refine Tm.ite (fun h20 => ?_) (fun h20 => ?_)
        · try simp only [decide_eq_true_eq, decide_eq_false_iff_not, Int.not_lt, Int.not_le, bne_iff_ne, ne_eq, bne_eq_false_iff_eq, Bool.not_eq_true', Bool.not_eq_false'] at h20
          exact Tm.ret (by first | rfl | (exfalso; simp [strEq_self] at *))
        · try simp only [decide_eq_true_eq, decide_eq_false_iff_not, Int.not_lt, Int.not_le, bne_iff_ne, ne_eq, bne_eq_false_iff_eq, Bool.not_eq_true', Bool.not_eq_false'] at h20
          try rw [wrap_i64 (x := i + 1) (by omega) (by omega)]
          exact hL ((i + 1)) (by (try simp only []); omega) (by (try simp only []); omega)
      · try simp only [decide_eq_true_eq, decide_eq_false_iff_not, Int.not_lt, Int.not_le, bne_iff_ne, ne_eq, bne_eq_false_iff_eq, Bool.not_eq_true', Bool.not_eq_false'] at h2
        exact Tm.ret (by first | rfl | (exfalso; simp [strEq_self] at *))
theorem laws_eqWeigh.f_of {β : Type} {k : Nat} {a0_0 : ByteArray} {a0_1 : Int} {a1_0 : ByteArray} {a1_1 : Int} {z0 : Bool} (h : laws_eqWeigh.t k a0_0 a0_1 a1_0 a1_1 = some z0) (K : Bool → Option β) : laws_eqWeigh.f k a0_0 a0_1 a1_0 a1_1 K = K z0 := by
  unfold laws_eqWeigh.f
  rw [h]
theorem laws_eqWeigh.tm {ι α : Type} {ok : ι → Prop} {ψ : α → Prop} {p : ι → Nat} (hp : ∀ i, ok i → big ≤ p i) {a0_0 : ByteArray} {a0_1 : Int} {a1_0 : ByteArray} {a1_1 : Int} {φ : Bool → Prop} (h : Tm Fuel (fun k => laws_eqWeigh.t k a0_0 a0_1 a1_0 a1_1) φ) {G : ι → Bool → Option α} (hG : ∀ z0, φ z0 → Tm ok (fun i => G i z0) ψ) : Tm ok (fun i => laws_eqWeigh.f (p i) a0_0 a0_1 a1_0 a1_1 (G i)) ψ := by
  obtain ⟨z0, h1, h2⟩ := h
  exact (hG z0 h1).congr fun i hi => laws_eqWeigh.f_of (h2 (p i) (hp i hi)) _
theorem laws_eqWeigh.T {a0_0 : ByteArray} {a0_1 : Int} (ga0_0 : a0_0.size ≤ lim) : Tm Fuel (fun k => laws_eqWeigh.t k a0_0 a0_1 a0_0 a0_1) (fun r => r = true) := by
  unfold laws_eqWeigh.t laws_eqWeigh.g
  have hm := maxLen_eq
  have hlim : lim = 1048576 := rfl
  refine Tm.ite (fun h1 => ?_) (fun h1 => ?_)
  · try simp only [decide_eq_true_eq, decide_eq_false_iff_not, Int.not_lt, Int.not_le, bne_iff_ne, ne_eq, bne_eq_false_iff_eq, Bool.not_eq_true', Bool.not_eq_false'] at h1
    exact Tm.ret (by first | rfl | (exfalso; simp [strEq_self] at *))
  · try simp only [decide_eq_true_eq, decide_eq_false_iff_not, Int.not_lt, Int.not_le, bne_iff_ne, ne_eq, bne_eq_false_iff_eq, Bool.not_eq_true', Bool.not_eq_false'] at h1
    refine Tm.ite (fun h2 => ?_) (fun h2 => ?_)
    · try simp only [decide_eq_true_eq, decide_eq_false_iff_not, Int.not_lt, Int.not_le, bne_iff_ne, ne_eq, bne_eq_false_iff_eq, Bool.not_eq_true', Bool.not_eq_false'] at h2
      exact Tm.ret (by first | rfl | (exfalso; simp [strEq_self] at *))
    · try simp only [decide_eq_true_eq, decide_eq_false_iff_not, Int.not_lt, Int.not_le, bne_iff_ne, ne_eq, bne_eq_false_iff_eq, Bool.not_eq_true', Bool.not_eq_false'] at h2
      exact Tm.ret (by first | rfl | (exfalso; simp [strEq_self] at *))
theorem laws_eqWeighS.f_of {β : Type} {k : Nat} {a0 : List (List D)} {a1 : List (List D)} {z0 : Bool} (h : laws_eqWeighS.t k a0 a1 = some z0) (K : Bool → Option β) : laws_eqWeighS.f k a0 a1 K = K z0 := by
  unfold laws_eqWeighS.f
  rw [h]
theorem laws_eqWeighS.tm {ι α : Type} {ok : ι → Prop} {ψ : α → Prop} {p : ι → Nat} (hp : ∀ i, ok i → big ≤ p i) {a0 : List (List D)} {a1 : List (List D)} {φ : Bool → Prop} (h : Tm Fuel (fun k => laws_eqWeighS.t k a0 a1) φ) {G : ι → Bool → Option α} (hG : ∀ z0, φ z0 → Tm ok (fun i => G i z0) ψ) : Tm ok (fun i => laws_eqWeighS.f (p i) a0 a1 (G i)) ψ := by
  obtain ⟨z0, h1, h2⟩ := h
  exact (hG z0 h1).congr fun i hi => laws_eqWeighS.f_of (h2 (p i) (hp i hi)) _
theorem laws_eqWeighS.T {a0 : List (List D)} (ga0 : SlOk RSI lim a0) : Tm Fuel (fun k => laws_eqWeighS.t k a0 a0) (fun r => r = true) := by
  unfold laws_eqWeighS.t laws_eqWeighS.g
  have hm := maxLen_eq
  have hlim : lim = 1048576 := rfl
  have hlen := ga0.1
  refine Tm.ite (fun h1 => ?_) (fun h1 => ?_)
  · try simp only [decide_eq_true_eq, decide_eq_false_iff_not, Int.not_lt, Int.not_le, bne_iff_ne, ne_eq, bne_eq_false_iff_eq, Bool.not_eq_true', Bool.not_eq_false'] at h1
    exact Tm.ret (by first | rfl | (exfalso; simp [strEq_self] at *))
  · try simp only [decide_eq_true_eq, decide_eq_false_iff_not, Int.not_lt, Int.not_le, bne_iff_ne, ne_eq, bne_eq_false_iff_eq, Bool.not_eq_true', Bool.not_eq_false'] at h1
    refine Tm.loop (okk := Fuel) (p := fun k => k) (fun i hi => hi) (b := fun k => laws_eqWeighS.l0 k a0 a0 (fun z0 => some z0)) (fun i => (((a0.length : Int)) - i).toNat) (fun i => 0 ≤ i ∧ i ≤ (a0.length : Int)) ?_ ?_ ?_
    · rintro i hI
      try simp only [] at hI ⊢
      have : big = 2 ^ 100 := rfl
      have := ga0.1
      simp only [lim] at this
      omega
    · ((try simp only []); omega)
    · rintro i hI L hL
      try simp only [] at hI
      obtain ⟨i0, i1⟩ := hI
      simp only [laws_eqWeighS.l0]
      refine Tm.ite (fun h2 => ?_) (fun h2 => ?_)
      · try simp only [decide_eq_true_eq, decide_eq_false_iff_not, Int.not_lt, Int.not_le, bne_iff_ne, ne_eq, bne_eq_false_iff_eq, Bool.not_eq_true', Bool.not_eq_false'] at h2
        refine Tm.atRow (by first | assumption | omega | (simp only [lim, maxLen_eq] at *; omega)) (by first | assumption | omega | (simp only [lim, maxLen_eq] at *; omega)) (fun x3 hx4 hm5 => ?_)
        obtain ⟨c6, c7, rfl, g8, g9, _⟩ := ga0.2 x3 hm5
        refine Tm.uncons ?_
        refine Tm.dStr ?_
        refine Tm.uncons ?_
        refine Tm.dInt ?_
        refine Tm.atEnd ?_
        refine Tm.atRow (by first | assumption | omega | (simp only [lim, maxLen_eq] at *; omega)) (by first | assumption | omega | (simp only [lim, maxLen_eq] at *; omega)) (fun x10 hx11 hm12 => ?_)
        rw [hx4] at hx11
        injection hx11 with hx11
        subst hx11
        refine Tm.uncons ?_
        refine Tm.dStr ?_
        refine Tm.uncons ?_
        refine Tm.dInt ?_
        refine Tm.atEnd ?_
        refine laws_eqWeigh.tm (fun i hi => hi.1) (laws_eqWeigh.T (by first | assumption | omega | (simp only [lim, maxLen_eq] at *; omega))) (fun y16 hy15 => ?_)
        subst hy15
        refine Tm.ite (fun h17 => ?_) (fun h17 => ?_)
        · try simp only [decide_eq_true_eq, decide_eq_false_iff_not, Int.not_lt, Int.not_le, bne_iff_ne, ne_eq, bne_eq_false_iff_eq, Bool.not_eq_true', Bool.not_eq_false'] at h17
          exact Tm.ret (by first | rfl | (exfalso; simp [strEq_self] at *))
        · try simp only [decide_eq_true_eq, decide_eq_false_iff_not, Int.not_lt, Int.not_le, bne_iff_ne, ne_eq, bne_eq_false_iff_eq, Bool.not_eq_true', Bool.not_eq_false'] at h17
          try rw [wrap_i64 (x := i + 1) (by omega) (by omega)]
          exact hL ((i + 1)) (by (try simp only []); omega) (by (try simp only []); omega)
      · try simp only [decide_eq_true_eq, decide_eq_false_iff_not, Int.not_lt, Int.not_le, bne_iff_ne, ne_eq, bne_eq_false_iff_eq, Bool.not_eq_true', Bool.not_eq_false'] at h2
        exact Tm.ret (by first | rfl | (exfalso; simp [strEq_self] at *))
theorem laws_eqWant.f_of {β : Type} {k : Nat} {a0_0 : Int} {a0_1 : List (List D)} {a0_2 : List (List D)} {a0_3 : List (List D)} {a1_0 : Int} {a1_1 : List (List D)} {a1_2 : List (List D)} {a1_3 : List (List D)} {z0 : Bool} (h : laws_eqWant.t k a0_0 a0_1 a0_2 a0_3 a1_0 a1_1 a1_2 a1_3 = some z0) (K : Bool → Option β) : laws_eqWant.f k a0_0 a0_1 a0_2 a0_3 a1_0 a1_1 a1_2 a1_3 K = K z0 := by
  unfold laws_eqWant.f
  rw [h]
theorem laws_eqWant.tm {ι α : Type} {ok : ι → Prop} {ψ : α → Prop} {p : ι → Nat} (hp : ∀ i, ok i → big ≤ p i) {a0_0 : Int} {a0_1 : List (List D)} {a0_2 : List (List D)} {a0_3 : List (List D)} {a1_0 : Int} {a1_1 : List (List D)} {a1_2 : List (List D)} {a1_3 : List (List D)} {φ : Bool → Prop} (h : Tm Fuel (fun k => laws_eqWant.t k a0_0 a0_1 a0_2 a0_3 a1_0 a1_1 a1_2 a1_3) φ) {G : ι → Bool → Option α} (hG : ∀ z0, φ z0 → Tm ok (fun i => G i z0) ψ) : Tm ok (fun i => laws_eqWant.f (p i) a0_0 a0_1 a0_2 a0_3 a1_0 a1_1 a1_2 a1_3 (G i)) ψ := by
  obtain ⟨z0, h1, h2⟩ := h
  exact (hG z0 h1).congr fun i hi => laws_eqWant.f_of (h2 (p i) (hp i hi)) _
theorem laws_eqWant.T {a0_0 : Int} {a0_1 : List (List D)} {a0_2 : List (List D)} {a0_3 : List (List D)} (ga0_1 : SlOk RISLSE lim a0_1) (ga0_2 : SlOk RS lim a0_2) (ga0_3 : SlOk RSI lim a0_3) : Tm Fuel (fun k => laws_eqWant.t k a0_0 a0_1 a0_2 a0_3 a0_0 a0_1 a0_2 a0_3) (fun r => r = true) := by
  unfold laws_eqWant.t laws_eqWant.g
  have hm := maxLen_eq
  have hlim : lim = 1048576 := rfl
  refine Tm.ite (fun h1 => ?_) (fun h1 => ?_)
  · try simp only [decide_eq_true_eq, decide_eq_false_iff_not, Int.not_lt, Int.not_le, bne_iff_ne, ne_eq, bne_eq_false_iff_eq, Bool.not_eq_true', Bool.not_eq_false'] at h1
    exact Tm.ret (by first | rfl | (exfalso; simp [strEq_self] at *))
  · try simp only [decide_eq_true_eq, decide_eq_false_iff_not, Int.not_lt, Int.not_le, bne_iff_ne, ne_eq, bne_eq_false_iff_eq, Bool.not_eq_true', Bool.not_eq_false'] at h1
    refine laws_eqTermS.tm (fun i hi => hi) (laws_eqTermS.T (by first | assumption | omega | (simp only [lim, maxLen_eq] at *; omega))) (fun y3 hy2 => ?_)
    subst hy2
    refine Tm.ite (fun h4 => ?_) (fun h4 => ?_)
    · try simp only [decide_eq_true_eq, decide_eq_false_iff_not, Int.not_lt, Int.not_le, bne_iff_ne, ne_eq, bne_eq_false_iff_eq, Bool.not_eq_true', Bool.not_eq_false'] at h4
      exact Tm.ret (by first | rfl | (exfalso; simp [strEq_self] at *))
    · try simp only [decide_eq_true_eq, decide_eq_false_iff_not, Int.not_lt, Int.not_le, bne_iff_ne, ne_eq, bne_eq_false_iff_eq, Bool.not_eq_true', Bool.not_eq_false'] at h4
      refine laws_eqStringS.tm (fun i hi => hi) (laws_eqStringS.T (by first | assumption | omega | (simp only [lim, maxLen_eq] at *; omega))) (fun y6 hy5 => ?_)
      subst hy5
      refine Tm.ite (fun h7 => ?_) (fun h7 => ?_)
      · try simp only [decide_eq_true_eq, decide_eq_false_iff_not, Int.not_lt, Int.not_le, bne_iff_ne, ne_eq, bne_eq_false_iff_eq, Bool.not_eq_true', Bool.not_eq_false'] at h7
        exact Tm.ret (by first | rfl | (exfalso; simp [strEq_self] at *))
      · try simp only [decide_eq_true_eq, decide_eq_false_iff_not, Int.not_lt, Int.not_le, bne_iff_ne, ne_eq, bne_eq_false_iff_eq, Bool.not_eq_true', Bool.not_eq_false'] at h7
        refine laws_eqWeighS.tm (fun i hi => hi) (laws_eqWeighS.T (by first | assumption | omega | (simp only [lim, maxLen_eq] at *; omega))) (fun y9 hy8 => ?_)
        subst hy8
        refine Tm.ite (fun h10 => ?_) (fun h10 => ?_)
        · try simp only [decide_eq_true_eq, decide_eq_false_iff_not, Int.not_lt, Int.not_le, bne_iff_ne, ne_eq, bne_eq_false_iff_eq, Bool.not_eq_true', Bool.not_eq_false'] at h10
          exact Tm.ret (by first | rfl | (exfalso; simp [strEq_self] at *))
        · try simp only [decide_eq_true_eq, decide_eq_false_iff_not, Int.not_lt, Int.not_le, bne_iff_ne, ne_eq, bne_eq_false_iff_eq, Bool.not_eq_true', Bool.not_eq_false'] at h10
          exact Tm.ret (by first | rfl | (exfalso; simp [strEq_self] at *))
theorem laws_eqLabel.f_of {β : Type} {k : Nat} {a0_0 : ByteArray} {a0_1 : ByteArray} {a1_0 : ByteArray} {a1_1 : ByteArray} {z0 : Bool} (h : laws_eqLabel.t k a0_0 a0_1 a1_0 a1_1 = some z0) (K : Bool → Option β) : laws_eqLabel.f k a0_0 a0_1 a1_0 a1_1 K = K z0 := by
  unfold laws_eqLabel.f
  rw [h]
theorem laws_eqLabel.tm {ι α : Type} {ok : ι → Prop} {ψ : α → Prop} {p : ι → Nat} (hp : ∀ i, ok i → big ≤ p i) {a0_0 : ByteArray} {a0_1 : ByteArray} {a1_0 : ByteArray} {a1_1 : ByteArray} {φ : Bool → Prop} (h : Tm Fuel (fun k => laws_eqLabel.t k a0_0 a0_1 a1_0 a1_1) φ) {G : ι → Bool → Option α} (hG : ∀ z0, φ z0 → Tm ok (fun i => G i z0) ψ) : Tm ok (fun i => laws_eqLabel.f (p i) a0_0 a0_1 a1_0 a1_1 (G i)) ψ := by
  obtain ⟨z0, h1, h2⟩ := h
  exact (hG z0 h1).congr fun i hi => laws_eqLabel.f_of (h2 (p i) (hp i hi)) _
theorem laws_eqLabel.T {a0_0 : ByteArray} {a0_1 : ByteArray} (ga0_0 : a0_0.size ≤ lim) (ga0_1 : a0_1.size ≤ lim) : Tm Fuel (fun k => laws_eqLabel.t k a0_0 a0_1 a0_0 a0_1) (fun r => r = true) := by
  unfold laws_eqLabel.t laws_eqLabel.g
  have hm := maxLen_eq
  have hlim : lim = 1048576 := rfl
  refine Tm.ite (fun h1 => ?_) (fun h1 => ?_)
  · try simp only [decide_eq_true_eq, decide_eq_false_iff_not, Int.not_lt, Int.not_le, bne_iff_ne, ne_eq, bne_eq_false_iff_eq, Bool.not_eq_true', Bool.not_eq_false'] at h1
    exact Tm.ret (by first | rfl | (exfalso; simp [strEq_self] at *))
  · try simp only [decide_eq_true_eq, decide_eq_false_iff_not, Int.not_lt, Int.not_le, bne_iff_ne, ne_eq, bne_eq_false_iff_eq, Bool.not_eq_true', Bool.not_eq_false'] at h1
    refine Tm.ite (fun h2 => ?_) (fun h2 => ?_)
    · try simp only [decide_eq_true_eq, decide_eq_false_iff_not, Int.not_lt, Int.not_le, bne_iff_ne, ne_eq, bne_eq_false_iff_eq, Bool.not_eq_true', Bool.not_eq_false'] at h2
      exact Tm.ret (by first | rfl | (exfalso; simp [strEq_self] at *))
    · try simp only [decide_eq_true_eq, decide_eq_false_iff_not, Int.not_lt, Int.not_le, bne_iff_ne, ne_eq, bne_eq_false_iff_eq, Bool.not_eq_true', Bool.not_eq_false'] at h2
      exact Tm.ret (by first | rfl | (exfalso; simp [strEq_self] at *))
theorem laws_eqLabelS.f_of {β : Type} {k : Nat} {a0 : List (List D)} {a1 : List (List D)} {z0 : Bool} (h : laws_eqLabelS.t k a0 a1 = some z0) (K : Bool → Option β) : laws_eqLabelS.f k a0 a1 K = K z0 := by
  unfold laws_eqLabelS.f
  rw [h]
theorem laws_eqLabelS.tm {ι α : Type} {ok : ι → Prop} {ψ : α → Prop} {p : ι → Nat} (hp : ∀ i, ok i → big ≤ p i) {a0 : List (List D)} {a1 : List (List D)} {φ : Bool → Prop} (h : Tm Fuel (fun k => laws_eqLabelS.t k a0 a1) φ) {G : ι → Bool → Option α} (hG : ∀ z0, φ z0 → Tm ok (fun i => G i z0) ψ) : Tm ok (fun i => laws_eqLabelS.f (p i) a0 a1 (G i)) ψ := by
  obtain ⟨z0, h1, h2⟩ := h
  exact (hG z0 h1).congr fun i hi => laws_eqLabelS.f_of (h2 (p i) (hp i hi)) _
theorem laws_eqLabelS.T {a0 : List (List D)} (ga0 : SlOk RSS lim a0) : Tm Fuel (fun k => laws_eqLabelS.t k a0 a0) (fun r => r = true) := by
  unfold laws_eqLabelS.t laws_eqLabelS.g
  have hm := maxLen_eq
  have hlim : lim = 1048576 := rfl
  have hlen := ga0.1
  refine Tm.ite (fun h1 => ?_) (fun h1 => ?_)
  · try simp only [decide_eq_true_eq, decide_eq_false_iff_not, Int.not_lt, Int.not_le, bne_iff_ne, ne_eq, bne_eq_false_iff_eq, Bool.not_eq_true', Bool.not_eq_false'] at h1
    exact Tm.ret (by first | rfl | (exfalso; simp [strEq_self] at *))
  · try simp only [decide_eq_true_eq, decide_eq_false_iff_not, Int.not_lt, Int.not_le, bne_iff_ne, ne_eq, bne_eq_false_iff_eq, Bool.not_eq_true', Bool.not_eq_false'] at h1
    refine Tm.loop (okk := Fuel) (p := fun k => k) (fun i hi => hi) (b := fun k => laws_eqLabelS.l0 k a0 a0 (fun z0 => some z0)) (fun i => (((a0.length : Int)) - i).toNat) (fun i => 0 ≤ i ∧ i ≤ (a0.length : Int)) ?_ ?_ ?_
    · rintro i hI
      try simp only [] at hI ⊢
      have : big = 2 ^ 100 := rfl
      have := ga0.1
      simp only [lim] at this
      omega
    · ((try simp only []); omega)
    · rintro i hI L hL
      try simp only [] at hI
      obtain ⟨i0, i1⟩ := hI
      simp only [laws_eqLabelS.l0]
      refine Tm.ite (fun h2 => ?_) (fun h2 => ?_)
      · try simp only [decide_eq_true_eq, decide_eq_false_iff_not, Int.not_lt, Int.not_le, bne_iff_ne, ne_eq, bne_eq_false_iff_eq, Bool.not_eq_true', Bool.not_eq_false'] at h2
        refine Tm.atRow (by first | assumption | omega | (simp only [lim, maxLen_eq] at *; omega)) (by first | assumption | omega | (simp only [lim, maxLen_eq] at *; omega)) (fun x3 hx4 hm5 => ?_)
        obtain ⟨c6, c7, rfl, g8, g9, _⟩ := ga0.2 x3 hm5
        refine Tm.uncons ?_
        refine Tm.dStr ?_
        refine Tm.uncons ?_
        refine Tm.dStr ?_
        refine Tm.atEnd ?_
        refine Tm.atRow (by first | assumption | omega | (simp only [lim, maxLen_eq] at *; omega)) (by first | assumption | omega | (simp only [lim, maxLen_eq] at *; omega)) (fun x10 hx11 hm12 => ?_)
        rw [hx4] at hx11
        injection hx11 with hx11
        subst hx11
        refine Tm.uncons ?_
        refine Tm.dStr ?_
        refine Tm.uncons ?_
        refine Tm.dStr ?_
        refine Tm.atEnd ?_
        refine laws_eqLabel.tm (fun i hi => hi.1) (laws_eqLabel.T (by first | assumption | omega | (simp only [lim, maxLen_eq] at *; omega)) (by first | assumption | omega | (simp only [lim, maxLen_eq] at *; omega))) (fun y16 hy15 => ?_)
        subst hy15
        refine Tm.ite (fun h17 => ?_) (fun h17 => ?_)
        · try simp only [decide_eq_true_eq, decide_eq_false_iff_not, Int.not_lt, Int.not_le, bne_iff_ne, ne_eq, bne_eq_false_iff_eq, Bool.not_eq_true', Bool.not_eq_false'] at h17
          exact Tm.ret (by first | rfl | (exfalso; simp [strEq_self] at *))
        · try simp only [decide_eq_true_eq, decide_eq_false_iff_not, Int.not_lt, Int.not_le, bne_iff_ne, ne_eq, bne_eq_false_iff_eq, Bool.not_eq_true', Bool.not_eq_false'] at h17
          try rw [wrap_i64 (x := i + 1) (by omega) (by omega)]
          exact hL ((i + 1)) (by (try simp only []); omega) (by (try simp only []); omega)
      · try simp only [decide_eq_true_eq, decide_eq_false_iff_not, Int.not_lt, Int.not_le, bne_iff_ne, ne_eq, bne_eq_false_iff_eq, Bool.not_eq_true', Bool.not_eq_false'] at h2
        exact Tm.ret (by first | rfl | (exfalso; simp [strEq_self] at *))
theorem laws_eqIsland.f_of {β : Type} {k : Nat} {a0_0 : ByteArray} {a0_1 : List (List D)} {a0_2 : List (List D)} {a0_3 : Int} {a1_0 : ByteArray} {a1_1 : List (List D)} {a1_2 : List (List D)} {a1_3 : Int} {z0 : Bool} (h : laws_eqIsland.t k a0_0 a0_1 a0_2 a0_3 a1_0 a1_1 a1_2 a1_3 = some z0) (K : Bool → Option β) : laws_eqIsland.f k a0_0 a0_1 a0_2 a0_3 a1_0 a1_1 a1_2 a1_3 K = K z0 := by
  unfold laws_eqIsland.f
  rw [h]
theorem laws_eqIsland.tm {ι α : Type} {ok : ι → Prop} {ψ : α → Prop} {p : ι → Nat} (hp : ∀ i, ok i → big ≤ p i) {a0_0 : ByteArray} {a0_1 : List (List D)} {a0_2 : List (List D)} {a0_3 : Int} {a1_0 : ByteArray} {a1_1 : List (List D)} {a1_2 : List (List D)} {a1_3 : Int} {φ : Bool → Prop} (h : Tm Fuel (fun k => laws_eqIsland.t k a0_0 a0_1 a0_2 a0_3 a1_0 a1_1 a1_2 a1_3) φ) {G : ι → Bool → Option α} (hG : ∀ z0, φ z0 → Tm ok (fun i => G i z0) ψ) : Tm ok (fun i => laws_eqIsland.f (p i) a0_0 a0_1 a0_2 a0_3 a1_0 a1_1 a1_2 a1_3 (G i)) ψ := by
  obtain ⟨z0, h1, h2⟩ := h
  exact (hG z0 h1).congr fun i hi => laws_eqIsland.f_of (h2 (p i) (hp i hi)) _
theorem laws_eqIsland.T {a0_0 : ByteArray} {a0_1 : List (List D)} {a0_2 : List (List D)} {a0_3 : Int} (ga0_0 : a0_0.size ≤ lim) (ga0_1 : SlOk RSS lim a0_1) (ga0_2 : SlOk RS lim a0_2) : Tm Fuel (fun k => laws_eqIsland.t k a0_0 a0_1 a0_2 a0_3 a0_0 a0_1 a0_2 a0_3) (fun r => r = true) := by
  unfold laws_eqIsland.t laws_eqIsland.g
  have hm := maxLen_eq
  have hlim : lim = 1048576 := rfl
  refine Tm.ite (fun h1 => ?_) (fun h1 => ?_)
  · try simp only [decide_eq_true_eq, decide_eq_false_iff_not, Int.not_lt, Int.not_le, bne_iff_ne, ne_eq, bne_eq_false_iff_eq, Bool.not_eq_true', Bool.not_eq_false'] at h1
    exact Tm.ret (by first | rfl | (exfalso; simp [strEq_self] at *))
  · try simp only [decide_eq_true_eq, decide_eq_false_iff_not, Int.not_lt, Int.not_le, bne_iff_ne, ne_eq, bne_eq_false_iff_eq, Bool.not_eq_true', Bool.not_eq_false'] at h1
    refine laws_eqLabelS.tm (fun i hi => hi) (laws_eqLabelS.T (by first | assumption | omega | (simp only [lim, maxLen_eq] at *; omega))) (fun y3 hy2 => ?_)
    subst hy2
    refine Tm.ite (fun h4 => ?_) (fun h4 => ?_)
    · try simp only [decide_eq_true_eq, decide_eq_false_iff_not, Int.not_lt, Int.not_le, bne_iff_ne, ne_eq, bne_eq_false_iff_eq, Bool.not_eq_true', Bool.not_eq_false'] at h4
      exact Tm.ret (by first | rfl | (exfalso; simp [strEq_self] at *))
    · try simp only [decide_eq_true_eq, decide_eq_false_iff_not, Int.not_lt, Int.not_le, bne_iff_ne, ne_eq, bne_eq_false_iff_eq, Bool.not_eq_true', Bool.not_eq_false'] at h4
      refine laws_eqStringS.tm (fun i hi => hi) (laws_eqStringS.T (by first | assumption | omega | (simp only [lim, maxLen_eq] at *; omega))) (fun y6 hy5 => ?_)
      subst hy5
      refine Tm.ite (fun h7 => ?_) (fun h7 => ?_)
      · try simp only [decide_eq_true_eq, decide_eq_false_iff_not, Int.not_lt, Int.not_le, bne_iff_ne, ne_eq, bne_eq_false_iff_eq, Bool.not_eq_true', Bool.not_eq_false'] at h7
        exact Tm.ret (by first | rfl | (exfalso; simp [strEq_self] at *))
      · try simp only [decide_eq_true_eq, decide_eq_false_iff_not, Int.not_lt, Int.not_le, bne_iff_ne, ne_eq, bne_eq_false_iff_eq, Bool.not_eq_true', Bool.not_eq_false'] at h7
        refine Tm.ite (fun h8 => ?_) (fun h8 => ?_)
        · try simp only [decide_eq_true_eq, decide_eq_false_iff_not, Int.not_lt, Int.not_le, bne_iff_ne, ne_eq, bne_eq_false_iff_eq, Bool.not_eq_true', Bool.not_eq_false'] at h8
          exact Tm.ret (by first | rfl | (exfalso; simp [strEq_self] at *))
        · try simp only [decide_eq_true_eq, decide_eq_false_iff_not, Int.not_lt, Int.not_le, bne_iff_ne, ne_eq, bne_eq_false_iff_eq, Bool.not_eq_true', Bool.not_eq_false'] at h8
          exact Tm.ret (by first | rfl | (exfalso; simp [strEq_self] at *))
end Go.Proofs.Ytnlhhhkeigjnoaa
