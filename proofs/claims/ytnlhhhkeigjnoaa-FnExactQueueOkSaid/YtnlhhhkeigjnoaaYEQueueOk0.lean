/- Printed, and by hand: the functions that FnExactQueueOk reaches come to their end; the program's answer as the reference's. -/
import Derived.Test.YtnlhhhkeigjnoaaXEQueueOk0
import Derived.KernelRfl
set_option linter.unusedVariables false
set_option linter.unusedSimpArgs false
namespace Go.Proofs.Ytnlhhhkeigjnoaa
open Go Go.T Go.Proofs
theorem kinds (n : Int) : n = 1 ∨ n = 2 ∨ n = 3 ∨ n = 4 ∨ n = 5 ∨ ((n == 1) = false ∧ (n == 2) = false ∧ (n == 3) = false ∧ (n == 4) = false ∧ (n == 5) = false) := by
  simp only [beq_eq_false_iff_ne]
  omega

theorem laws_szItem.f_of {β : Type} {k : Nat} {a0_0 : ByteArray} {a0_1 : Int} {a0_2 : Int} {a1 : Int} {z0 : Int} (h : laws_szItem.t k a0_0 a0_1 a0_2 a1 = some z0) (K : Int → Option β) : laws_szItem.f k a0_0 a0_1 a0_2 a1 K = K z0 := by
  unfold laws_szItem.f
  rw [h]
theorem laws_szItem.tm {ι α : Type} {ok : ι → Prop} {ψ : α → Prop} {p : ι → Nat} {B : Nat} (hp : ∀ i, ok i → B ≤ p i) {a0_0 : ByteArray} {a0_1 : Int} {a0_2 : Int} {a1 : Int} {φ : Int → Prop} (h : Tm (fun k => B ≤ k) (fun k => laws_szItem.t k a0_0 a0_1 a0_2 a1) φ) {G : ι → Int → Option α} (hG : ∀ z0, φ z0 → Tm ok (fun i => G i z0) ψ) : Tm ok (fun i => laws_szItem.f (p i) a0_0 a0_1 a0_2 a1 (G i)) ψ := by
  obtain ⟨z0, h1, h2⟩ := h
  exact (hG z0 h1).congr fun i hi => laws_szItem.f_of (h2 (p i) (hp i hi)) _
theorem laws_szItem.T {a0_0 : ByteArray} {a0_1 : Int} {a0_2 : Int} {a1 : Int} (h0 : 0 ≤ a1) (h1 : a1 ≤ 1048576) (ga0_0 : a0_0.size ≤ maxLen) : Tm Fuel (fun k => laws_szItem.t k a0_0 a0_1 a0_2 a1) (fun r => r < 0 ∨ 0 ≤ r ∧ r ≤ a1 ∧ a0_0.size ≤ lim ∧ True) := by
  unfold laws_szItem.t laws_szItem.g
  have hm := maxLen_eq
  have hlim : lim = 1048576 := rfl
  try rw [wrap_i64 (x := a1 - (a0_0.size : Int)) (by omega) (by omega)]
  refine Tm.ite (fun h1 => ?_) (fun h1 => ?_)
  · try simp only [decide_eq_true_eq, decide_eq_false_iff_not, Int.not_lt, Int.not_le, bne_iff_ne, ne_eq, bne_eq_false_iff_eq, beq_iff_eq, beq_eq_false_iff_ne, Bool.not_eq_true', Bool.not_eq_false'] at h1
    exact Tm.ret (by first | (left; omega) | (right; refine ⟨?_, ?_, ?_, trivial⟩ <;> first | assumption | omega))
  · try simp only [decide_eq_true_eq, decide_eq_false_iff_not, Int.not_lt, Int.not_le, bne_iff_ne, ne_eq, bne_eq_false_iff_eq, beq_iff_eq, beq_eq_false_iff_ne, Bool.not_eq_true', Bool.not_eq_false'] at h1
    exact Tm.ret (by first | (left; omega) | (right; refine ⟨?_, ?_, ?_, trivial⟩ <;> first | assumption | omega))
theorem laws_szItemS.f_of {β : Type} {k : Nat} {a0 : List (List D)} {a1 : Int} {z0 : Int} (h : laws_szItemS.t k a0 a1 = some z0) (K : Int → Option β) : laws_szItemS.f k a0 a1 K = K z0 := by
  unfold laws_szItemS.f
  rw [h]
theorem laws_szItemS.tm {ι α : Type} {ok : ι → Prop} {ψ : α → Prop} {p : ι → Nat} {B : Nat} (hp : ∀ i, ok i → B ≤ p i) {a0 : List (List D)} {a1 : Int} {φ : Int → Prop} (h : Tm (fun k => B ≤ k) (fun k => laws_szItemS.t k a0 a1) φ) {G : ι → Int → Option α} (hG : ∀ z0, φ z0 → Tm ok (fun i => G i z0) ψ) : Tm ok (fun i => laws_szItemS.f (p i) a0 a1 (G i)) ψ := by
  obtain ⟨z0, h1, h2⟩ := h
  exact (hG z0 h1).congr fun i hi => laws_szItemS.f_of (h2 (p i) (hp i hi)) _
def RSII (B : Nat) (r : List D) : Prop := ∃ (c0 : ByteArray) (c1 : Int) (c2 : Int), r = [.str c0, .int .i64 c1, .int .i64 c2] ∧ c0.size ≤ B ∧ (Lit.int .i64 c1).wf = true ∧ (Lit.int .i64 c2).wf = true ∧ True
theorem RSII.open {B : Nat} {r : List D} (h : RSII B r) : ∃ (c0 : ByteArray) (c1 : Int) (c2 : Int), r = [.str c0, .int .i64 c1, .int .i64 c2] ∧ c0.size ≤ B ∧ (Lit.int .i64 c1).wf = true ∧ (Lit.int .i64 c2).wf = true ∧ True := h
theorem RSII.len {B : Nat} {r : List D} (h : RSII B r) : r.length = 3 := by
  obtain ⟨c0, c1, c2, rfl, _⟩ := h.open
  rfl
theorem RSII.gets {B : Nat} {xs : List (List D)} (h : ∀ r ∈ xs, RSII B r) {v : Int} (h0 : 0 ≤ v) (h1 : v < xs.length) : gR xs v = [.str (gS xs v 0), .int .i64 (gI xs v 1), .int .i64 (gI xs v 2)] ∧ (gS xs v 0).size ≤ B ∧ (Lit.int .i64 (gI xs v 1)).wf = true ∧ (Lit.int .i64 (gI xs v 2)).wf = true ∧ True := by
  obtain ⟨c0, c1, c2, e, k0, k1, k2, _⟩ := (h (gR xs v) (gR_mem h0 h1)).open
  unfold gI gS
  rw [e]
  exact ⟨rfl, k0, k1, k2, trivial⟩
theorem RSII.rows {B : Nat} {xs : List (List D)} (h : ∀ r ∈ xs, RSII B r) {v : Int} (h0 : 0 ≤ v) (h1 : v < xs.length) {β : Type} (F : List D → Option β) : atRow xs v F = F [.str (gS xs v 0), .int .i64 (gI xs v 1), .int .i64 (gI xs v 2)] := by
  rw [← (RSII.gets h h0 h1).1]
  exact atRow_gR h0 h1 F
theorem RSII.get {B : Nat} {xs : List (List D)} (h : SlOk RSII B xs) {v : Int} (h0 : 0 ≤ v) (h1 : v < xs.length) : gR xs v = [.str (gS xs v 0), .int .i64 (gI xs v 1), .int .i64 (gI xs v 2)] ∧ (gS xs v 0).size ≤ B ∧ (Lit.int .i64 (gI xs v 1)).wf = true ∧ (Lit.int .i64 (gI xs v 2)).wf = true ∧ True := RSII.gets h.2 h0 h1
theorem RSII.row {B : Nat} {xs : List (List D)} (h : SlOk RSII B xs) {v : Int} (h0 : 0 ≤ v) (h1 : v < xs.length) {β : Type} (F : List D → Option β) : atRow xs v F = F [.str (gS xs v 0), .int .i64 (gI xs v 1), .int .i64 (gI xs v 2)] := RSII.rows h.2 h0 h1 F
theorem laws_szItemS.T {a0 : List (List D)} {a1 : Int} (h0 : 0 ≤ a1) (h1 : a1 ≤ 1048576) (ga0 : SlOk RSII maxLen a0) : Tm Fuel (fun k => laws_szItemS.t k a0 a1) (fun r => r < 0 ∨ 0 ≤ r ∧ r ≤ a1 ∧ SlOk RSII lim a0 ∧ True) := by
  unfold laws_szItemS.t laws_szItemS.g
  have hm := maxLen_eq
  have hlim : lim = 1048576 := rfl
  have hlen := ga0.1
  try rw [wrap_i64 (x := a1 - (a0.length : Int)) (by omega) (by omega)]
  refine Tm.ite (fun h1 => ?_) (fun h1 => ?_)
  · try simp only [decide_eq_true_eq, decide_eq_false_iff_not, Int.not_lt, Int.not_le, bne_iff_ne, ne_eq, bne_eq_false_iff_eq, beq_iff_eq, beq_eq_false_iff_ne, Bool.not_eq_true', Bool.not_eq_false'] at h1
    exact Tm.ret (by first | (left; omega) | (right; refine ⟨?_, ?_, ?_, trivial⟩ <;> first | assumption | omega))
  · try simp only [decide_eq_true_eq, decide_eq_false_iff_not, Int.not_lt, Int.not_le, bne_iff_ne, ne_eq, bne_eq_false_iff_eq, beq_iff_eq, beq_eq_false_iff_ne, Bool.not_eq_true', Bool.not_eq_false'] at h1
    refine Tm.loop (okk := Fuel) (p := fun k => k) (fun i hi => hi) (b := fun k => laws_szItemS.l0 k a0 (fun z0 => some z0)) (fun v => match v with | (u0, i) => (((a0.length : Int)) - i).toNat) (fun v => match v with | (u0, i) => 0 ≤ u0 ∧ u0 ≤ a1 ∧ 0 ≤ i ∧ i ≤ (a0.length : Int) ∧ ∀ r ∈ a0.take i.toNat, RSII lim r) ?_ ?_ ?_
    · rintro ⟨u0, i⟩ hI
      try simp only [] at hI ⊢
      have : big = 2 ^ 64 := rfl
      have := ga0.1
      omega
    · exact ⟨by omega, by omega, by omega, by simp, by simp⟩
    · rintro ⟨u0, i⟩ hI L hL
      try simp only [] at hI
      obtain ⟨u0a, u0b, i0, i1, hr⟩ := hI
      simp only [laws_szItemS.l0]
      refine Tm.ite (fun h2 => ?_) (fun h2 => ?_)
      · try simp only [decide_eq_true_eq, decide_eq_false_iff_not, Int.not_lt, Int.not_le, bne_iff_ne, ne_eq, bne_eq_false_iff_eq, beq_iff_eq, beq_eq_false_iff_ne, Bool.not_eq_true', Bool.not_eq_false'] at h2
        refine Tm.atRow (by first | assumption | omega | (simp only [lim, maxLen_eq] at *; omega)) (by first | assumption | omega | (simp only [lim, maxLen_eq] at *; omega)) (fun x3 hx4 hm5 => ?_)
        obtain ⟨c6, c7, c8, rfl, g9, g10, g11, _⟩ := (ga0.2 x3 hm5).open
        refine Tm.uncons ?_
        refine Tm.dStr ?_
        refine Tm.uncons ?_
        refine Tm.dInt ?_
        refine Tm.uncons ?_
        refine Tm.dInt ?_
        refine Tm.atEnd ?_
        refine laws_szItem.tm (fun i hi => hi.1) (laws_szItem.T (by first | assumption | omega | (simp only [lim, maxLen_eq] at *; omega)) (by first | assumption | omega | (simp only [lim, maxLen_eq] at *; omega)) (by first | assumption | omega | (simp only [lim, maxLen_eq] at *; omega))) (fun y13 hy12 => ?_)
        rcases hy12 with hy12 | ⟨p15, p16, q14, _⟩
        · exact Tm.ite (fun _ => Tm.ret (by left; omega)) (fun h => by simp at h; omega)
        refine Tm.ite (fun h17 => ?_) (fun h17 => ?_)
        · try simp only [decide_eq_true_eq, decide_eq_false_iff_not, Int.not_lt, Int.not_le, bne_iff_ne, ne_eq, bne_eq_false_iff_eq, beq_iff_eq, beq_eq_false_iff_ne, Bool.not_eq_true', Bool.not_eq_false'] at h17
          exact Tm.ret (by first | (left; omega) | exact .inr ⟨by omega, by omega, ⟨by simp only [lim]; omega, all_rows (by omega) hr⟩, trivial⟩)
        · try simp only [decide_eq_true_eq, decide_eq_false_iff_not, Int.not_lt, Int.not_le, bne_iff_ne, ne_eq, bne_eq_false_iff_eq, beq_iff_eq, beq_eq_false_iff_ne, Bool.not_eq_true', Bool.not_eq_false'] at h17
          try rw [wrap_i64 (x := i + 1) (by omega) (by omega)]
          refine hL (y13, (i + 1)) ⟨by omega, by omega, by omega, by omega, take_rows i0 hx4 hr ⟨_, _, _, rfl, by first | assumption | omega, by first | assumption | omega, by first | assumption | omega, trivial⟩⟩ (by (try simp only []); omega)
      · try simp only [decide_eq_true_eq, decide_eq_false_iff_not, Int.not_lt, Int.not_le, bne_iff_ne, ne_eq, bne_eq_false_iff_eq, beq_iff_eq, beq_eq_false_iff_ne, Bool.not_eq_true', Bool.not_eq_false'] at h2
        exact Tm.ret (by first | (left; omega) | exact .inr ⟨by omega, by omega, ⟨by simp only [lim]; omega, all_rows (by omega) hr⟩, trivial⟩)
theorem laws_szStringS.f_of {β : Type} {k : Nat} {a0 : List (List D)} {a1 : Int} {z0 : Int} (h : laws_szStringS.t k a0 a1 = some z0) (K : Int → Option β) : laws_szStringS.f k a0 a1 K = K z0 := by
  unfold laws_szStringS.f
  rw [h]
theorem laws_szStringS.tm {ι α : Type} {ok : ι → Prop} {ψ : α → Prop} {p : ι → Nat} {B : Nat} (hp : ∀ i, ok i → B ≤ p i) {a0 : List (List D)} {a1 : Int} {φ : Int → Prop} (h : Tm (fun k => B ≤ k) (fun k => laws_szStringS.t k a0 a1) φ) {G : ι → Int → Option α} (hG : ∀ z0, φ z0 → Tm ok (fun i => G i z0) ψ) : Tm ok (fun i => laws_szStringS.f (p i) a0 a1 (G i)) ψ := by
  obtain ⟨z0, h1, h2⟩ := h
  exact (hG z0 h1).congr fun i hi => laws_szStringS.f_of (h2 (p i) (hp i hi)) _
def RS (B : Nat) (r : List D) : Prop := ∃ (c0 : ByteArray), r = [.str c0] ∧ c0.size ≤ B ∧ True
theorem RS.open {B : Nat} {r : List D} (h : RS B r) : ∃ (c0 : ByteArray), r = [.str c0] ∧ c0.size ≤ B ∧ True := h
theorem RS.len {B : Nat} {r : List D} (h : RS B r) : r.length = 1 := by
  obtain ⟨c0, rfl, _⟩ := h.open
  rfl
theorem RS.gets {B : Nat} {xs : List (List D)} (h : ∀ r ∈ xs, RS B r) {v : Int} (h0 : 0 ≤ v) (h1 : v < xs.length) : gR xs v = [.str (gS xs v 0)] ∧ (gS xs v 0).size ≤ B ∧ True := by
  obtain ⟨c0, e, k0, _⟩ := (h (gR xs v) (gR_mem h0 h1)).open
  unfold gS
  rw [e]
  exact ⟨rfl, k0, trivial⟩
theorem RS.rows {B : Nat} {xs : List (List D)} (h : ∀ r ∈ xs, RS B r) {v : Int} (h0 : 0 ≤ v) (h1 : v < xs.length) {β : Type} (F : List D → Option β) : atRow xs v F = F [.str (gS xs v 0)] := by
  rw [← (RS.gets h h0 h1).1]
  exact atRow_gR h0 h1 F
theorem RS.get {B : Nat} {xs : List (List D)} (h : SlOk RS B xs) {v : Int} (h0 : 0 ≤ v) (h1 : v < xs.length) : gR xs v = [.str (gS xs v 0)] ∧ (gS xs v 0).size ≤ B ∧ True := RS.gets h.2 h0 h1
theorem RS.row {B : Nat} {xs : List (List D)} (h : SlOk RS B xs) {v : Int} (h0 : 0 ≤ v) (h1 : v < xs.length) {β : Type} (F : List D → Option β) : atRow xs v F = F [.str (gS xs v 0)] := RS.rows h.2 h0 h1 F
theorem laws_szStringS.T {a0 : List (List D)} {a1 : Int} (h0 : 0 ≤ a1) (h1 : a1 ≤ 1048576) (ga0 : SlOk RS maxLen a0) : Tm Fuel (fun k => laws_szStringS.t k a0 a1) (fun r => r < 0 ∨ 0 ≤ r ∧ r ≤ a1 ∧ SlOk RS lim a0 ∧ True) := by
  unfold laws_szStringS.t laws_szStringS.g
  have hm := maxLen_eq
  have hlim : lim = 1048576 := rfl
  have hlen := ga0.1
  try rw [wrap_i64 (x := a1 - (a0.length : Int)) (by omega) (by omega)]
  refine Tm.ite (fun h1 => ?_) (fun h1 => ?_)
  · try simp only [decide_eq_true_eq, decide_eq_false_iff_not, Int.not_lt, Int.not_le, bne_iff_ne, ne_eq, bne_eq_false_iff_eq, beq_iff_eq, beq_eq_false_iff_ne, Bool.not_eq_true', Bool.not_eq_false'] at h1
    exact Tm.ret (by first | (left; omega) | (right; refine ⟨?_, ?_, ?_, trivial⟩ <;> first | assumption | omega))
  · try simp only [decide_eq_true_eq, decide_eq_false_iff_not, Int.not_lt, Int.not_le, bne_iff_ne, ne_eq, bne_eq_false_iff_eq, beq_iff_eq, beq_eq_false_iff_ne, Bool.not_eq_true', Bool.not_eq_false'] at h1
    refine Tm.loop (okk := Fuel) (p := fun k => k) (fun i hi => hi) (b := fun k => laws_szStringS.l0 k a0 (fun z0 => some z0)) (fun v => match v with | (u0, i) => (((a0.length : Int)) - i).toNat) (fun v => match v with | (u0, i) => 0 ≤ u0 ∧ u0 ≤ a1 ∧ 0 ≤ i ∧ i ≤ (a0.length : Int) ∧ ∀ r ∈ a0.take i.toNat, RS lim r) ?_ ?_ ?_
    · rintro ⟨u0, i⟩ hI
      try simp only [] at hI ⊢
      have : big = 2 ^ 64 := rfl
      have := ga0.1
      omega
    · exact ⟨by omega, by omega, by omega, by simp, by simp⟩
    · rintro ⟨u0, i⟩ hI L hL
      try simp only [] at hI
      obtain ⟨u0a, u0b, i0, i1, hr⟩ := hI
      simp only [laws_szStringS.l0]
      refine Tm.ite (fun h2 => ?_) (fun h2 => ?_)
      · try simp only [decide_eq_true_eq, decide_eq_false_iff_not, Int.not_lt, Int.not_le, bne_iff_ne, ne_eq, bne_eq_false_iff_eq, beq_iff_eq, beq_eq_false_iff_ne, Bool.not_eq_true', Bool.not_eq_false'] at h2
        refine Tm.atRow (by first | assumption | omega | (simp only [lim, maxLen_eq] at *; omega)) (by first | assumption | omega | (simp only [lim, maxLen_eq] at *; omega)) (fun x3 hx4 hm5 => ?_)
        obtain ⟨c6, rfl, g7, _⟩ := (ga0.2 x3 hm5).open
        refine Tm.uncons ?_
        refine Tm.dStr ?_
        refine Tm.atEnd ?_
        try rw [wrap_i64 (x := u0 - (c6.size : Int)) (by omega) (by omega)]
        refine Tm.ite (fun h8 => ?_) (fun h8 => ?_)
        · try simp only [decide_eq_true_eq, decide_eq_false_iff_not, Int.not_lt, Int.not_le, bne_iff_ne, ne_eq, bne_eq_false_iff_eq, beq_iff_eq, beq_eq_false_iff_ne, Bool.not_eq_true', Bool.not_eq_false'] at h8
          exact Tm.ret (by first | (left; omega) | exact .inr ⟨by omega, by omega, ⟨by simp only [lim]; omega, all_rows (by omega) hr⟩, trivial⟩)
        · try simp only [decide_eq_true_eq, decide_eq_false_iff_not, Int.not_lt, Int.not_le, bne_iff_ne, ne_eq, bne_eq_false_iff_eq, beq_iff_eq, beq_eq_false_iff_ne, Bool.not_eq_true', Bool.not_eq_false'] at h8
          try rw [wrap_i64 (x := i + 1) (by omega) (by omega)]
          refine hL ((u0 - (c6.size : Int)), (i + 1)) ⟨by omega, by omega, by omega, by omega, take_rows i0 hx4 hr ⟨_, rfl, by first | assumption | omega, trivial⟩⟩ (by (try simp only []); omega)
      · try simp only [decide_eq_true_eq, decide_eq_false_iff_not, Int.not_lt, Int.not_le, bne_iff_ne, ne_eq, bne_eq_false_iff_eq, beq_iff_eq, beq_eq_false_iff_ne, Bool.not_eq_true', Bool.not_eq_false'] at h2
        exact Tm.ret (by first | (left; omega) | exact .inr ⟨by omega, by omega, ⟨by simp only [lim]; omega, all_rows (by omega) hr⟩, trivial⟩)
theorem laws_szQueue.f_of {β : Type} {k : Nat} {a0_0 : List (List D)} {a0_1 : List (List D)} {a0_2 : List (List D)} {a0_3 : Int} {a1 : Int} {z0 : Int} (h : laws_szQueue.t k a0_0 a0_1 a0_2 a0_3 a1 = some z0) (K : Int → Option β) : laws_szQueue.f k a0_0 a0_1 a0_2 a0_3 a1 K = K z0 := by
  unfold laws_szQueue.f
  rw [h]
theorem laws_szQueue.tm {ι α : Type} {ok : ι → Prop} {ψ : α → Prop} {p : ι → Nat} {B : Nat} (hp : ∀ i, ok i → B ≤ p i) {a0_0 : List (List D)} {a0_1 : List (List D)} {a0_2 : List (List D)} {a0_3 : Int} {a1 : Int} {φ : Int → Prop} (h : Tm (fun k => B ≤ k) (fun k => laws_szQueue.t k a0_0 a0_1 a0_2 a0_3 a1) φ) {G : ι → Int → Option α} (hG : ∀ z0, φ z0 → Tm ok (fun i => G i z0) ψ) : Tm ok (fun i => laws_szQueue.f (p i) a0_0 a0_1 a0_2 a0_3 a1 (G i)) ψ := by
  obtain ⟨z0, h1, h2⟩ := h
  exact (hG z0 h1).congr fun i hi => laws_szQueue.f_of (h2 (p i) (hp i hi)) _
theorem laws_szQueue.T {a0_0 : List (List D)} {a0_1 : List (List D)} {a0_2 : List (List D)} {a0_3 : Int} {a1 : Int} (h0 : 0 ≤ a1) (h1 : a1 ≤ 1048576) (ga0_0 : SlOk RSII maxLen a0_0) (ga0_1 : SlOk RSII maxLen a0_1) (ga0_2 : SlOk RS maxLen a0_2) : Tm Fuel (fun k => laws_szQueue.t k a0_0 a0_1 a0_2 a0_3 a1) (fun r => r < 0 ∨ 0 ≤ r ∧ r ≤ a1 ∧ SlOk RSII lim a0_0 ∧ SlOk RSII lim a0_1 ∧ SlOk RS lim a0_2 ∧ True) := by
  unfold laws_szQueue.t laws_szQueue.g
  have hm := maxLen_eq
  have hlim : lim = 1048576 := rfl
  refine laws_szItemS.tm (fun i hi => hi) (laws_szItemS.T (by first | assumption | omega | (simp only [lim, maxLen_eq] at *; omega)) (by first | assumption | omega | (simp only [lim, maxLen_eq] at *; omega)) (by first | assumption | omega | (simp only [lim, maxLen_eq] at *; omega))) (fun y2 hy1 => ?_)
  rcases hy1 with hy1 | ⟨p4, p5, q3, _⟩
  · exact Tm.ite (fun _ => Tm.ret (by left; omega)) (fun h => by simp at h; omega)
  refine Tm.ite (fun h6 => ?_) (fun h6 => ?_)
  · try simp only [decide_eq_true_eq, decide_eq_false_iff_not, Int.not_lt, Int.not_le, bne_iff_ne, ne_eq, bne_eq_false_iff_eq, beq_iff_eq, beq_eq_false_iff_ne, Bool.not_eq_true', Bool.not_eq_false'] at h6
    exact Tm.ret (by first | (left; omega) | (right; refine ⟨?_, ?_, ?_, ?_, ?_, trivial⟩ <;> first | assumption | omega))
  · try simp only [decide_eq_true_eq, decide_eq_false_iff_not, Int.not_lt, Int.not_le, bne_iff_ne, ne_eq, bne_eq_false_iff_eq, beq_iff_eq, beq_eq_false_iff_ne, Bool.not_eq_true', Bool.not_eq_false'] at h6
    refine laws_szItemS.tm (fun i hi => hi) (laws_szItemS.T (by first | assumption | omega | (simp only [lim, maxLen_eq] at *; omega)) (by first | assumption | omega | (simp only [lim, maxLen_eq] at *; omega)) (by first | assumption | omega | (simp only [lim, maxLen_eq] at *; omega))) (fun y8 hy7 => ?_)
    rcases hy7 with hy7 | ⟨p10, p11, q9, _⟩
    · exact Tm.ite (fun _ => Tm.ret (by left; omega)) (fun h => by simp at h; omega)
    refine Tm.ite (fun h12 => ?_) (fun h12 => ?_)
    · try simp only [decide_eq_true_eq, decide_eq_false_iff_not, Int.not_lt, Int.not_le, bne_iff_ne, ne_eq, bne_eq_false_iff_eq, beq_iff_eq, beq_eq_false_iff_ne, Bool.not_eq_true', Bool.not_eq_false'] at h12
      exact Tm.ret (by first | (left; omega) | (right; refine ⟨?_, ?_, ?_, ?_, ?_, trivial⟩ <;> first | assumption | omega))
    · try simp only [decide_eq_true_eq, decide_eq_false_iff_not, Int.not_lt, Int.not_le, bne_iff_ne, ne_eq, bne_eq_false_iff_eq, beq_iff_eq, beq_eq_false_iff_ne, Bool.not_eq_true', Bool.not_eq_false'] at h12
      refine laws_szStringS.tm (fun i hi => hi) (laws_szStringS.T (by first | assumption | omega | (simp only [lim, maxLen_eq] at *; omega)) (by first | assumption | omega | (simp only [lim, maxLen_eq] at *; omega)) (by first | assumption | omega | (simp only [lim, maxLen_eq] at *; omega))) (fun y14 hy13 => ?_)
      rcases hy13 with hy13 | ⟨p16, p17, q15, _⟩
      · exact Tm.ite (fun _ => Tm.ret (by left; omega)) (fun h => by simp at h; omega)
      refine Tm.ite (fun h18 => ?_) (fun h18 => ?_)
      · try simp only [decide_eq_true_eq, decide_eq_false_iff_not, Int.not_lt, Int.not_le, bne_iff_ne, ne_eq, bne_eq_false_iff_eq, beq_iff_eq, beq_eq_false_iff_ne, Bool.not_eq_true', Bool.not_eq_false'] at h18
        exact Tm.ret (by first | (left; omega) | (right; refine ⟨?_, ?_, ?_, ?_, ?_, trivial⟩ <;> first | assumption | omega))
      · try simp only [decide_eq_true_eq, decide_eq_false_iff_not, Int.not_lt, Int.not_le, bne_iff_ne, ne_eq, bne_eq_false_iff_eq, beq_iff_eq, beq_eq_false_iff_ne, Bool.not_eq_true', Bool.not_eq_false'] at h18
        exact Tm.ret (by first | (left; omega) | (right; refine ⟨?_, ?_, ?_, ?_, ?_, trivial⟩ <;> first | assumption | omega))
theorem laws_toItem.f_of {β : Type} {k : Nat} {a0_0 : ByteArray} {a0_1 : Int} {a0_2 : Int} {z0 : ByteArray} {z1 : Int} {z2 : Int} (h : laws_toItem.t k a0_0 a0_1 a0_2 = some (z0, z1, z2)) (K : ByteArray → Int → Int → Option β) : laws_toItem.f k a0_0 a0_1 a0_2 K = K z0 z1 z2 := by
  unfold laws_toItem.f
  rw [h]
theorem laws_toItem.tm {ι α : Type} {ok : ι → Prop} {ψ : α → Prop} {p : ι → Nat} {B : Nat} (hp : ∀ i, ok i → B ≤ p i) {a0_0 : ByteArray} {a0_1 : Int} {a0_2 : Int} {φ : ByteArray × Int × Int → Prop} (h : Tm (fun k => B ≤ k) (fun k => laws_toItem.t k a0_0 a0_1 a0_2) φ) {G : ι → ByteArray → Int → Int → Option α} (hG : ∀ z0 z1 z2, φ (z0, z1, z2) → Tm ok (fun i => G i z0 z1 z2) ψ) : Tm ok (fun i => laws_toItem.f (p i) a0_0 a0_1 a0_2 (G i)) ψ := by
  obtain ⟨⟨z0, z1, z2⟩, h1, h2⟩ := h
  exact (hG z0 z1 z2 h1).congr fun i hi => laws_toItem.f_of (h2 (p i) (hp i hi)) _
theorem laws_toItem.T {a0_0 : ByteArray} {a0_1 : Int} {a0_2 : Int} (ga0_0 : a0_0.size ≤ lim) : Tm Fuel (fun k => laws_toItem.t k a0_0 a0_1 a0_2) (fun z => z.1 = a0_0 ∧ z.2.1 = a0_1 ∧ z.2.2 = a0_2 ∧ True) := by
  unfold laws_toItem.t laws_toItem.g
  have hm := maxLen_eq
  have hlim : lim = 1048576 := rfl
  exact Tm.ret (by exact ⟨by first | rfl | assumption, by first | rfl | assumption, by first | rfl | assumption, trivial⟩)
theorem laws_toItemS.f_of {β : Type} {k : Nat} {a0 : List (List D)} {z0 : List (List C)} (h : laws_toItemS.t k a0 = some z0) (K : (List (List C)) → Option β) : laws_toItemS.f k a0 K = K z0 := by
  unfold laws_toItemS.f
  rw [h]
theorem laws_toItemS.tm {ι α : Type} {ok : ι → Prop} {ψ : α → Prop} {p : ι → Nat} {B : Nat} (hp : ∀ i, ok i → B ≤ p i) {a0 : List (List D)} {φ : (List (List C)) → Prop} (h : Tm (fun k => B ≤ k) (fun k => laws_toItemS.t k a0) φ) {G : ι → (List (List C)) → Option α} (hG : ∀ z0, φ z0 → Tm ok (fun i => G i z0) ψ) : Tm ok (fun i => laws_toItemS.f (p i) a0 (G i)) ψ := by
  obtain ⟨z0, h1, h2⟩ := h
  exact (hG z0 h1).congr fun i hi => laws_toItemS.f_of (h2 (p i) (hp i hi)) _
theorem laws_toItemS.T {a0 : List (List D)} (ga0 : SlOk RSII lim a0) : Tm Fuel (fun k => laws_toItemS.t k a0) (fun z => C.immRows z = a0 ∧ True) := by
  unfold laws_toItemS.t laws_toItemS.g
  have hm := maxLen_eq
  have hlim : lim = 1048576 := rfl
  have hlen := ga0.1
  refine Tm.guard (by first | omega | (simp only [lim, maxLen_eq, most] at *; omega) | (simp only [lim, most] at *; refine ⟨?_, ?_, ?_, ?_⟩ <;> omega)) ?_
  refine Tm.loop (okk := Fuel) (p := fun k => k) (fun i hi => hi) (b := fun k => laws_toItemS.l0 k a0 (fun z0 => some z0)) (fun v => match v with | (i, u1) => (((a0.length : Int)) - i).toNat) (fun v => match v with | (i, u1) => 0 ≤ i ∧ i ≤ (a0.length : Int) ∧ Filled a0 ([.d (.str (⟨#[]⟩ : ByteArray)), .d (.int .i64 0), .d (.int .i64 0)] : List C) i u1) ?_ ?_ ?_
  · rintro ⟨i, u1⟩ hI
    try simp only [] at hI ⊢
    have : big = 2 ^ 64 := rfl
    have := ga0.1
    simp only [lim] at this
    omega
  · exact ⟨by omega, by simp, Filled.start _ _⟩
  · rintro ⟨i, u1⟩ hI L hL
    try simp only [] at hI
    obtain ⟨i0, i1, hF⟩ := hI
    have hFl := hF.len i1
    simp only [laws_toItemS.l0]
    refine Tm.ite (fun h1 => ?_) (fun h1 => ?_)
    · try simp only [decide_eq_true_eq, decide_eq_false_iff_not, Int.not_lt, Int.not_le, bne_iff_ne, ne_eq, bne_eq_false_iff_eq, beq_iff_eq, beq_eq_false_iff_ne, Bool.not_eq_true', Bool.not_eq_false'] at h1
      refine Tm.atRow (by first | assumption | omega | (simp only [lim, maxLen_eq] at *; omega)) (by first | assumption | omega | (simp only [lim, maxLen_eq] at *; omega)) (fun x2 hx3 hm4 => ?_)
      obtain ⟨c5, c6, c7, rfl, g8, g9, g10, _⟩ := (ga0.2 x2 hm4).open
      refine Tm.uncons ?_
      refine Tm.dStr ?_
      refine Tm.uncons ?_
      refine Tm.dInt ?_
      refine Tm.uncons ?_
      refine Tm.dInt ?_
      refine Tm.atEnd ?_
      refine laws_toItem.tm (fun i hi => hi.1) (laws_toItem.T (by first | assumption | omega | (simp only [lim, maxLen_eq] at *; omega))) (fun y12 y13 y14 hy11 => ?_)
      try simp only [] at hy11
      obtain ⟨rfl, rfl, rfl, _⟩ := hy11
      refine Tm.guard (by first | omega | (simp only [lim, maxLen_eq, most] at *; omega) | (simp only [lim, most] at *; refine ⟨?_, ?_, ?_, ?_⟩ <;> omega)) ?_
      refine Tm.guard (by first | omega | (simp only [lim, maxLen_eq, most] at *; omega) | (simp only [lim, most] at *; refine ⟨?_, ?_, ?_, ?_⟩ <;> omega)) ?_
      try rw [wrap_i64 (x := i + 1) (by omega) (by omega)]
      refine hL (_, _) ⟨by omega, by omega, hF.next i0 hx3 rfl (by simp [C.immCells, C.imm])⟩ (by (try simp only []); omega)
    · try simp only [decide_eq_true_eq, decide_eq_false_iff_not, Int.not_lt, Int.not_le, bne_iff_ne, ne_eq, bne_eq_false_iff_eq, beq_iff_eq, beq_eq_false_iff_ne, Bool.not_eq_true', Bool.not_eq_false'] at h1
      exact Tm.ret (by exact ⟨hF.all (by omega), trivial⟩)
theorem laws_toStringS.f_of {β : Type} {k : Nat} {a0 : List (List D)} {z0 : List (List C)} (h : laws_toStringS.t k a0 = some z0) (K : (List (List C)) → Option β) : laws_toStringS.f k a0 K = K z0 := by
  unfold laws_toStringS.f
  rw [h]
theorem laws_toStringS.tm {ι α : Type} {ok : ι → Prop} {ψ : α → Prop} {p : ι → Nat} {B : Nat} (hp : ∀ i, ok i → B ≤ p i) {a0 : List (List D)} {φ : (List (List C)) → Prop} (h : Tm (fun k => B ≤ k) (fun k => laws_toStringS.t k a0) φ) {G : ι → (List (List C)) → Option α} (hG : ∀ z0, φ z0 → Tm ok (fun i => G i z0) ψ) : Tm ok (fun i => laws_toStringS.f (p i) a0 (G i)) ψ := by
  obtain ⟨z0, h1, h2⟩ := h
  exact (hG z0 h1).congr fun i hi => laws_toStringS.f_of (h2 (p i) (hp i hi)) _
theorem laws_toStringS.T {a0 : List (List D)} (ga0 : SlOk RS lim a0) : Tm Fuel (fun k => laws_toStringS.t k a0) (fun z => C.immRows z = a0 ∧ True) := by
  unfold laws_toStringS.t laws_toStringS.g
  have hm := maxLen_eq
  have hlim : lim = 1048576 := rfl
  have hlen := ga0.1
  refine Tm.guard (by first | omega | (simp only [lim, maxLen_eq, most] at *; omega) | (simp only [lim, most] at *; refine ⟨?_, ?_, ?_, ?_⟩ <;> omega)) ?_
  refine Tm.loop (okk := Fuel) (p := fun k => k) (fun i hi => hi) (b := fun k => laws_toStringS.l0 k a0 (fun z0 => some z0)) (fun v => match v with | (i, u1) => (((a0.length : Int)) - i).toNat) (fun v => match v with | (i, u1) => 0 ≤ i ∧ i ≤ (a0.length : Int) ∧ Filled a0 ([.d (.str (⟨#[]⟩ : ByteArray))] : List C) i u1) ?_ ?_ ?_
  · rintro ⟨i, u1⟩ hI
    try simp only [] at hI ⊢
    have : big = 2 ^ 64 := rfl
    have := ga0.1
    simp only [lim] at this
    omega
  · exact ⟨by omega, by simp, Filled.start _ _⟩
  · rintro ⟨i, u1⟩ hI L hL
    try simp only [] at hI
    obtain ⟨i0, i1, hF⟩ := hI
    have hFl := hF.len i1
    simp only [laws_toStringS.l0]
    refine Tm.ite (fun h1 => ?_) (fun h1 => ?_)
    · try simp only [decide_eq_true_eq, decide_eq_false_iff_not, Int.not_lt, Int.not_le, bne_iff_ne, ne_eq, bne_eq_false_iff_eq, beq_iff_eq, beq_eq_false_iff_ne, Bool.not_eq_true', Bool.not_eq_false'] at h1
      refine Tm.atRow (by first | assumption | omega | (simp only [lim, maxLen_eq] at *; omega)) (by first | assumption | omega | (simp only [lim, maxLen_eq] at *; omega)) (fun x2 hx3 hm4 => ?_)
      obtain ⟨c5, rfl, g6, _⟩ := (ga0.2 x2 hm4).open
      refine Tm.uncons ?_
      refine Tm.dStr ?_
      refine Tm.atEnd ?_
      refine Tm.guard (by first | omega | (simp only [lim, maxLen_eq, most] at *; omega) | (simp only [lim, most] at *; refine ⟨?_, ?_, ?_, ?_⟩ <;> omega)) ?_
      refine Tm.guard (by first | omega | (simp only [lim, maxLen_eq, most] at *; omega) | (simp only [lim, most] at *; refine ⟨?_, ?_, ?_, ?_⟩ <;> omega)) ?_
      try rw [wrap_i64 (x := i + 1) (by omega) (by omega)]
      refine hL (_, _) ⟨by omega, by omega, hF.next i0 hx3 rfl (by simp [C.immCells, C.imm])⟩ (by (try simp only []); omega)
    · try simp only [decide_eq_true_eq, decide_eq_false_iff_not, Int.not_lt, Int.not_le, bne_iff_ne, ne_eq, bne_eq_false_iff_eq, beq_iff_eq, beq_eq_false_iff_ne, Bool.not_eq_true', Bool.not_eq_false'] at h1
      exact Tm.ret (by exact ⟨hF.all (by omega), trivial⟩)
theorem laws_toQueue.f_of {β : Type} {k : Nat} {a0_0 : List (List D)} {a0_1 : List (List D)} {a0_2 : List (List D)} {a0_3 : Int} {z0 : List (List C)} {z1 : List (List C)} {z2 : List (List C)} {z3 : Int} (h : laws_toQueue.t k a0_0 a0_1 a0_2 a0_3 = some (z0, z1, z2, z3)) (K : (List (List C)) → (List (List C)) → (List (List C)) → Int → Option β) : laws_toQueue.f k a0_0 a0_1 a0_2 a0_3 K = K z0 z1 z2 z3 := by
  unfold laws_toQueue.f
  rw [h]
theorem laws_toQueue.tm {ι α : Type} {ok : ι → Prop} {ψ : α → Prop} {p : ι → Nat} {B : Nat} (hp : ∀ i, ok i → B ≤ p i) {a0_0 : List (List D)} {a0_1 : List (List D)} {a0_2 : List (List D)} {a0_3 : Int} {φ : (List (List C)) × (List (List C)) × (List (List C)) × Int → Prop} (h : Tm (fun k => B ≤ k) (fun k => laws_toQueue.t k a0_0 a0_1 a0_2 a0_3) φ) {G : ι → (List (List C)) → (List (List C)) → (List (List C)) → Int → Option α} (hG : ∀ z0 z1 z2 z3, φ (z0, z1, z2, z3) → Tm ok (fun i => G i z0 z1 z2 z3) ψ) : Tm ok (fun i => laws_toQueue.f (p i) a0_0 a0_1 a0_2 a0_3 (G i)) ψ := by
  obtain ⟨⟨z0, z1, z2, z3⟩, h1, h2⟩ := h
  exact (hG z0 z1 z2 z3 h1).congr fun i hi => laws_toQueue.f_of (h2 (p i) (hp i hi)) _
theorem laws_toQueue.T {a0_0 : List (List D)} {a0_1 : List (List D)} {a0_2 : List (List D)} {a0_3 : Int} (ga0_0 : SlOk RSII lim a0_0) (ga0_1 : SlOk RSII lim a0_1) (ga0_2 : SlOk RS lim a0_2) : Tm Fuel (fun k => laws_toQueue.t k a0_0 a0_1 a0_2 a0_3) (fun z => C.immRows z.1 = a0_0 ∧ C.immRows z.2.1 = a0_1 ∧ C.immRows z.2.2.1 = a0_2 ∧ z.2.2.2 = a0_3 ∧ True) := by
  unfold laws_toQueue.t laws_toQueue.g
  have hm := maxLen_eq
  have hlim : lim = 1048576 := rfl
  refine laws_toItemS.tm (fun i hi => hi) (laws_toItemS.T (by first | assumption | omega | (simp only [lim, maxLen_eq] at *; omega))) (fun y2 hy1 => ?_)
  try simp only [] at hy1
  obtain ⟨e3, _⟩ := hy1
  try simp only [e3]
  refine laws_toItemS.tm (fun i hi => hi) (laws_toItemS.T (by first | assumption | omega | (simp only [lim, maxLen_eq] at *; omega))) (fun y5 hy4 => ?_)
  try simp only [] at hy4
  obtain ⟨e6, _⟩ := hy4
  try simp only [e6]
  refine laws_toStringS.tm (fun i hi => hi) (laws_toStringS.T (by first | assumption | omega | (simp only [lim, maxLen_eq] at *; omega))) (fun y8 hy7 => ?_)
  try simp only [] at hy7
  obtain ⟨e9, _⟩ := hy7
  try simp only [e9]
  exact Tm.ret (by exact ⟨by first | rfl | assumption, by first | rfl | assumption, by first | rfl | assumption, by first | rfl | assumption, trivial⟩)
theorem spec_l1In.f_of {β : Type} {k : Nat} {a0 : Int} {a1 : Int} {a2 : Int} {z0 : Bool} (h : spec_l1In.t k a0 a1 a2 = some z0) (K : Bool → Option β) : spec_l1In.f k a0 a1 a2 K = K z0 := by
  unfold spec_l1In.f
  rw [h]
theorem spec_l1In.tm {ι α : Type} {ok : ι → Prop} {ψ : α → Prop} {p : ι → Nat} {B : Nat} (hp : ∀ i, ok i → B ≤ p i) {a0 : Int} {a1 : Int} {a2 : Int} {φ : Bool → Prop} (h : Tm (fun k => B ≤ k) (fun k => spec_l1In.t k a0 a1 a2) φ) {G : ι → Bool → Option α} (hG : ∀ z0, φ z0 → Tm ok (fun i => G i z0) ψ) : Tm ok (fun i => spec_l1In.f (p i) a0 a1 a2 (G i)) ψ := by
  obtain ⟨z0, h1, h2⟩ := h
  exact (hG z0 h1).congr fun i hi => spec_l1In.f_of (h2 (p i) (hp i hi)) _
theorem spec_l1In.T {a0 : Int} {a1 : Int} {a2 : Int} : Tm Fuel (fun k => spec_l1In.t k a0 a1 a2) (fun r => r = true → a1 ≤ a0 ∧ a0 ≤ a2) := by
  unfold spec_l1In.t spec_l1In.g
  have hm := maxLen_eq
  have hlim : lim = 1048576 := rfl
  refine Tm.ite (fun h1 => ?_) (fun h1 => ?_)
  · try simp only [decide_eq_true_eq, decide_eq_false_iff_not, Int.not_lt, Int.not_le, bne_iff_ne, ne_eq, bne_eq_false_iff_eq, beq_iff_eq, beq_eq_false_iff_ne, Bool.not_eq_true', Bool.not_eq_false'] at h1
    exact Tm.ret (by first | (intro h; simp at h; omega) | (intro h; cases h))
  · try simp only [decide_eq_true_eq, decide_eq_false_iff_not, Int.not_lt, Int.not_le, bne_iff_ne, ne_eq, bne_eq_false_iff_eq, beq_iff_eq, beq_eq_false_iff_ne, Bool.not_eq_true', Bool.not_eq_false'] at h1
    exact Tm.ret (by first | (intro h; simp at h; omega) | (intro h; cases h))
noncomputable def spec_l1In.v (a0 : Int) (a1 : Int) (a2 : Int) : Bool := (spec_l1In.t big a0 a1 a2).getD default
theorem spec_l1In.tv {a0 : Int} {a1 : Int} {a2 : Int} {k : Nat} (hk : Fuel k) : spec_l1In.t k a0 a1 a2 = some (spec_l1In.v a0 a1 a2) := (spec_l1In.T).val hk
theorem spec_l1In.fv {a0 : Int} {a1 : Int} {a2 : Int} {k : Nat} (hk : Fuel k) {β : Type} (K : Bool → Option β) : spec_l1In.f k a0 a1 a2 K = K (spec_l1In.v a0 a1 a2) := spec_l1In.f_of (spec_l1In.tv hk) K
theorem l1In_f {β : Type} {k : Nat} {a b c : Int} (K : Bool → Option β) : spec_l1In.f k a b c K = K (decide (b ≤ a) && decide (a ≤ c)) := by
  refine spec_l1In.f_of ?_ K
  unfold spec_l1In.t spec_l1In.g
  by_cases h : b ≤ a <;> simp [h]

def inB (a b c : Int) : Bool := decide (b ≤ a) && decide (a ≤ c)
theorem l1In_fv {β : Type} {k : Nat} {a b c : Int} (K : Bool → Option β) : spec_l1In.f k a b c K = K (inB a b c) := l1In_f K

theorem spec_NameOk.f_of {β : Type} {k : Nat} {a0 : ByteArray} {z0 : Bool} (h : spec_NameOk.t k a0 = some z0) (K : Bool → Option β) : spec_NameOk.f k a0 K = K z0 := by
  unfold spec_NameOk.f
  rw [h]
theorem spec_NameOk.tm {ι α : Type} {ok : ι → Prop} {ψ : α → Prop} {p : ι → Nat} {B : Nat} (hp : ∀ i, ok i → B ≤ p i) {a0 : ByteArray} {φ : Bool → Prop} (h : Tm (fun k => B ≤ k) (fun k => spec_NameOk.t k a0) φ) {G : ι → Bool → Option α} (hG : ∀ z0, φ z0 → Tm ok (fun i => G i z0) ψ) : Tm ok (fun i => spec_NameOk.f (p i) a0 (G i)) ψ := by
  obtain ⟨z0, h1, h2⟩ := h
  exact (hG z0 h1).congr fun i hi => spec_NameOk.f_of (h2 (p i) (hp i hi)) _
theorem spec_NameOk.T {a0 : ByteArray} (ga0 : a0.size ≤ lim) : Tm Fuel (fun k => spec_NameOk.t k a0) (fun _ => True) := by
  unfold spec_NameOk.t spec_NameOk.g
  have hm := maxLen_eq
  have hlim : lim = 1048576 := rfl
  refine Tm.loop (okk := Fuel) (p := fun k => k) (fun i hi => hi) (b := fun k => spec_NameOk.l0 k a0 (fun z0 => some z0)) (fun i => (((a0.size : Int)) - i).toNat) (fun i => 0 ≤ i ∧ i ≤ (a0.size : Int)) ?_ ?_ ?_
  · rintro i hI
    try simp only [] at hI ⊢
    have : big = 2 ^ 64 := rfl
    omega
  · ((try simp only []); omega)
  · rintro i hI L hL
    try simp only [] at hI
    obtain ⟨i0, i1⟩ := hI
    simp only [spec_NameOk.l0]
    refine Tm.ite (fun h1 => ?_) (fun h1 => ?_)
    · try simp only [decide_eq_true_eq, decide_eq_false_iff_not, Int.not_lt, Int.not_le, bne_iff_ne, ne_eq, bne_eq_false_iff_eq, beq_iff_eq, beq_eq_false_iff_ne, Bool.not_eq_true', Bool.not_eq_false'] at h1
      refine Tm.atStr (by first | assumption | omega | (simp only [lim, maxLen_eq] at *; omega)) (by first | assumption | omega | (simp only [lim, maxLen_eq] at *; omega)) (fun b2 hb3 => ?_)
      try rw [wrap_i64 (x := (b2.toNat : Int)) (by omega) (by omega)]
      refine spec_l1In.tm (fun i hi => hi.1) (spec_l1In.T) (fun y5 hy4 => ?_)
      refine Tm.ite (fun h6 => ?_) (fun h6 => ?_)
      · try simp only [decide_eq_true_eq, decide_eq_false_iff_not, Int.not_lt, Int.not_le, bne_iff_ne, ne_eq, bne_eq_false_iff_eq, beq_iff_eq, beq_eq_false_iff_ne, Bool.not_eq_true', Bool.not_eq_false'] at h6
        refine Tm.atStr (by first | assumption | omega | (simp only [lim, maxLen_eq] at *; omega)) (by first | assumption | omega | (simp only [lim, maxLen_eq] at *; omega)) (fun b7 hb8 => ?_)
        try rw [wrap_i64 (x := (b7.toNat : Int)) (by omega) (by omega)]
        refine spec_l1In.tm (fun i hi => hi.1) (spec_l1In.T) (fun y10 hy9 => ?_)
        refine Tm.ite (fun h11 => ?_) (fun h11 => ?_)
        · try simp only [decide_eq_true_eq, decide_eq_false_iff_not, Int.not_lt, Int.not_le, bne_iff_ne, ne_eq, bne_eq_false_iff_eq, beq_iff_eq, beq_eq_false_iff_ne, Bool.not_eq_true', Bool.not_eq_false'] at h11
          refine Tm.atStr (by first | assumption | omega | (simp only [lim, maxLen_eq] at *; omega)) (by first | assumption | omega | (simp only [lim, maxLen_eq] at *; omega)) (fun b12 hb13 => ?_)
          refine Tm.ite (fun h14 => ?_) (fun h14 => ?_)
          · try simp only [decide_eq_true_eq, decide_eq_false_iff_not, Int.not_lt, Int.not_le, bne_iff_ne, ne_eq, bne_eq_false_iff_eq, beq_iff_eq, beq_eq_false_iff_ne, Bool.not_eq_true', Bool.not_eq_false'] at h14
            exact Tm.ret (by trivial)
          · try simp only [decide_eq_true_eq, decide_eq_false_iff_not, Int.not_lt, Int.not_le, bne_iff_ne, ne_eq, bne_eq_false_iff_eq, beq_iff_eq, beq_eq_false_iff_ne, Bool.not_eq_true', Bool.not_eq_false'] at h14
            try rw [wrap_i64 (x := i + 1) (by omega) (by omega)]
            exact hL ((i + 1)) (by (try simp only []); omega) (by (try simp only []); omega)
        · try simp only [decide_eq_true_eq, decide_eq_false_iff_not, Int.not_lt, Int.not_le, bne_iff_ne, ne_eq, bne_eq_false_iff_eq, beq_iff_eq, beq_eq_false_iff_ne, Bool.not_eq_true', Bool.not_eq_false'] at h11
          have z15 := hy9 h11
          try rw [wrap_i64 (x := i + 1) (by omega) (by omega)]
          exact hL ((i + 1)) (by (try simp only []); omega) (by (try simp only []); omega)
      · try simp only [decide_eq_true_eq, decide_eq_false_iff_not, Int.not_lt, Int.not_le, bne_iff_ne, ne_eq, bne_eq_false_iff_eq, beq_iff_eq, beq_eq_false_iff_ne, Bool.not_eq_true', Bool.not_eq_false'] at h6
        have z16 := hy4 h6
        try rw [wrap_i64 (x := i + 1) (by omega) (by omega)]
        exact hL ((i + 1)) (by (try simp only []); omega) (by (try simp only []); omega)
    · try simp only [decide_eq_true_eq, decide_eq_false_iff_not, Int.not_lt, Int.not_le, bne_iff_ne, ne_eq, bne_eq_false_iff_eq, beq_iff_eq, beq_eq_false_iff_ne, Bool.not_eq_true', Bool.not_eq_false'] at h1
      refine spec_l1In.tm (fun i hi => hi.1) (spec_l1In.T) (fun y18 hy17 => ?_)
      refine Tm.ite (fun h19 => ?_) (fun h19 => ?_)
      · try simp only [decide_eq_true_eq, decide_eq_false_iff_not, Int.not_lt, Int.not_le, bne_iff_ne, ne_eq, bne_eq_false_iff_eq, beq_iff_eq, beq_eq_false_iff_ne, Bool.not_eq_true', Bool.not_eq_false'] at h19
        have z20 := hy17 h19
        refine Tm.atStr (by first | assumption | omega | (simp only [lim, maxLen_eq] at *; omega)) (by first | assumption | omega | (simp only [lim, maxLen_eq] at *; omega)) (fun b21 hb22 => ?_)
        refine Tm.ite (fun h23 => ?_) (fun h23 => ?_)
        · try simp only [decide_eq_true_eq, decide_eq_false_iff_not, Int.not_lt, Int.not_le, bne_iff_ne, ne_eq, bne_eq_false_iff_eq, beq_iff_eq, beq_eq_false_iff_ne, Bool.not_eq_true', Bool.not_eq_false'] at h23
          try rw [wrap_i64 (x := (a0.size : Int) - 1) (by omega) (by omega)]
          refine Tm.atStr (by first | assumption | omega | (simp only [lim, maxLen_eq] at *; omega)) (by first | assumption | omega | (simp only [lim, maxLen_eq] at *; omega)) (fun b24 hb25 => ?_)
          exact Tm.ret (by trivial)
        · try simp only [decide_eq_true_eq, decide_eq_false_iff_not, Int.not_lt, Int.not_le, bne_iff_ne, ne_eq, bne_eq_false_iff_eq, beq_iff_eq, beq_eq_false_iff_ne, Bool.not_eq_true', Bool.not_eq_false'] at h23
          exact Tm.ret (by trivial)
      · try simp only [decide_eq_true_eq, decide_eq_false_iff_not, Int.not_lt, Int.not_le, bne_iff_ne, ne_eq, bne_eq_false_iff_eq, beq_iff_eq, beq_eq_false_iff_ne, Bool.not_eq_true', Bool.not_eq_false'] at h19
        exact Tm.ret (by trivial)
noncomputable def spec_NameOk.v (a0 : ByteArray) : Bool := (spec_NameOk.t big a0).getD default
theorem spec_NameOk.tv {a0 : ByteArray} (ga0 : a0.size ≤ lim) {k : Nat} (hk : Fuel k) : spec_NameOk.t k a0 = some (spec_NameOk.v a0) := (spec_NameOk.T ga0).val hk
theorem spec_NameOk.fv {a0 : ByteArray} (ga0 : a0.size ≤ lim) {k : Nat} (hk : Fuel k) {β : Type} (K : Bool → Option β) : spec_NameOk.f k a0 K = K (spec_NameOk.v a0) := spec_NameOk.f_of (spec_NameOk.tv ga0 hk) K
noncomputable def namesB (xs : List (List D)) : Bool := (List.range xs.length).all fun i => spec_NameOk.v (gS xs (i : Int) 0) && (!decide ((i : Int) > 0) || strLt (gS xs ((i : Int) - 1) 0) (gS xs (i : Int) 0))

theorem spec_l9Find.f_of {β : Type} {k : Nat} {a0 : List (List D)} {a1 : ByteArray} {z0 : Int} (h : spec_l9Find.t k a0 a1 = some z0) (K : Int → Option β) : spec_l9Find.f k a0 a1 K = K z0 := by
  unfold spec_l9Find.f
  rw [h]
theorem spec_l9Find.tm {ι α : Type} {ok : ι → Prop} {ψ : α → Prop} {p : ι → Nat} {B : Nat} (hp : ∀ i, ok i → B ≤ p i) {a0 : List (List D)} {a1 : ByteArray} {φ : Int → Prop} (h : Tm (fun k => B ≤ k) (fun k => spec_l9Find.t k a0 a1) φ) {G : ι → Int → Option α} (hG : ∀ z0, φ z0 → Tm ok (fun i => G i z0) ψ) : Tm ok (fun i => spec_l9Find.f (p i) a0 a1 (G i)) ψ := by
  obtain ⟨z0, h1, h2⟩ := h
  exact (hG z0 h1).congr fun i hi => spec_l9Find.f_of (h2 (p i) (hp i hi)) _
theorem spec_l9Find.T {a0 : List (List D)} {a1 : ByteArray} (ga0 : SlOk RSII lim a0) (ga1 : a1.size ≤ lim) : Tm Fuel (fun k => spec_l9Find.t k a0 a1) (fun _ => True) := by
  unfold spec_l9Find.t spec_l9Find.g
  have hm := maxLen_eq
  have hlim : lim = 1048576 := rfl
  have la0 := ga0.1
  refine Tm.loop (okk := Fuel) (p := fun k => k) (fun i hi => hi) (b := fun k => spec_l9Find.l0 k a0 a1 (fun z0 => some z0)) (fun i => (((a0.length : Int)) - i).toNat) (fun i => 0 ≤ i ∧ i ≤ (a0.length : Int)) ?_ ?_ ?_
  · rintro i hI
    try simp only [] at hI ⊢
    have : big = 2 ^ 64 := rfl
    omega
  · ((try simp only []); omega)
  · rintro i hI L hL
    try simp only [] at hI
    obtain ⟨i0, i1⟩ := hI
    simp only [spec_l9Find.l0]
    refine Tm.ite (fun h1 => ?_) (fun h1 => ?_)
    · try simp only [decide_eq_true_eq, decide_eq_false_iff_not, Int.not_lt, Int.not_le, bne_iff_ne, ne_eq, bne_eq_false_iff_eq, beq_iff_eq, beq_eq_false_iff_ne, Bool.not_eq_true', Bool.not_eq_false'] at h1
      refine Tm.atRow (by first | assumption | omega | (simp only [lim, maxLen_eq] at *; omega)) (by first | assumption | omega | (simp only [lim, maxLen_eq] at *; omega)) (fun x2 hx3 hm4 => ?_)
      obtain ⟨c5, c6, c7, rfl, g8, g9, g10, _⟩ := (ga0.2 x2 hm4).open
      refine Tm.uncons ?_
      refine Tm.dStr ?_
      refine Tm.uncons ?_
      refine Tm.dInt ?_
      refine Tm.uncons ?_
      refine Tm.dInt ?_
      refine Tm.atEnd ?_
      refine Tm.ite (fun h11 => ?_) (fun h11 => ?_)
      · try simp only [decide_eq_true_eq, decide_eq_false_iff_not, Int.not_lt, Int.not_le, bne_iff_ne, ne_eq, bne_eq_false_iff_eq, beq_iff_eq, beq_eq_false_iff_ne, Bool.not_eq_true', Bool.not_eq_false'] at h11
        exact Tm.ret (by trivial)
      · try simp only [decide_eq_true_eq, decide_eq_false_iff_not, Int.not_lt, Int.not_le, bne_iff_ne, ne_eq, bne_eq_false_iff_eq, beq_iff_eq, beq_eq_false_iff_ne, Bool.not_eq_true', Bool.not_eq_false'] at h11
        try rw [wrap_i64 (x := i + 1) (by omega) (by omega)]
        exact hL ((i + 1)) (by (try simp only []); omega) (by (try simp only []); omega)
    · try simp only [decide_eq_true_eq, decide_eq_false_iff_not, Int.not_lt, Int.not_le, bne_iff_ne, ne_eq, bne_eq_false_iff_eq, beq_iff_eq, beq_eq_false_iff_ne, Bool.not_eq_true', Bool.not_eq_false'] at h1
      exact Tm.ret (by trivial)
noncomputable def spec_l9Find.v (a0 : List (List D)) (a1 : ByteArray) : Int := (spec_l9Find.t big a0 a1).getD default
theorem spec_l9Find.tv {a0 : List (List D)} {a1 : ByteArray} (ga0 : SlOk RSII lim a0) (ga1 : a1.size ≤ lim) {k : Nat} (hk : Fuel k) : spec_l9Find.t k a0 a1 = some (spec_l9Find.v a0 a1) := (spec_l9Find.T ga0 ga1).val hk
theorem spec_l9Find.fv {a0 : List (List D)} {a1 : ByteArray} (ga0 : SlOk RSII lim a0) (ga1 : a1.size ≤ lim) {k : Nat} (hk : Fuel k) {β : Type} (K : Int → Option β) : spec_l9Find.f k a0 a1 K = K (spec_l9Find.v a0 a1) := spec_l9Find.f_of (spec_l9Find.tv ga0 ga1 hk) K
theorem spec_QueueOk.f_of {β : Type} {k : Nat} {a0_0 : List (List D)} {a0_1 : List (List D)} {a0_2 : List (List D)} {a0_3 : Int} {z0 : Bool} (h : spec_QueueOk.t k a0_0 a0_1 a0_2 a0_3 = some z0) (K : Bool → Option β) : spec_QueueOk.f k a0_0 a0_1 a0_2 a0_3 K = K z0 := by
  unfold spec_QueueOk.f
  rw [h]
theorem spec_QueueOk.tm {ι α : Type} {ok : ι → Prop} {ψ : α → Prop} {p : ι → Nat} {B : Nat} (hp : ∀ i, ok i → B ≤ p i) {a0_0 : List (List D)} {a0_1 : List (List D)} {a0_2 : List (List D)} {a0_3 : Int} {φ : Bool → Prop} (h : Tm (fun k => B ≤ k) (fun k => spec_QueueOk.t k a0_0 a0_1 a0_2 a0_3) φ) {G : ι → Bool → Option α} (hG : ∀ z0, φ z0 → Tm ok (fun i => G i z0) ψ) : Tm ok (fun i => spec_QueueOk.f (p i) a0_0 a0_1 a0_2 a0_3 (G i)) ψ := by
  obtain ⟨z0, h1, h2⟩ := h
  exact (hG z0 h1).congr fun i hi => spec_QueueOk.f_of (h2 (p i) (hp i hi)) _
def placeOf (xs : List (List D)) (s : ByteArray) : Int := findI (fun i => strEq (gS xs (i : Int) 0) s) xs.length
theorem l9Find_fv {B : Nat} {a : List (List D)} {s : ByteArray} (g : ∀ r ∈ a, RSII B r) (hl : a.length ≤ 2097152) {k : Nat} (hk : Fuel k) {β : Type} (K : Int → Option β) : spec_l9Find.f k a s K = K (placeOf a s) := spec_l9Find.f_of (by
  have hb : big = 2 ^ 64 := rfl
  unfold spec_l9Find.t spec_l9Find.g placeOf
  rw [iter_find (n := a.length) (fun i => strEq (gS a (i : Int) 0) s) (r1 := fun i => some (i : Int)) (r2 := some (-1)) (by unfold Fuel at hk; omega)]
  · unfold findI
    split <;> simp_all
  · intro L i hi
    simp (disch := omega) only [spec_l9Find.l0, dec_true (show (i : Int) < a.length by omega), cond_true, RSII.rows g, uncons_at, dStr_at, dInt_self, atEnd_at, wrap_i64]
  · intro L
    simp [spec_l9Find.l0]) K
noncomputable def itemsB (all : List (List D)) (n0 : Int) : Bool := (List.range all.length).all fun i => spec_NameOk.v (gS all (i : Int) 0) && (placeOf all (gS all (i : Int) 0) == (i : Int) && (inB (gI all (i : Int) 1) 0 1000064 && (inB (gI all (i : Int) 2) 0 1000 && (!decide ((i : Int) ≥ n0) || gI all (i : Int) 1 == 0))))
def beforeB (again : List (List D)) (i : Nat) : Bool := (List.range i).all fun j => !strEq (gS again (j : Int) 0) (gS again (i : Int) 0)
def againB (doing again : List (List D)) : Bool := (List.range again.length).all fun i => !decide (placeOf doing (gS again (i : Int) 0) < 0) && beforeB again i
noncomputable def queueB (a b c : List (List D)) (n : Int) : Bool := itemsB (a ++ b) a.length && (againB b c && (decide ((a.length : Int) ≤ 60) && (decide ((b.length : Int) ≤ 60) && inB n 0 1000000)))
theorem spec_QueueOk_t {a0_0 a0_1 a0_2 : List (List D)} {a0_3 : Int} (g0 : SlOk RSII lim a0_0) (g1 : SlOk RSII lim a0_1) (g2 : SlOk RS lim a0_2) {k : Nat} (hk : Fuel k) : spec_QueueOk.t k a0_0 a0_1 a0_2 a0_3 = some (queueB a0_0 a0_1 a0_2 a0_3) := by
  have hlim : lim = 1048576 := rfl
  have l0 := g0.1
  have l1 := g1.1
  have l2 := g2.1
  have hm : most = 2 ^ 36 := rfl
  have hb : big = 2 ^ 64 := rfl
  have hkb : 2 ^ 64 ≤ k := by unfold Fuel at hk; omega
  have ga := rows_app g0.2 g1.2
  have la : (a0_0 ++ a0_1).length ≤ 2097152 := by rw [List.length_append]; omega
  unfold spec_QueueOk.t spec_QueueOk.g
  rw [guard_at (show rowsOk 3 a0_0 from fun r hr => (g0.2 r hr).len), guard_at (by simp only [List.length_nil, map_len]; omega), guard_at (show rowsOk 3 a0_1 from fun r hr => (g1.2 r hr).len), guard_at (by simp only [List.nil_append, map_len]; omega)]
  simp only [List.nil_append]
  rw [← List.map_append]
  have inner : ∀ (L1 : (Int × (List (List D)) × (List (List D)) × (List (List D)) × Int) → Option Bool) (i : Nat), i < a0_2.length → iter (spec_QueueOk.l2 k (i : Int) a0_0 a0_1 a0_2 a0_3 L1 fun z0 => some z0) k 0 = bif beforeB a0_2 i then L1 ((i : Int) + 1, a0_0, a0_1, a0_2, a0_3) else some false := by
    intro L1 i hi
    refine iter_all0 (n := i) _ (by omega) (fun L j hj => ?_) (fun L => ?_)
    · simp (disch := omega) only [spec_QueueOk.l2, dec_true (show (j : Int) < i by omega), cond_true, RS.row g2, uncons_at, dStr_at, atEnd_at, wrap_i64]
      cases strEq (gS a0_2 (j : Int) 0) (gS a0_2 (i : Int) 0) <;> rfl
    · simp (disch := omega) only [spec_QueueOk.l2, dec_false (show ¬ (i : Int) < i by omega), cond_false, wrap_i64]
  have mid : iter (spec_QueueOk.l1 k fun z0 => some z0) k (0, a0_0, a0_1, a0_2, a0_3) = some (againB a0_1 a0_2 && (decide ((a0_0.length : Int) ≤ 60) && (decide ((a0_1.length : Int) ≤ 60) && inB a0_3 0 1000000))) := by
    refine (iter_allT (fun i => ((i : Int), a0_0, a0_1, a0_2, a0_3)) (n := a0_2.length) (fun i => !decide (placeOf a0_1 (gS a0_2 (i : Int) 0) < 0) && beforeB a0_2 i) (r1 := some false) (r2 := some (decide ((a0_0.length : Int) ≤ 60) && (decide ((a0_1.length : Int) ≤ 60) && inB a0_3 0 1000000))) (by omega) (fun L i hi => ?_) (fun L => ?_)).trans ?_
    · simp (disch := omega) only [spec_QueueOk.l1, dec_true (show (i : Int) < a0_2.length by omega), cond_true, RS.row g2, uncons_at, dStr_at, atEnd_at, l9Find_fv g1.2 (by omega) hk]
      rw [inner L i hi]
      cases decide (placeOf a0_1 (gS a0_2 (i : Int) 0) < 0) <;> rfl
    · simp only [spec_QueueOk.l1, dec_false (show ¬ (a0_2.length : Int) < a0_2.length by omega), cond_false, l1In_fv]
      cases decide ((a0_0.length : Int) ≤ 60) <;> cases decide ((a0_1.length : Int) ≤ 60) <;> rfl
    · unfold againB
      generalize List.all _ _ = x
      cases x <;> rfl
  rw [iter_all0 (n := (a0_0 ++ a0_1).length) (fun i => spec_NameOk.v (gS (a0_0 ++ a0_1) (i : Int) 0) && (placeOf (a0_0 ++ a0_1) (gS (a0_0 ++ a0_1) (i : Int) 0) == (i : Int) && (inB (gI (a0_0 ++ a0_1) (i : Int) 1) 0 1000064 && (inB (gI (a0_0 ++ a0_1) (i : Int) 2) 0 1000 && (!decide ((i : Int) ≥ a0_0.length) || gI (a0_0 ++ a0_1) (i : Int) 1 == 0))))) (r1 := some false) (r2 := some (againB a0_1 a0_2 && (decide ((a0_0.length : Int) ≤ 60) && (decide ((a0_1.length : Int) ≤ 60) && inB a0_3 0 1000000)))) (by omega)]
  · unfold queueB itemsB
    generalize List.all _ _ = x
    cases x <;> rfl
  · intro L i hi
    have hg := RSII.gets ga (v := (i : Int)) (by omega) (by omega)
    simp (disch := omega) only [spec_QueueOk.l0, map_len, dec_true (show (i : Int) < (a0_0 ++ a0_1).length by omega), cond_true, guard_at (show (0 : Int) ≤ i ∧ (i : Int) < ((a0_0 ++ a0_1).length : Int) by omega), atNat_up, imm_rows]
    rw [hg.1]
    simp (disch := omega) only [List.map_cons, List.map_nil, List.drop_zero, uncons_at, cD_at, dStr_at, dInt_self, spec_NameOk.fv hg.2.1 hk, l9Find_fv ga la hk, l1In_fv, wrap_i64]
    cases spec_NameOk.v (gS (a0_0 ++ a0_1) (i : Int) 0)
    · rfl
    · cases h1 : (placeOf (a0_0 ++ a0_1) (gS (a0_0 ++ a0_1) (i : Int) 0) == (i : Int)) <;> cases inB (gI (a0_0 ++ a0_1) (i : Int) 1) 0 1000064 <;> cases inB (gI (a0_0 ++ a0_1) (i : Int) 2) 0 1000 <;> cases decide ((i : Int) ≥ a0_0.length) <;> cases h2 : gI (a0_0 ++ a0_1) (i : Int) 1 == 0 <;> simp [bne, h1, h2]
  · intro L
    simp only [spec_QueueOk.l0, map_len, dec_false (show ¬ ((a0_0 ++ a0_1).length : Int) < (a0_0 ++ a0_1).length by omega), cond_false]
    exact mid
theorem spec_QueueOk.T {a0_0 a0_1 a0_2 : List (List D)} {a0_3 : Int} (g0 : SlOk RSII lim a0_0) (g1 : SlOk RSII lim a0_1) (g2 : SlOk RS lim a0_2) : Tm Fuel (fun k => spec_QueueOk.t k a0_0 a0_1 a0_2 a0_3) (fun _ => True) := Tm.of (fun k hk => spec_QueueOk_t g0 g1 g2 hk) trivial

theorem impl_within.f_of {β : Type} {k : Nat} {a0 : Int} {a1 : Int} {a2 : Int} {z0 : Bool} (h : impl_within.t k a0 a1 a2 = some z0) (K : Bool → Option β) : impl_within.f k a0 a1 a2 K = K z0 := by
  unfold impl_within.f
  rw [h]
theorem impl_within.tm {ι α : Type} {ok : ι → Prop} {ψ : α → Prop} {p : ι → Nat} {B : Nat} (hp : ∀ i, ok i → B ≤ p i) {a0 : Int} {a1 : Int} {a2 : Int} {φ : Bool → Prop} (h : Tm (fun k => B ≤ k) (fun k => impl_within.t k a0 a1 a2) φ) {G : ι → Bool → Option α} (hG : ∀ z0, φ z0 → Tm ok (fun i => G i z0) ψ) : Tm ok (fun i => impl_within.f (p i) a0 a1 a2 (G i)) ψ := by
  obtain ⟨z0, h1, h2⟩ := h
  exact (hG z0 h1).congr fun i hi => impl_within.f_of (h2 (p i) (hp i hi)) _
theorem slices_Grow_impl_Item_nil.f_of {β : Type} {k : Nat} {a1 : Int} {z0 : List (List C)} (h : slices_Grow_impl_Item_nil.t k a1 = some z0) (K : (List (List C)) → Option β) : slices_Grow_impl_Item_nil.f k a1 K = K z0 := by
  unfold slices_Grow_impl_Item_nil.f
  rw [h]
theorem slices_Grow_impl_Item_nil.tm {ι α : Type} {ok : ι → Prop} {ψ : α → Prop} {p : ι → Nat} {B : Nat} (hp : ∀ i, ok i → B ≤ p i) {a1 : Int} {φ : (List (List C)) → Prop} (h : Tm (fun k => B ≤ k) (fun k => slices_Grow_impl_Item_nil.t k a1) φ) {G : ι → (List (List C)) → Option α} (hG : ∀ z0, φ z0 → Tm ok (fun i => G i z0) ψ) : Tm ok (fun i => slices_Grow_impl_Item_nil.f (p i) a1 (G i)) ψ := by
  obtain ⟨z0, h1, h2⟩ := h
  exact (hG z0 h1).congr fun i hi => slices_Grow_impl_Item_nil.f_of (h2 (p i) (hp i hi)) _
theorem slices_Concat_impl_Item.f_of {β : Type} {k : Nat} {a0 : List (List D)} {z0 : List (List C)} (h : slices_Concat_impl_Item.t k a0 = some z0) (K : (List (List C)) → Option β) : slices_Concat_impl_Item.f k a0 K = K z0 := by
  unfold slices_Concat_impl_Item.f
  rw [h]
theorem slices_Concat_impl_Item.tm {ι α : Type} {ok : ι → Prop} {ψ : α → Prop} {p : ι → Nat} {B : Nat} (hp : ∀ i, ok i → B ≤ p i) {a0 : List (List D)} {φ : (List (List C)) → Prop} (h : Tm (fun k => B ≤ k) (fun k => slices_Concat_impl_Item.t k a0) φ) {G : ι → (List (List C)) → Option α} (hG : ∀ z0, φ z0 → Tm ok (fun i => G i z0) ψ) : Tm ok (fun i => slices_Concat_impl_Item.f (p i) a0 (G i)) ψ := by
  obtain ⟨z0, h1, h2⟩ := h
  exact (hG z0 h1).congr fun i hi => slices_Concat_impl_Item.f_of (h2 (p i) (hp i hi)) _
def RLSIIE (B : Nat) (r : List D) : Prop := ∃ (c0 : List (List D)), r = [.sl c0] ∧ SlOk RSII B c0 ∧ True
theorem RLSIIE.open {B : Nat} {r : List D} (h : RLSIIE B r) : ∃ (c0 : List (List D)), r = [.sl c0] ∧ SlOk RSII B c0 ∧ True := h
theorem RLSIIE.len {B : Nat} {r : List D} (h : RLSIIE B r) : r.length = 1 := by
  obtain ⟨c0, rfl, _⟩ := h.open
  rfl
theorem RLSIIE.gets {B : Nat} {xs : List (List D)} (h : ∀ r ∈ xs, RLSIIE B r) {v : Int} (h0 : 0 ≤ v) (h1 : v < xs.length) : gR xs v = [.sl (gL xs v 0)] ∧ SlOk RSII B (gL xs v 0) ∧ True := by
  obtain ⟨c0, e, k0, _⟩ := (h (gR xs v) (gR_mem h0 h1)).open
  unfold gL
  rw [e]
  exact ⟨rfl, k0, trivial⟩
theorem RLSIIE.rows {B : Nat} {xs : List (List D)} (h : ∀ r ∈ xs, RLSIIE B r) {v : Int} (h0 : 0 ≤ v) (h1 : v < xs.length) {β : Type} (F : List D → Option β) : atRow xs v F = F [.sl (gL xs v 0)] := by
  rw [← (RLSIIE.gets h h0 h1).1]
  exact atRow_gR h0 h1 F
theorem RLSIIE.get {B : Nat} {xs : List (List D)} (h : SlOk RLSIIE B xs) {v : Int} (h0 : 0 ≤ v) (h1 : v < xs.length) : gR xs v = [.sl (gL xs v 0)] ∧ SlOk RSII B (gL xs v 0) ∧ True := RLSIIE.gets h.2 h0 h1
theorem RLSIIE.row {B : Nat} {xs : List (List D)} (h : SlOk RLSIIE B xs) {v : Int} (h0 : 0 ≤ v) (h1 : v < xs.length) {β : Type} (F : List D → Option β) : atRow xs v F = F [.sl (gL xs v 0)] := RLSIIE.rows h.2 h0 h1 F
theorem impl_NameOk.f_of {β : Type} {k : Nat} {a0 : ByteArray} {z0 : Bool} (h : impl_NameOk.t k a0 = some z0) (K : Bool → Option β) : impl_NameOk.f k a0 K = K z0 := by
  unfold impl_NameOk.f
  rw [h]
theorem impl_NameOk.tm {ι α : Type} {ok : ι → Prop} {ψ : α → Prop} {p : ι → Nat} {B : Nat} (hp : ∀ i, ok i → B ≤ p i) {a0 : ByteArray} {φ : Bool → Prop} (h : Tm (fun k => B ≤ k) (fun k => impl_NameOk.t k a0) φ) {G : ι → Bool → Option α} (hG : ∀ z0, φ z0 → Tm ok (fun i => G i z0) ψ) : Tm ok (fun i => impl_NameOk.f (p i) a0 (G i)) ψ := by
  obtain ⟨z0, h1, h2⟩ := h
  exact (hG z0 h1).congr fun i hi => impl_NameOk.f_of (h2 (p i) (hp i hi)) _
theorem within_f {β : Type} {k : Nat} {a b c : Int} (K : Bool → Option β) : impl_within.f k a b c K = K (decide (b ≤ a) && decide (a ≤ c)) := by
  refine impl_within.f_of ?_ K
  unfold impl_within.t impl_within.g
  by_cases h : b ≤ a <;> simp [h]
theorem impl_NameOk.same {k : Nat} {a : ByteArray} : impl_NameOk.t k a = spec_NameOk.t k a := by
  unfold impl_NameOk.t spec_NameOk.t impl_NameOk.g spec_NameOk.g
  congr 1
  funext L v
  simp only [impl_NameOk.l0, spec_NameOk.l0, l1In_f, within_f]
  refine bif_congr (fun _ => ?_) (fun _ => rfl)
  unfold atStr
  split
  · split
    · rename_i b _
      have hb : b.toNat < 256 := b.toNat_lt
      simp only []
      rw [wrap_i64 (x := (b.toNat : Int)) (by omega) (by omega)]
      generalize (b.toNat : Int) = x
      by_cases h1 : x < 97 <;> by_cases h2 : x < 48 <;> by_cases h3 : x > 57 <;> by_cases h4 : x > 122 <;> simp [h1, h2, h3, h4] <;> (try omega) <;> grind
    · rfl
  · rfl

theorem impl_NameOk_f {β : Type} {k : Nat} {a : ByteArray} (K : Bool → Option β) : impl_NameOk.f k a K = spec_NameOk.f k a K := by
  unfold impl_NameOk.f spec_NameOk.f
  rw [impl_NameOk.same]

theorem within_fv {β : Type} {k : Nat} {a b c : Int} (K : Bool → Option β) : impl_within.f k a b c K = K (inB a b c) := within_f K

theorem impl_itemAt_1.f_of {β : Type} {k : Nat} {a0_0 : ByteArray} {a0_1 : Int} {a0_2 : Int} {f0_0 : ByteArray} {z0 : Bool} (h : impl_itemAt_1.t k a0_0 a0_1 a0_2 f0_0 = some z0) (K : Bool → Option β) : impl_itemAt_1.f k a0_0 a0_1 a0_2 f0_0 K = K z0 := by
  unfold impl_itemAt_1.f
  rw [h]
theorem impl_itemAt_1.tm {ι α : Type} {ok : ι → Prop} {ψ : α → Prop} {p : ι → Nat} {B : Nat} (hp : ∀ i, ok i → B ≤ p i) {a0_0 : ByteArray} {a0_1 : Int} {a0_2 : Int} {f0_0 : ByteArray} {φ : Bool → Prop} (h : Tm (fun k => B ≤ k) (fun k => impl_itemAt_1.t k a0_0 a0_1 a0_2 f0_0) φ) {G : ι → Bool → Option α} (hG : ∀ z0, φ z0 → Tm ok (fun i => G i z0) ψ) : Tm ok (fun i => impl_itemAt_1.f (p i) a0_0 a0_1 a0_2 f0_0 (G i)) ψ := by
  obtain ⟨z0, h1, h2⟩ := h
  exact (hG z0 h1).congr fun i hi => impl_itemAt_1.f_of (h2 (p i) (hp i hi)) _
theorem slices_IndexFunc_impl_Item__impl_itemAt_1.f_of {β : Type} {k : Nat} {a0 : List (List D)} {a1_0_0 : ByteArray} {z0 : Int} (h : slices_IndexFunc_impl_Item__impl_itemAt_1.t k a0 a1_0_0 = some z0) (K : Int → Option β) : slices_IndexFunc_impl_Item__impl_itemAt_1.f k a0 a1_0_0 K = K z0 := by
  unfold slices_IndexFunc_impl_Item__impl_itemAt_1.f
  rw [h]
theorem slices_IndexFunc_impl_Item__impl_itemAt_1.tm {ι α : Type} {ok : ι → Prop} {ψ : α → Prop} {p : ι → Nat} {B : Nat} (hp : ∀ i, ok i → B ≤ p i) {a0 : List (List D)} {a1_0_0 : ByteArray} {φ : Int → Prop} (h : Tm (fun k => B ≤ k) (fun k => slices_IndexFunc_impl_Item__impl_itemAt_1.t k a0 a1_0_0) φ) {G : ι → Int → Option α} (hG : ∀ z0, φ z0 → Tm ok (fun i => G i z0) ψ) : Tm ok (fun i => slices_IndexFunc_impl_Item__impl_itemAt_1.f (p i) a0 a1_0_0 (G i)) ψ := by
  obtain ⟨z0, h1, h2⟩ := h
  exact (hG z0 h1).congr fun i hi => slices_IndexFunc_impl_Item__impl_itemAt_1.f_of (h2 (p i) (hp i hi)) _
theorem impl_itemAt.f_of {β : Type} {k : Nat} {a0 : List (List D)} {a1 : ByteArray} {z0 : Int} (h : impl_itemAt.t k a0 a1 = some z0) (K : Int → Option β) : impl_itemAt.f k a0 a1 K = K z0 := by
  unfold impl_itemAt.f
  rw [h]
theorem impl_itemAt.tm {ι α : Type} {ok : ι → Prop} {ψ : α → Prop} {p : ι → Nat} {B : Nat} (hp : ∀ i, ok i → B ≤ p i) {a0 : List (List D)} {a1 : ByteArray} {φ : Int → Prop} (h : Tm (fun k => B ≤ k) (fun k => impl_itemAt.t k a0 a1) φ) {G : ι → Int → Option α} (hG : ∀ z0, φ z0 → Tm ok (fun i => G i z0) ψ) : Tm ok (fun i => impl_itemAt.f (p i) a0 a1 (G i)) ψ := by
  obtain ⟨z0, h1, h2⟩ := h
  exact (hG z0 h1).congr fun i hi => impl_itemAt.f_of (h2 (p i) (hp i hi)) _
theorem itemAt_fv {B : Nat} {a : List (List D)} {s : ByteArray} (g : ∀ r ∈ a, RSII B r) (hl : a.length ≤ 2097152) {k : Nat} (hk : Fuel k) {β : Type} (K : Int → Option β) : impl_itemAt.f k a s K = K (placeOf a s) := impl_itemAt.f_of (by
  have hb : big = 2 ^ 64 := rfl
  unfold impl_itemAt.t impl_itemAt.g
  rw [slices_IndexFunc_impl_Item__impl_itemAt_1.f_of (z0 := placeOf a s)]
  unfold slices_IndexFunc_impl_Item__impl_itemAt_1.t slices_IndexFunc_impl_Item__impl_itemAt_1.g
  refine iter_findI (n := a.length) _ some (by unfold Fuel at hk; omega) (fun L i hi => ?_) (fun L => by simp [slices_IndexFunc_impl_Item__impl_itemAt_1.l0])
  have hs : ∀ {x : ByteArray} {y z : Int} {β : Type} (K : Bool → Option β), impl_itemAt_1.f k x y z s K = K (strEq x s) := fun K => impl_itemAt_1.f_of (by unfold impl_itemAt_1.t impl_itemAt_1.g; rfl) K
  simp (disch := omega) only [slices_IndexFunc_impl_Item__impl_itemAt_1.l0, dec_true (show (i : Int) < a.length by omega), cond_true, RSII.rows g, uncons_at, dStr_at, dInt_self, atEnd_at, hs, wrap_i64]) K
theorem grow_nil_fv {n : Int} (h0 : 0 ≤ n) (h1 : n ≤ 2097152) {k : Nat} {β : Type} (K : List (List C) → Option β) : slices_Grow_impl_Item_nil.f k n K = K [] := slices_Grow_impl_Item_nil.f_of (by
  unfold slices_Grow_impl_Item_nil.t slices_Grow_impl_Item_nil.g
  have hm : most = 2 ^ 36 := rfl
  have e1 : IntKind.wrap .i64 (0 - 0) = 0 := by rw [wrap_i64] <;> omega
  have e2 : IntKind.wrap .i64 (n - 0) = n := by rw [wrap_i64] <;> omega
  rw [e1, e2, dec_false (by omega), cond_false]
  by_cases hn : n > 0
  · rw [dec_true hn, cond_true, guard_at (by omega), guard_at (by omega), guard_at (by rw [List.length_replicate]; omega), guard_at (by rw [List.length_replicate]; omega)]
    rfl
  · rw [dec_false hn, cond_false]) K
theorem concat_fv {B : Nat} {a b : List (List D)} (ga : ∀ r ∈ a, RSII B r) (gb : ∀ r ∈ b, RSII B r) (la : a.length ≤ 1048576) (lb : b.length ≤ 1048576) {k : Nat} (hk : Fuel k) {β : Type} (K : List (List C) → Option β) : slices_Concat_impl_Item.f k [[.sl a], [.sl b]] K = K ((a ++ b).map (·.map C.d)) := slices_Concat_impl_Item.f_of (by
  have hm : most = 2 ^ 36 := rfl
  have hb : big = 2 ^ 64 := rfl
  have hkb : 2 ^ 64 ≤ k := by unfold Fuel at hk; omega
  unfold slices_Concat_impl_Item.t slices_Concat_impl_Item.g
  have r0 : ∀ {β : Type} (F : List D → Option β), atRow ([[.sl a], [.sl b]] : List (List D)) 0 F = F [.sl a] := fun F => rfl
  have r1 : ∀ {β : Type} (F : List D → Option β), atRow ([[.sl a], [.sl b]] : List (List D)) 1 F = F [.sl b] := fun F => rfl
  have c0 : decide ((0 : Int) < (([[.sl a], [.sl b]] : List (List D)).length : Int)) = true := rfl
  have c1 : decide ((1 : Int) < (([[.sl a], [.sl b]] : List (List D)).length : Int)) = true := rfl
  have c2 : decide ((2 : Int) < (([[.sl a], [.sl b]] : List (List D)).length : Int)) = false := rfl
  have w1 : IntKind.wrap .i64 (0 + 1) = 1 := by rw [wrap_i64] <;> omega
  have w2 : IntKind.wrap .i64 (1 + 1) = 2 := by rw [wrap_i64] <;> omega
  have wa : IntKind.wrap .i64 (0 + (a.length : Int)) = a.length := by rw [wrap_i64] <;> omega
  have wb : IntKind.wrap .i64 ((a.length : Int) + (b.length : Int)) = (a.length : Int) + b.length := by rw [wrap_i64] <;> omega
  have oa : rowsOk 3 a := fun r hr => (ga r hr).len
  have ob : rowsOk 3 b := fun r hr => (gb r hr).len
  rw [iter_step (by omega)]
  simp only [slices_Concat_impl_Item.l0, c0, cond_true, r0, uncons_at, dSl_at, atEnd_at, w1, wa, dec_false (show ¬ (a.length : Int) < 0 by omega), cond_false]
  rw [iter_step (by omega)]
  simp only [slices_Concat_impl_Item.l0, c1, cond_true, r1, uncons_at, dSl_at, atEnd_at, w2, wb, dec_false (show ¬ (a.length : Int) + b.length < 0 by omega), cond_false]
  rw [iter_step (by omega)]
  simp only [slices_Concat_impl_Item.l0, c2, cond_false, grow_nil_fv (show (0 : Int) ≤ (a.length : Int) + b.length by omega) (by omega)]
  rw [iter_step (by omega)]
  simp only [slices_Concat_impl_Item.l1, c0, cond_true, r0, uncons_at, dSl_at, atEnd_at, w1, guard_at oa]
  rw [guard_at (by simp only [List.length_nil, map_len]; omega), iter_step (by omega)]
  simp only [slices_Concat_impl_Item.l1, c1, cond_true, r1, uncons_at, dSl_at, atEnd_at, w2, guard_at ob]
  rw [guard_at (by simp only [List.nil_append, map_len]; omega), iter_step (by omega)]
  simp only [slices_Concat_impl_Item.l1, c2, cond_false, List.nil_append, List.map_append]) K

theorem slices_Index_string.f_of {β : Type} {k : Nat} {a0 : List (List D)} {a1 : ByteArray} {z0 : Int} (h : slices_Index_string.t k a0 a1 = some z0) (K : Int → Option β) : slices_Index_string.f k a0 a1 K = K z0 := by
  unfold slices_Index_string.f
  rw [h]
theorem slices_Index_string.tm {ι α : Type} {ok : ι → Prop} {ψ : α → Prop} {p : ι → Nat} {B : Nat} (hp : ∀ i, ok i → B ≤ p i) {a0 : List (List D)} {a1 : ByteArray} {φ : Int → Prop} (h : Tm (fun k => B ≤ k) (fun k => slices_Index_string.t k a0 a1) φ) {G : ι → Int → Option α} (hG : ∀ z0, φ z0 → Tm ok (fun i => G i z0) ψ) : Tm ok (fun i => slices_Index_string.f (p i) a0 a1 (G i)) ψ := by
  obtain ⟨z0, h1, h2⟩ := h
  exact (hG z0 h1).congr fun i hi => slices_Index_string.f_of (h2 (p i) (hp i hi)) _
theorem slices_Index_string.T {a0 : List (List D)} {a1 : ByteArray} (ga0 : SlOk RS lim a0) (ga1 : a1.size ≤ lim) : Tm Fuel (fun k => slices_Index_string.t k a0 a1) (fun _ => True) := by
  unfold slices_Index_string.t slices_Index_string.g
  have hm := maxLen_eq
  have hlim : lim = 1048576 := rfl
  have la0 := ga0.1
  refine Tm.loop (okk := Fuel) (p := fun k => k) (fun i hi => hi) (b := fun k => slices_Index_string.l0 k a0 a1 (a0.length : Int) (fun z0 => some z0)) (fun i => (((a0.length : Int)) - i).toNat) (fun i => 0 ≤ i ∧ i ≤ (a0.length : Int)) ?_ ?_ ?_
  · rintro i hI
    try simp only [] at hI ⊢
    have : big = 2 ^ 64 := rfl
    omega
  · ((try simp only []); omega)
  · rintro i hI L hL
    try simp only [] at hI
    obtain ⟨i0, i1⟩ := hI
    simp only [slices_Index_string.l0]
    refine Tm.ite (fun h1 => ?_) (fun h1 => ?_)
    · try simp only [decide_eq_true_eq, decide_eq_false_iff_not, Int.not_lt, Int.not_le, bne_iff_ne, ne_eq, bne_eq_false_iff_eq, beq_iff_eq, beq_eq_false_iff_ne, Bool.not_eq_true', Bool.not_eq_false'] at h1
      refine Tm.atRow (by first | assumption | omega | (simp only [lim, maxLen_eq] at *; omega)) (by first | assumption | omega | (simp only [lim, maxLen_eq] at *; omega)) (fun x2 hx3 hm4 => ?_)
      obtain ⟨c5, rfl, g6, _⟩ := (ga0.2 x2 hm4).open
      refine Tm.uncons ?_
      refine Tm.dStr ?_
      refine Tm.atEnd ?_
      refine Tm.ite (fun h7 => ?_) (fun h7 => ?_)
      · try simp only [decide_eq_true_eq, decide_eq_false_iff_not, Int.not_lt, Int.not_le, bne_iff_ne, ne_eq, bne_eq_false_iff_eq, beq_iff_eq, beq_eq_false_iff_ne, Bool.not_eq_true', Bool.not_eq_false'] at h7
        exact Tm.ret (by trivial)
      · try simp only [decide_eq_true_eq, decide_eq_false_iff_not, Int.not_lt, Int.not_le, bne_iff_ne, ne_eq, bne_eq_false_iff_eq, beq_iff_eq, beq_eq_false_iff_ne, Bool.not_eq_true', Bool.not_eq_false'] at h7
        try rw [wrap_i64 (x := i + 1) (by omega) (by omega)]
        exact hL ((i + 1)) (by (try simp only []); omega) (by (try simp only []); omega)
    · try simp only [decide_eq_true_eq, decide_eq_false_iff_not, Int.not_lt, Int.not_le, bne_iff_ne, ne_eq, bne_eq_false_iff_eq, beq_iff_eq, beq_eq_false_iff_ne, Bool.not_eq_true', Bool.not_eq_false'] at h1
      exact Tm.ret (by trivial)
noncomputable def slices_Index_string.v (a0 : List (List D)) (a1 : ByteArray) : Int := (slices_Index_string.t big a0 a1).getD default
theorem slices_Index_string.tv {a0 : List (List D)} {a1 : ByteArray} (ga0 : SlOk RS lim a0) (ga1 : a1.size ≤ lim) {k : Nat} (hk : Fuel k) : slices_Index_string.t k a0 a1 = some (slices_Index_string.v a0 a1) := (slices_Index_string.T ga0 ga1).val hk
theorem slices_Index_string.fv {a0 : List (List D)} {a1 : ByteArray} (ga0 : SlOk RS lim a0) (ga1 : a1.size ≤ lim) {k : Nat} (hk : Fuel k) {β : Type} (K : Int → Option β) : slices_Index_string.f k a0 a1 K = K (slices_Index_string.v a0 a1) := slices_Index_string.f_of (slices_Index_string.tv ga0 ga1 hk) K
theorem slices_Contains_string.f_of {β : Type} {k : Nat} {a0 : List (List D)} {a1 : ByteArray} {z0 : Bool} (h : slices_Contains_string.t k a0 a1 = some z0) (K : Bool → Option β) : slices_Contains_string.f k a0 a1 K = K z0 := by
  unfold slices_Contains_string.f
  rw [h]
theorem slices_Contains_string.tm {ι α : Type} {ok : ι → Prop} {ψ : α → Prop} {p : ι → Nat} {B : Nat} (hp : ∀ i, ok i → B ≤ p i) {a0 : List (List D)} {a1 : ByteArray} {φ : Bool → Prop} (h : Tm (fun k => B ≤ k) (fun k => slices_Contains_string.t k a0 a1) φ) {G : ι → Bool → Option α} (hG : ∀ z0, φ z0 → Tm ok (fun i => G i z0) ψ) : Tm ok (fun i => slices_Contains_string.f (p i) a0 a1 (G i)) ψ := by
  obtain ⟨z0, h1, h2⟩ := h
  exact (hG z0 h1).congr fun i hi => slices_Contains_string.f_of (h2 (p i) (hp i hi)) _
theorem slices_Contains_string.T {a0 : List (List D)} {a1 : ByteArray} (ga0 : SlOk RS lim a0) (ga1 : a1.size ≤ lim) : Tm Fuel (fun k => slices_Contains_string.t k a0 a1) (fun _ => True) := by
  unfold slices_Contains_string.t slices_Contains_string.g
  have hm := maxLen_eq
  have hlim : lim = 1048576 := rfl
  have la0 := ga0.1
  refine slices_Index_string.tm (fun i hi => hi) (slices_Index_string.T (by first | assumption | omega | (simp only [lim, maxLen_eq] at *; omega)) (by first | assumption | omega | (simp only [lim, maxLen_eq] at *; omega))) (fun y2 hy1 => ?_)
  exact Tm.ret (by trivial)
noncomputable def slices_Contains_string.v (a0 : List (List D)) (a1 : ByteArray) : Bool := (slices_Contains_string.t big a0 a1).getD default
theorem slices_Contains_string.tv {a0 : List (List D)} {a1 : ByteArray} (ga0 : SlOk RS lim a0) (ga1 : a1.size ≤ lim) {k : Nat} (hk : Fuel k) : slices_Contains_string.t k a0 a1 = some (slices_Contains_string.v a0 a1) := (slices_Contains_string.T ga0 ga1).val hk
theorem slices_Contains_string.fv {a0 : List (List D)} {a1 : ByteArray} (ga0 : SlOk RS lim a0) (ga1 : a1.size ≤ lim) {k : Nat} (hk : Fuel k) {β : Type} (K : Bool → Option β) : slices_Contains_string.f k a0 a1 K = K (slices_Contains_string.v a0 a1) := slices_Contains_string.f_of (slices_Contains_string.tv ga0 ga1 hk) K
theorem strEq_comm (a b : ByteArray) : strEq a b = strEq b a := by
  unfold strEq
  rw [Bool.eq_iff_iff]
  simp only [beq_iff_eq]
  exact ⟨Eq.symm, Eq.symm⟩
def amongB (xs : List (List D)) (s : ByteArray) : Bool := !(List.range xs.length).all fun i => !strEq (gS xs (i : Int) 0) s
theorem contains_fv {a : List (List D)} {s : ByteArray} (g : SlOk RS lim a) {k : Nat} (hk : Fuel k) {β : Type} (K : Bool → Option β) : slices_Contains_string.f k a s K = K (amongB a s) := by
  have hl := g.1
  have hlim : lim = 1048576 := rfl
  have hb : big = 2 ^ 64 := rfl
  have hf : ∀ {β : Type} (K : Int → Option β), slices_Index_string.f k a s K = K (findI (fun i => strEq (gS a (i : Int) 0) s) a.length) := fun K => slices_Index_string.f_of (by
    unfold slices_Index_string.t slices_Index_string.g
    refine iter_findI (n := a.length) _ some (by unfold Fuel at hk; omega) (fun L i hi => ?_) (fun L => by simp [slices_Index_string.l0])
    simp (disch := omega) only [slices_Index_string.l0, dec_true (show (i : Int) < a.length by omega), cond_true, RS.row g, uncons_at, dStr_at, atEnd_at, wrap_i64]
    rw [strEq_comm]) K
  refine slices_Contains_string.f_of ?_ K
  unfold slices_Contains_string.t slices_Contains_string.g
  rw [hf, findI_all]
  rfl

theorem impl_QueueOk.f_of {β : Type} {k : Nat} {a0_0 : List (List D)} {a0_1 : List (List D)} {a0_2 : List (List D)} {a0_3 : Int} {z0 : Bool} (h : impl_QueueOk.t k a0_0 a0_1 a0_2 a0_3 = some z0) (K : Bool → Option β) : impl_QueueOk.f k a0_0 a0_1 a0_2 a0_3 K = K z0 := by
  unfold impl_QueueOk.f
  rw [h]
theorem impl_QueueOk.tm {ι α : Type} {ok : ι → Prop} {ψ : α → Prop} {p : ι → Nat} {B : Nat} (hp : ∀ i, ok i → B ≤ p i) {a0_0 : List (List D)} {a0_1 : List (List D)} {a0_2 : List (List D)} {a0_3 : Int} {φ : Bool → Prop} (h : Tm (fun k => B ≤ k) (fun k => impl_QueueOk.t k a0_0 a0_1 a0_2 a0_3) φ) {G : ι → Bool → Option α} (hG : ∀ z0, φ z0 → Tm ok (fun i => G i z0) ψ) : Tm ok (fun i => impl_QueueOk.f (p i) a0_0 a0_1 a0_2 a0_3 (G i)) ψ := by
  obtain ⟨z0, h1, h2⟩ := h
  exact (hG z0 h1).congr fun i hi => impl_QueueOk.f_of (h2 (p i) (hp i hi)) _
theorem gS_take {xs : List (List D)} {n : Nat} {v : Int} {j : Nat} (h0 : 0 ≤ v) (h1 : v < n) : gS (xs.take n) v j = gS xs v j := by
  unfold gS
  rw [gR_take h1 h0]
theorem prefixB {xs : List (List D)} {i : Nat} (h : i ≤ xs.length) : amongB (xs.take i) (gS xs (i : Int) 0) = !beforeB xs i := by
  unfold amongB beforeB
  rw [List.length_take, show min i xs.length = i from by omega]
  congr 1
  rw [Bool.eq_iff_iff, List.all_eq_true, List.all_eq_true]
  constructor
  · intro h x hx
    have hx' : x < i := by simpa using hx
    rw [← gS_take (xs := xs) (n := i) (v := (x : Int)) (by omega) (by omega)]
    exact h x hx
  · intro h x hx
    have hx' : x < i := by simpa using hx
    rw [gS_take (xs := xs) (n := i) (v := (x : Int)) (by omega) (by omega)]
    exact h x hx
theorem impl_QueueOk.same {a0_0 a0_1 a0_2 : List (List D)} {a0_3 : Int} (g0 : SlOk RSII lim a0_0) (g1 : SlOk RSII lim a0_1) (g2 : SlOk RS lim a0_2) {k : Nat} (hk : Fuel k) : impl_QueueOk.t k a0_0 a0_1 a0_2 a0_3 = spec_QueueOk.t k a0_0 a0_1 a0_2 a0_3 := by
  rw [spec_QueueOk_t g0 g1 g2 hk]
  have hlim : lim = 1048576 := rfl
  have l0 := g0.1
  have l1 := g1.1
  have l2 := g2.1
  have hb : big = 2 ^ 64 := rfl
  have hkb : 2 ^ 64 ≤ k := by unfold Fuel at hk; omega
  have ga := rows_app g0.2 g1.2
  have la : (a0_0 ++ a0_1).length ≤ 2097152 := by rw [List.length_append]; omega
  unfold impl_QueueOk.t impl_QueueOk.g
  have mid : iter (impl_QueueOk.l1 k a0_2 (a0_2.length : Int) a0_0 a0_1 a0_2 a0_3 fun z0 => some z0) k 0 = some (againB a0_1 a0_2) := by
    rw [iter_all0 (n := a0_2.length) (fun i => !decide (placeOf a0_1 (gS a0_2 (i : Int) 0) < 0) && beforeB a0_2 i) (r1 := some false) (r2 := some true) (by omega)]
    · unfold againB
      generalize List.all _ _ = x
      cases x <;> rfl
    · intro L i hi
      have gt : SlOk RS lim (a0_2.take i) := ⟨by rw [List.length_take]; omega, rows_take g2.2⟩
      simp (disch := omega) only [impl_QueueOk.l1, dec_true (show (i : Int) < a0_2.length by omega), cond_true, RS.row g2, uncons_at, dStr_at, atEnd_at, itemAt_fv g1.2 (by omega) hk]
      rw [guard_at ⟨by omega, by omega, by omega, fun r hr => (g2.2 r hr).len⟩, show (Int.toNat (0 : Int)) = 0 from rfl, List.drop_zero, Int.toNat_natCast, Nat.sub_zero, contains_fv gt hk, prefixB (by omega), wrap_i64 (by omega) (by omega)]
      cases decide (placeOf a0_1 (gS a0_2 (i : Int) 0) < 0) <;> cases beforeB a0_2 i <;> rfl
    · intro L
      simp only [impl_QueueOk.l1, dec_false (show ¬ (a0_2.length : Int) < a0_2.length by omega), cond_false]
  simp only [within_fv, concat_fv g0.2 g1.2 (by omega : a0_0.length ≤ 1048576) (by omega : a0_1.length ≤ 1048576) hk, map_len]
  rw [iter_all0 (n := (a0_0 ++ a0_1).length) (fun i => spec_NameOk.v (gS (a0_0 ++ a0_1) (i : Int) 0) && (placeOf (a0_0 ++ a0_1) (gS (a0_0 ++ a0_1) (i : Int) 0) == (i : Int) && (inB (gI (a0_0 ++ a0_1) (i : Int) 1) 0 1000064 && (inB (gI (a0_0 ++ a0_1) (i : Int) 2) 0 1000 && (!decide ((i : Int) ≥ a0_0.length) || gI (a0_0 ++ a0_1) (i : Int) 1 == 0))))) (r1 := some false) (r2 := some (againB a0_1 a0_2)) (by omega)]
  · unfold queueB itemsB
    generalize List.all _ _ = x
    have e : ∀ n : Int, decide (n > 60) = !decide (n ≤ 60) := fun n => by by_cases h : n ≤ 60 <;> simp [h]; omega
    rw [e, e]
    cases decide ((a0_0.length : Int) ≤ 60) <;> cases decide ((a0_1.length : Int) ≤ 60) <;> cases inB a0_3 0 1000000 <;> cases x <;> cases againB a0_1 a0_2 <;> rfl
  · intro L i hi
    have hg := RSII.gets ga (v := (i : Int)) (by omega) (by omega)
    simp (disch := omega) only [impl_QueueOk.l0, map_len, dec_true (show (i : Int) < (a0_0 ++ a0_1).length by omega), cond_true, guard_at (show (0 : Int) ≤ i ∧ (i : Int) < ((a0_0 ++ a0_1).length : Int) by omega), atNat_up, imm_rows]
    rw [hg.1]
    simp (disch := omega) only [List.map_cons, List.map_nil, List.drop_zero, uncons_at, cD_at, dStr_at, dInt_self, concat_fv g0.2 g1.2 (by omega : a0_0.length ≤ 1048576) (by omega : a0_1.length ≤ 1048576) hk, imm_rows, impl_NameOk_f, spec_NameOk.fv hg.2.1 hk, itemAt_fv ga la hk, within_fv, wrap_i64]
    cases spec_NameOk.v (gS (a0_0 ++ a0_1) (i : Int) 0)
    · rfl
    · cases h1 : (placeOf (a0_0 ++ a0_1) (gS (a0_0 ++ a0_1) (i : Int) 0) == (i : Int)) <;> cases inB (gI (a0_0 ++ a0_1) (i : Int) 1) 0 1000064 <;> cases inB (gI (a0_0 ++ a0_1) (i : Int) 2) 0 1000 <;> cases decide ((i : Int) ≥ a0_0.length) <;> cases h2 : gI (a0_0 ++ a0_1) (i : Int) 1 == 0 <;> simp [bne, h1, h2]
  · intro L
    simp only [impl_QueueOk.l0, map_len, dec_false (show ¬ ((a0_0 ++ a0_1).length : Int) < (a0_0 ++ a0_1).length by omega), cond_false]
    exact mid

theorem laws_eqItem.f_of {β : Type} {k : Nat} {a0_0 : ByteArray} {a0_1 : Int} {a0_2 : Int} {a1_0 : ByteArray} {a1_1 : Int} {a1_2 : Int} {z0 : Bool} (h : laws_eqItem.t k a0_0 a0_1 a0_2 a1_0 a1_1 a1_2 = some z0) (K : Bool → Option β) : laws_eqItem.f k a0_0 a0_1 a0_2 a1_0 a1_1 a1_2 K = K z0 := by
  unfold laws_eqItem.f
  rw [h]
theorem laws_eqItem.tm {ι α : Type} {ok : ι → Prop} {ψ : α → Prop} {p : ι → Nat} {B : Nat} (hp : ∀ i, ok i → B ≤ p i) {a0_0 : ByteArray} {a0_1 : Int} {a0_2 : Int} {a1_0 : ByteArray} {a1_1 : Int} {a1_2 : Int} {φ : Bool → Prop} (h : Tm (fun k => B ≤ k) (fun k => laws_eqItem.t k a0_0 a0_1 a0_2 a1_0 a1_1 a1_2) φ) {G : ι → Bool → Option α} (hG : ∀ z0, φ z0 → Tm ok (fun i => G i z0) ψ) : Tm ok (fun i => laws_eqItem.f (p i) a0_0 a0_1 a0_2 a1_0 a1_1 a1_2 (G i)) ψ := by
  obtain ⟨z0, h1, h2⟩ := h
  exact (hG z0 h1).congr fun i hi => laws_eqItem.f_of (h2 (p i) (hp i hi)) _
theorem laws_eqItem.T {a0_0 : ByteArray} {a0_1 : Int} {a0_2 : Int} (ga0_0 : a0_0.size ≤ lim) : Tm Fuel (fun k => laws_eqItem.t k a0_0 a0_1 a0_2 a0_0 a0_1 a0_2) (fun r => r = true) := by
  unfold laws_eqItem.t laws_eqItem.g
  have hm := maxLen_eq
  have hlim : lim = 1048576 := rfl
  refine Tm.ite (fun h1 => ?_) (fun h1 => ?_)
  · try simp only [decide_eq_true_eq, decide_eq_false_iff_not, Int.not_lt, Int.not_le, bne_iff_ne, ne_eq, bne_eq_false_iff_eq, beq_iff_eq, beq_eq_false_iff_ne, Bool.not_eq_true', Bool.not_eq_false'] at h1
    exact Tm.ret (by first | rfl | (exfalso; simp [strEq_self] at *))
  · try simp only [decide_eq_true_eq, decide_eq_false_iff_not, Int.not_lt, Int.not_le, bne_iff_ne, ne_eq, bne_eq_false_iff_eq, beq_iff_eq, beq_eq_false_iff_ne, Bool.not_eq_true', Bool.not_eq_false'] at h1
    refine Tm.ite (fun h2 => ?_) (fun h2 => ?_)
    · try simp only [decide_eq_true_eq, decide_eq_false_iff_not, Int.not_lt, Int.not_le, bne_iff_ne, ne_eq, bne_eq_false_iff_eq, beq_iff_eq, beq_eq_false_iff_ne, Bool.not_eq_true', Bool.not_eq_false'] at h2
      exact Tm.ret (by first | rfl | (exfalso; simp [strEq_self] at *))
    · try simp only [decide_eq_true_eq, decide_eq_false_iff_not, Int.not_lt, Int.not_le, bne_iff_ne, ne_eq, bne_eq_false_iff_eq, beq_iff_eq, beq_eq_false_iff_ne, Bool.not_eq_true', Bool.not_eq_false'] at h2
      refine Tm.ite (fun h3 => ?_) (fun h3 => ?_)
      · try simp only [decide_eq_true_eq, decide_eq_false_iff_not, Int.not_lt, Int.not_le, bne_iff_ne, ne_eq, bne_eq_false_iff_eq, beq_iff_eq, beq_eq_false_iff_ne, Bool.not_eq_true', Bool.not_eq_false'] at h3
        exact Tm.ret (by first | rfl | (exfalso; simp [strEq_self] at *))
      · try simp only [decide_eq_true_eq, decide_eq_false_iff_not, Int.not_lt, Int.not_le, bne_iff_ne, ne_eq, bne_eq_false_iff_eq, beq_iff_eq, beq_eq_false_iff_ne, Bool.not_eq_true', Bool.not_eq_false'] at h3
        exact Tm.ret (by first | rfl | (exfalso; simp [strEq_self] at *))
theorem laws_eqItemS.f_of {β : Type} {k : Nat} {a0 : List (List D)} {a1 : List (List D)} {z0 : Bool} (h : laws_eqItemS.t k a0 a1 = some z0) (K : Bool → Option β) : laws_eqItemS.f k a0 a1 K = K z0 := by
  unfold laws_eqItemS.f
  rw [h]
theorem laws_eqItemS.tm {ι α : Type} {ok : ι → Prop} {ψ : α → Prop} {p : ι → Nat} {B : Nat} (hp : ∀ i, ok i → B ≤ p i) {a0 : List (List D)} {a1 : List (List D)} {φ : Bool → Prop} (h : Tm (fun k => B ≤ k) (fun k => laws_eqItemS.t k a0 a1) φ) {G : ι → Bool → Option α} (hG : ∀ z0, φ z0 → Tm ok (fun i => G i z0) ψ) : Tm ok (fun i => laws_eqItemS.f (p i) a0 a1 (G i)) ψ := by
  obtain ⟨z0, h1, h2⟩ := h
  exact (hG z0 h1).congr fun i hi => laws_eqItemS.f_of (h2 (p i) (hp i hi)) _
theorem laws_eqItemS.T {a0 : List (List D)} (ga0 : SlOk RSII lim a0) : Tm Fuel (fun k => laws_eqItemS.t k a0 a0) (fun r => r = true) := by
  unfold laws_eqItemS.t laws_eqItemS.g
  have hm := maxLen_eq
  have hlim : lim = 1048576 := rfl
  have hlen := ga0.1
  refine Tm.ite (fun h1 => ?_) (fun h1 => ?_)
  · try simp only [decide_eq_true_eq, decide_eq_false_iff_not, Int.not_lt, Int.not_le, bne_iff_ne, ne_eq, bne_eq_false_iff_eq, beq_iff_eq, beq_eq_false_iff_ne, Bool.not_eq_true', Bool.not_eq_false'] at h1
    exact Tm.ret (by first | rfl | (exfalso; simp [strEq_self] at *))
  · try simp only [decide_eq_true_eq, decide_eq_false_iff_not, Int.not_lt, Int.not_le, bne_iff_ne, ne_eq, bne_eq_false_iff_eq, beq_iff_eq, beq_eq_false_iff_ne, Bool.not_eq_true', Bool.not_eq_false'] at h1
    refine Tm.loop (okk := Fuel) (p := fun k => k) (fun i hi => hi) (b := fun k => laws_eqItemS.l0 k a0 a0 (fun z0 => some z0)) (fun i => (((a0.length : Int)) - i).toNat) (fun i => 0 ≤ i ∧ i ≤ (a0.length : Int)) ?_ ?_ ?_
    · rintro i hI
      try simp only [] at hI ⊢
      have : big = 2 ^ 64 := rfl
      have := ga0.1
      simp only [lim] at this
      omega
    · ((try simp only []); omega)
    · rintro i hI L hL
      try simp only [] at hI
      obtain ⟨i0, i1⟩ := hI
      simp only [laws_eqItemS.l0]
      refine Tm.ite (fun h2 => ?_) (fun h2 => ?_)
      · try simp only [decide_eq_true_eq, decide_eq_false_iff_not, Int.not_lt, Int.not_le, bne_iff_ne, ne_eq, bne_eq_false_iff_eq, beq_iff_eq, beq_eq_false_iff_ne, Bool.not_eq_true', Bool.not_eq_false'] at h2
        refine Tm.atRow (by first | assumption | omega | (simp only [lim, maxLen_eq] at *; omega)) (by first | assumption | omega | (simp only [lim, maxLen_eq] at *; omega)) (fun x3 hx4 hm5 => ?_)
        obtain ⟨c6, c7, c8, rfl, g9, g10, g11, _⟩ := (ga0.2 x3 hm5).open
        refine Tm.uncons ?_
        refine Tm.dStr ?_
        refine Tm.uncons ?_
        refine Tm.dInt ?_
        refine Tm.uncons ?_
        refine Tm.dInt ?_
        refine Tm.atEnd ?_
        refine Tm.atRow (by first | assumption | omega | (simp only [lim, maxLen_eq] at *; omega)) (by first | assumption | omega | (simp only [lim, maxLen_eq] at *; omega)) (fun x12 hx13 hm14 => ?_)
        rw [hx4] at hx13
        injection hx13 with hx13
        subst hx13
        refine Tm.uncons ?_
        refine Tm.dStr ?_
        refine Tm.uncons ?_
        refine Tm.dInt ?_
        refine Tm.uncons ?_
        refine Tm.dInt ?_
        refine Tm.atEnd ?_
        refine laws_eqItem.tm (fun i hi => hi.1) (laws_eqItem.T (by first | assumption | omega | (simp only [lim, maxLen_eq] at *; omega))) (fun y19 hy18 => ?_)
        subst hy18
        refine Tm.ite (fun h20 => ?_) (fun h20 => ?_)
        · try simp only [decide_eq_true_eq, decide_eq_false_iff_not, Int.not_lt, Int.not_le, bne_iff_ne, ne_eq, bne_eq_false_iff_eq, beq_iff_eq, beq_eq_false_iff_ne, Bool.not_eq_true', Bool.not_eq_false'] at h20
          exact Tm.ret (by first | rfl | (exfalso; simp [strEq_self] at *))
        · try simp only [decide_eq_true_eq, decide_eq_false_iff_not, Int.not_lt, Int.not_le, bne_iff_ne, ne_eq, bne_eq_false_iff_eq, beq_iff_eq, beq_eq_false_iff_ne, Bool.not_eq_true', Bool.not_eq_false'] at h20
          try rw [wrap_i64 (x := i + 1) (by omega) (by omega)]
          exact hL ((i + 1)) (by (try simp only []); omega) (by (try simp only []); omega)
      · try simp only [decide_eq_true_eq, decide_eq_false_iff_not, Int.not_lt, Int.not_le, bne_iff_ne, ne_eq, bne_eq_false_iff_eq, beq_iff_eq, beq_eq_false_iff_ne, Bool.not_eq_true', Bool.not_eq_false'] at h2
        exact Tm.ret (by first | rfl | (exfalso; simp [strEq_self] at *))
theorem laws_eqStringS.f_of {β : Type} {k : Nat} {a0 : List (List D)} {a1 : List (List D)} {z0 : Bool} (h : laws_eqStringS.t k a0 a1 = some z0) (K : Bool → Option β) : laws_eqStringS.f k a0 a1 K = K z0 := by
  unfold laws_eqStringS.f
  rw [h]
theorem laws_eqStringS.tm {ι α : Type} {ok : ι → Prop} {ψ : α → Prop} {p : ι → Nat} {B : Nat} (hp : ∀ i, ok i → B ≤ p i) {a0 : List (List D)} {a1 : List (List D)} {φ : Bool → Prop} (h : Tm (fun k => B ≤ k) (fun k => laws_eqStringS.t k a0 a1) φ) {G : ι → Bool → Option α} (hG : ∀ z0, φ z0 → Tm ok (fun i => G i z0) ψ) : Tm ok (fun i => laws_eqStringS.f (p i) a0 a1 (G i)) ψ := by
  obtain ⟨z0, h1, h2⟩ := h
  exact (hG z0 h1).congr fun i hi => laws_eqStringS.f_of (h2 (p i) (hp i hi)) _
theorem laws_eqStringS.T {a0 : List (List D)} (ga0 : SlOk RS lim a0) : Tm Fuel (fun k => laws_eqStringS.t k a0 a0) (fun r => r = true) := by
  unfold laws_eqStringS.t laws_eqStringS.g
  have hm := maxLen_eq
  have hlim : lim = 1048576 := rfl
  have hlen := ga0.1
  refine Tm.ite (fun h1 => ?_) (fun h1 => ?_)
  · try simp only [decide_eq_true_eq, decide_eq_false_iff_not, Int.not_lt, Int.not_le, bne_iff_ne, ne_eq, bne_eq_false_iff_eq, beq_iff_eq, beq_eq_false_iff_ne, Bool.not_eq_true', Bool.not_eq_false'] at h1
    exact Tm.ret (by first | rfl | (exfalso; simp [strEq_self] at *))
  · try simp only [decide_eq_true_eq, decide_eq_false_iff_not, Int.not_lt, Int.not_le, bne_iff_ne, ne_eq, bne_eq_false_iff_eq, beq_iff_eq, beq_eq_false_iff_ne, Bool.not_eq_true', Bool.not_eq_false'] at h1
    refine Tm.loop (okk := Fuel) (p := fun k => k) (fun i hi => hi) (b := fun k => laws_eqStringS.l0 k a0 a0 (fun z0 => some z0)) (fun i => (((a0.length : Int)) - i).toNat) (fun i => 0 ≤ i ∧ i ≤ (a0.length : Int)) ?_ ?_ ?_
    · rintro i hI
      try simp only [] at hI ⊢
      have : big = 2 ^ 64 := rfl
      have := ga0.1
      simp only [lim] at this
      omega
    · ((try simp only []); omega)
    · rintro i hI L hL
      try simp only [] at hI
      obtain ⟨i0, i1⟩ := hI
      simp only [laws_eqStringS.l0]
      refine Tm.ite (fun h2 => ?_) (fun h2 => ?_)
      · try simp only [decide_eq_true_eq, decide_eq_false_iff_not, Int.not_lt, Int.not_le, bne_iff_ne, ne_eq, bne_eq_false_iff_eq, beq_iff_eq, beq_eq_false_iff_ne, Bool.not_eq_true', Bool.not_eq_false'] at h2
        refine Tm.atRow (by first | assumption | omega | (simp only [lim, maxLen_eq] at *; omega)) (by first | assumption | omega | (simp only [lim, maxLen_eq] at *; omega)) (fun x3 hx4 hm5 => ?_)
        obtain ⟨c6, rfl, g7, _⟩ := (ga0.2 x3 hm5).open
        refine Tm.uncons ?_
        refine Tm.dStr ?_
        refine Tm.atEnd ?_
        refine Tm.atRow (by first | assumption | omega | (simp only [lim, maxLen_eq] at *; omega)) (by first | assumption | omega | (simp only [lim, maxLen_eq] at *; omega)) (fun x8 hx9 hm10 => ?_)
        rw [hx4] at hx9
        injection hx9 with hx9
        subst hx9
        refine Tm.uncons ?_
        refine Tm.dStr ?_
        refine Tm.atEnd ?_
        refine Tm.ite (fun h12 => ?_) (fun h12 => ?_)
        · try simp only [decide_eq_true_eq, decide_eq_false_iff_not, Int.not_lt, Int.not_le, bne_iff_ne, ne_eq, bne_eq_false_iff_eq, beq_iff_eq, beq_eq_false_iff_ne, Bool.not_eq_true', Bool.not_eq_false'] at h12
          exact Tm.ret (by first | rfl | (exfalso; simp [strEq_self] at *))
        · try simp only [decide_eq_true_eq, decide_eq_false_iff_not, Int.not_lt, Int.not_le, bne_iff_ne, ne_eq, bne_eq_false_iff_eq, beq_iff_eq, beq_eq_false_iff_ne, Bool.not_eq_true', Bool.not_eq_false'] at h12
          try rw [wrap_i64 (x := i + 1) (by omega) (by omega)]
          exact hL ((i + 1)) (by (try simp only []); omega) (by (try simp only []); omega)
      · try simp only [decide_eq_true_eq, decide_eq_false_iff_not, Int.not_lt, Int.not_le, bne_iff_ne, ne_eq, bne_eq_false_iff_eq, beq_iff_eq, beq_eq_false_iff_ne, Bool.not_eq_true', Bool.not_eq_false'] at h2
        exact Tm.ret (by first | rfl | (exfalso; simp [strEq_self] at *))
theorem laws_eqQueue.f_of {β : Type} {k : Nat} {a0_0 : List (List D)} {a0_1 : List (List D)} {a0_2 : List (List D)} {a0_3 : Int} {a1_0 : List (List D)} {a1_1 : List (List D)} {a1_2 : List (List D)} {a1_3 : Int} {z0 : Bool} (h : laws_eqQueue.t k a0_0 a0_1 a0_2 a0_3 a1_0 a1_1 a1_2 a1_3 = some z0) (K : Bool → Option β) : laws_eqQueue.f k a0_0 a0_1 a0_2 a0_3 a1_0 a1_1 a1_2 a1_3 K = K z0 := by
  unfold laws_eqQueue.f
  rw [h]
theorem laws_eqQueue.tm {ι α : Type} {ok : ι → Prop} {ψ : α → Prop} {p : ι → Nat} {B : Nat} (hp : ∀ i, ok i → B ≤ p i) {a0_0 : List (List D)} {a0_1 : List (List D)} {a0_2 : List (List D)} {a0_3 : Int} {a1_0 : List (List D)} {a1_1 : List (List D)} {a1_2 : List (List D)} {a1_3 : Int} {φ : Bool → Prop} (h : Tm (fun k => B ≤ k) (fun k => laws_eqQueue.t k a0_0 a0_1 a0_2 a0_3 a1_0 a1_1 a1_2 a1_3) φ) {G : ι → Bool → Option α} (hG : ∀ z0, φ z0 → Tm ok (fun i => G i z0) ψ) : Tm ok (fun i => laws_eqQueue.f (p i) a0_0 a0_1 a0_2 a0_3 a1_0 a1_1 a1_2 a1_3 (G i)) ψ := by
  obtain ⟨z0, h1, h2⟩ := h
  exact (hG z0 h1).congr fun i hi => laws_eqQueue.f_of (h2 (p i) (hp i hi)) _
theorem laws_eqQueue.T {a0_0 : List (List D)} {a0_1 : List (List D)} {a0_2 : List (List D)} {a0_3 : Int} (ga0_0 : SlOk RSII lim a0_0) (ga0_1 : SlOk RSII lim a0_1) (ga0_2 : SlOk RS lim a0_2) : Tm Fuel (fun k => laws_eqQueue.t k a0_0 a0_1 a0_2 a0_3 a0_0 a0_1 a0_2 a0_3) (fun r => r = true) := by
  unfold laws_eqQueue.t laws_eqQueue.g
  have hm := maxLen_eq
  have hlim : lim = 1048576 := rfl
  refine laws_eqItemS.tm (fun i hi => hi) (laws_eqItemS.T (by first | assumption | omega | (simp only [lim, maxLen_eq] at *; omega))) (fun y2 hy1 => ?_)
  subst hy1
  refine Tm.ite (fun h3 => ?_) (fun h3 => ?_)
  · try simp only [decide_eq_true_eq, decide_eq_false_iff_not, Int.not_lt, Int.not_le, bne_iff_ne, ne_eq, bne_eq_false_iff_eq, beq_iff_eq, beq_eq_false_iff_ne, Bool.not_eq_true', Bool.not_eq_false'] at h3
    exact Tm.ret (by first | rfl | (exfalso; simp [strEq_self] at *))
  · try simp only [decide_eq_true_eq, decide_eq_false_iff_not, Int.not_lt, Int.not_le, bne_iff_ne, ne_eq, bne_eq_false_iff_eq, beq_iff_eq, beq_eq_false_iff_ne, Bool.not_eq_true', Bool.not_eq_false'] at h3
    refine laws_eqItemS.tm (fun i hi => hi) (laws_eqItemS.T (by first | assumption | omega | (simp only [lim, maxLen_eq] at *; omega))) (fun y5 hy4 => ?_)
    subst hy4
    refine Tm.ite (fun h6 => ?_) (fun h6 => ?_)
    · try simp only [decide_eq_true_eq, decide_eq_false_iff_not, Int.not_lt, Int.not_le, bne_iff_ne, ne_eq, bne_eq_false_iff_eq, beq_iff_eq, beq_eq_false_iff_ne, Bool.not_eq_true', Bool.not_eq_false'] at h6
      exact Tm.ret (by first | rfl | (exfalso; simp [strEq_self] at *))
    · try simp only [decide_eq_true_eq, decide_eq_false_iff_not, Int.not_lt, Int.not_le, bne_iff_ne, ne_eq, bne_eq_false_iff_eq, beq_iff_eq, beq_eq_false_iff_ne, Bool.not_eq_true', Bool.not_eq_false'] at h6
      refine laws_eqStringS.tm (fun i hi => hi) (laws_eqStringS.T (by first | assumption | omega | (simp only [lim, maxLen_eq] at *; omega))) (fun y8 hy7 => ?_)
      subst hy7
      refine Tm.ite (fun h9 => ?_) (fun h9 => ?_)
      · try simp only [decide_eq_true_eq, decide_eq_false_iff_not, Int.not_lt, Int.not_le, bne_iff_ne, ne_eq, bne_eq_false_iff_eq, beq_iff_eq, beq_eq_false_iff_ne, Bool.not_eq_true', Bool.not_eq_false'] at h9
        exact Tm.ret (by first | rfl | (exfalso; simp [strEq_self] at *))
      · try simp only [decide_eq_true_eq, decide_eq_false_iff_not, Int.not_lt, Int.not_le, bne_iff_ne, ne_eq, bne_eq_false_iff_eq, beq_iff_eq, beq_eq_false_iff_ne, Bool.not_eq_true', Bool.not_eq_false'] at h9
        refine Tm.ite (fun h10 => ?_) (fun h10 => ?_)
        · try simp only [decide_eq_true_eq, decide_eq_false_iff_not, Int.not_lt, Int.not_le, bne_iff_ne, ne_eq, bne_eq_false_iff_eq, beq_iff_eq, beq_eq_false_iff_ne, Bool.not_eq_true', Bool.not_eq_false'] at h10
          exact Tm.ret (by first | rfl | (exfalso; simp [strEq_self] at *))
        · try simp only [decide_eq_true_eq, decide_eq_false_iff_not, Int.not_lt, Int.not_le, bne_iff_ne, ne_eq, bne_eq_false_iff_eq, beq_iff_eq, beq_eq_false_iff_ne, Bool.not_eq_true', Bool.not_eq_false'] at h10
          exact Tm.ret (by first | rfl | (exfalso; simp [strEq_self] at *))
end Go.Proofs.Ytnlhhhkeigjnoaa
