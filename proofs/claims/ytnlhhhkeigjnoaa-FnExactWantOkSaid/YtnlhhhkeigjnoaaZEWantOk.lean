/- The program's functions answer as the reference's. -/
import Derived.Test.YtnlhhhkeigjnoaaYEWantOk
import Derived.KernelRfl
set_option linter.unusedVariables false
set_option linter.unusedSimpArgs false
namespace Go.Proofs.Ytnlhhhkeigjnoaa
open Go Go.T Go.Proofs
theorem l1In_f {β : Type} {k : Nat} {a b c : Int} (K : Bool → Option β) : spec_l1In.f k a b c K = K (decide (b ≤ a) && decide (a ≤ c)) := by
  refine spec_l1In.f_of ?_ K
  unfold spec_l1In.t spec_l1In.g
  by_cases h : b ≤ a <;> simp [h]
theorem within_f {β : Type} {k : Nat} {a b c : Int} (K : Bool → Option β) : impl_within.f k a b c K = K (decide (b ≤ a) && decide (a ≤ c)) := by
  refine impl_within.f_of ?_ K
  unfold impl_within.t impl_within.g
  by_cases h : b ≤ a <;> simp [h]
theorem impl_NameOk.same {k : Nat} {a : ByteArray} : impl_NameOk.t k a = spec_NameOk.t k a := by
  unfold impl_NameOk.t spec_NameOk.t impl_NameOk.g spec_NameOk.g
  congr 1
  funext L v
  simp only [impl_NameOk.l0, spec_NameOk.l0, l1In_f, within_f]
  refine bif_congr (fun _ => ?_) (fun _ => rfl)
  unfold atStr
  split
  · split
    · rename_i b _
      have hb : b.toNat < 256 := b.toNat_lt
      simp only []
      rw [wrap_i64 (x := (b.toNat : Int)) (by omega) (by omega)]
      generalize (b.toNat : Int) = x
      by_cases h1 : x < 97 <;> by_cases h2 : x < 48 <;> by_cases h3 : x > 57 <;> by_cases h4 : x > 122 <;> simp [h1, h2, h3, h4] <;> (try omega) <;> grind
    · rfl
  · rfl

theorem impl_NameOk_f {β : Type} {k : Nat} {a : ByteArray} (K : Bool → Option β) : impl_NameOk.f k a K = spec_NameOk.f k a K := by
  unfold impl_NameOk.f spec_NameOk.f
  rw [impl_NameOk.same]

theorem impl_namesOk.same {k : Nat} {a : List (List D)} {n : Int} (g : SlOk RS lim a) : impl_namesOk.t k a n = spec_l10Names.t k a n := by
  unfold impl_namesOk.t spec_l10Names.t impl_namesOk.g spec_l10Names.g
  congr 1
  funext L v
  simp only [impl_namesOk.l0, spec_l10Names.l0, impl_NameOk_f]
  refine bif_congr (fun h => ?_) (fun _ => rfl)
  by_cases h0 : 0 ≤ v ∧ v < a.length
  · have hl : v.toNat < a.length := by omega
    obtain ⟨s0, hs, _⟩ := g.2 _ (List.getElem_mem hl)
    have hr := fun F => atRow_get (β := Bool) h0.1 (by rw [← hs]; simp [hl] : a[v.toNat]? = some [.str s0]) F
    simp only [hr, uncons, dStr, atEnd]
  · simp only [atRow_none h0]

theorem isCopies_f {β : Type} {k : Nat} {a : Int} (K : Bool → Option β) : impl_isCopies.f k a K = K (decide (0 ≤ a) && decide (a ≤ 10000)) := by
  refine impl_isCopies.f_of ?_ K
  unfold impl_isCopies.t impl_isCopies.g
  rw [within_f]

noncomputable def namesB (xs : List (List D)) : Bool := (List.range xs.length).all fun i => spec_NameOk.v (gS xs (i : Int) 0) && (!decide ((i : Int) > 0) || strLt (gS xs ((i : Int) - 1) 0) (gS xs (i : Int) 0))
theorem l10Names_v {a : List (List D)} {n : Int} (g : SlOk RS lim a) {k : Nat} (hk : Fuel k) : spec_l10Names.t k a n = some (namesB a && decide ((a.length : Int) ≤ n)) := by
  have hl := g.1
  have hlim : lim = 1048576 := rfl
  have hb : big = 2 ^ 100 := rfl
  unfold spec_l10Names.t spec_l10Names.g
  rw [iter_all0 (n := a.length) (fun i => spec_NameOk.v (gS a (i : Int) 0) && (!decide ((i : Int) > 0) || strLt (gS a ((i : Int) - 1) 0) (gS a (i : Int) 0))) (r1 := some false) (r2 := some (decide ((a.length : Int) ≤ n))) (by unfold Fuel at hk; omega)]
  · unfold namesB
    generalize List.all _ _ = x
    cases x <;> rfl
  · intro L i hi
    have k0 := (RS.get g (v := (i : Int)) (by omega) (by omega)).2.1
    simp (disch := omega) only [spec_l10Names.l0, dec_true (show (i : Int) < a.length by omega), cond_true, RS.row g, uncons_at, dStr_at, atEnd_at, spec_NameOk.fv k0 hk, wrap_i64]
    by_cases h0 : (i : Int) > 0
    · simp (disch := omega) only [dec_true h0, cond_true, RS.row g, uncons_at, dStr_at, atEnd_at]
      cases spec_NameOk.v (gS a (i : Int) 0) <;> cases strLt (gS a ((i : Int) - 1) 0) (gS a (i : Int) 0) <;> rfl
    · simp only [dec_false h0, cond_false]
      cases spec_NameOk.v (gS a (i : Int) 0) <;> rfl
  · intro L
    simp [spec_l10Names.l0]
theorem kinds (n : Int) : n = 1 ∨ n = 2 ∨ n = 3 ∨ n = 4 ∨ n = 5 ∨ ((n == 1) = false ∧ (n == 2) = false ∧ (n == 3) = false ∧ (n == 4) = false ∧ (n == 5) = false) := by
  simp only [beq_eq_false_iff_ne]
  omega
theorem lens (n : Int) (h : 0 ≤ n) : n = 0 ∨ n = 1 ∨ ((n == 0) = false ∧ (n == 1) = false ∧ 1 ≤ n) := by
  simp only [beq_eq_false_iff_ne]
  omega
noncomputable def termB (kind : Int) (key : ByteArray) (vals : List (List D)) : Bool :=
  namesB vals && spec_NameOk.v key && ((kind == 1 || kind == 2) && (vals.length : Int) == 1 || kind == 3 && (decide ((vals.length : Int) ≥ 1) && decide ((vals.length : Int) ≤ 6)) || (kind == 4 || kind == 5) && (vals.length : Int) == 0)
theorem l2Term_v {kind : Int} {key : ByteArray} {vals : List (List D)} (gk : key.size ≤ lim) (g : SlOk RS lim vals) {k : Nat} (hk : Fuel k) : spec_l2Term.t k kind key vals = some (termB kind key vals) := by
  have hl := g.1
  have hlim : lim = 1048576 := rfl
  have hb : big = 2 ^ 100 := rfl
  unfold spec_l2Term.t spec_l2Term.g
  rw [iter_all0 (n := vals.length) (fun i => spec_NameOk.v (gS vals (i : Int) 0) && (!decide ((i : Int) > 0) || strLt (gS vals ((i : Int) - 1) 0) (gS vals (i : Int) 0))) (r1 := some false)
    (r2 := some (spec_NameOk.v key && ((kind == 1 || kind == 2) && (vals.length : Int) == 1 || kind == 3 && (decide ((vals.length : Int) ≥ 1) && decide ((vals.length : Int) ≤ 6)) || (kind == 4 || kind == 5) && (vals.length : Int) == 0))) (by unfold Fuel at hk; omega)]
  · unfold termB namesB
    generalize List.all _ _ = x
    cases x
    · rfl
    · simp
  · intro L i hi
    have k0 := (RS.get g (v := (i : Int)) (by omega) (by omega)).2.1
    simp (disch := omega) only [spec_l2Term.l0, dec_true (show (i : Int) < vals.length by omega), cond_true, RS.row g, uncons_at, dStr_at, atEnd_at, spec_NameOk.fv k0 hk, wrap_i64]
    by_cases h0 : (i : Int) > 0
    · simp (disch := omega) only [dec_true h0, cond_true, RS.row g, uncons_at, dStr_at, atEnd_at]
      cases spec_NameOk.v (gS vals (i : Int) 0) <;> cases strLt (gS vals ((i : Int) - 1) 0) (gS vals (i : Int) 0) <;> rfl
    · simp only [dec_false h0, cond_false]
      cases spec_NameOk.v (gS vals (i : Int) 0) <;> rfl
  · intro L
    simp only [spec_l2Term.l0, dec_false (show ¬ (vals.length : Int) < vals.length by omega), cond_false, spec_NameOk.fv gk hk, l1In_f, ge_iff_le]
    cases spec_NameOk.v key
    · rfl
    · rcases kinds kind with rfl | rfl | rfl | rfl | rfl | ⟨e1, e2, e3, e4, e5⟩
      all_goals first | (simp only [e1, e2, e3, e4, e5]; simp; done) | (by_cases h7 : 1 ≤ (vals.length : Int) <;> simp [h7]; done)
theorem namesOk_fv {a : List (List D)} {n : Int} (g : SlOk RS lim a) {k : Nat} (hk : Fuel k) {β : Type} (K : Bool → Option β) : impl_namesOk.f k a n K = K (namesB a && decide ((a.length : Int) ≤ n)) :=
  impl_namesOk.f_of ((impl_namesOk.same g).trans (l10Names_v g hk)) K
theorem termOk_v {kind : Int} {key : ByteArray} {vals : List (List D)} (gk : key.size ≤ lim) (g : SlOk RS lim vals) {k : Nat} (hk : Fuel k) : impl_termOk.t k kind key vals = some (termB kind key vals) := by
  unfold impl_termOk.t impl_termOk.g termB
  simp only [impl_NameOk_f, spec_NameOk.fv gk hk, namesOk_fv g hk]
  rcases kinds kind with rfl | rfl | rfl | rfl | rfl | ⟨e1, e2, e3, e4, e5⟩
  all_goals cases spec_NameOk.v key <;> cases namesB vals <;> rcases lens (vals.length : Int) (by omega) with h7 | h7 | ⟨h7, h8, h9⟩ <;> (try simp only [e1, e2, e3, e4, e5]) <;> (first | (simp [h7]; done) | simp [h7, h8, h9])
noncomputable def termsB (a : List (List D)) : Bool := (List.range a.length).all fun i => termB (gI a (i : Int) 0) (gS a (i : Int) 1) (gL a (i : Int) 2)
theorem SelectorOk_v {a : List (List D)} (g : SlOk RISLSE lim a) {k : Nat} (hk : Fuel k) : spec_SelectorOk.t k a = some (termsB a && decide ((a.length : Int) ≤ 8)) := by
  have hl := g.1
  have hlim : lim = 1048576 := rfl
  have hb : big = 2 ^ 100 := rfl
  unfold spec_SelectorOk.t spec_SelectorOk.g
  rw [iter_all0 (n := a.length) (fun i => termB (gI a (i : Int) 0) (gS a (i : Int) 1) (gL a (i : Int) 2)) (r1 := some false) (r2 := some (decide ((a.length : Int) ≤ 8))) (by unfold Fuel at hk; omega)]
  · unfold termsB
    generalize List.all _ _ = x
    cases x <;> rfl
  · intro L i hi
    obtain ⟨-, k0, k1, k2, -⟩ := RISLSE.get g (v := (i : Int)) (by omega) (by omega)
    simp (disch := omega) only [spec_SelectorOk.l0, dec_true (show (i : Int) < a.length by omega), cond_true, RISLSE.row g, uncons_at, dStr_at, dInt_self, dSl_at, atEnd_at, spec_l2Term.f_of (l2Term_v k1 k2 hk), wrap_i64]
    cases termB (gI a (i : Int) 0) (gS a (i : Int) 1) (gL a (i : Int) 2) <;> rfl
  · intro L
    simp [spec_SelectorOk.l0]
theorem SelectorOk_impl {a : List (List D)} (g : SlOk RISLSE lim a) {k : Nat} (hk : Fuel k) : impl_SelectorOk.t k a = some (termsB a && decide ((a.length : Int) ≤ 8)) := by
  have hl := g.1
  have hlim : lim = 1048576 := rfl
  have hb : big = 2 ^ 100 := rfl
  have hf : ∀ {β : Type} (K : Int → Option β), slices_IndexFunc_impl_Term_157.f k a K = K (findI (fun i => !termB (gI a (i : Int) 0) (gS a (i : Int) 1) (gL a (i : Int) 2)) a.length) := fun K => slices_IndexFunc_impl_Term_157.f_of (by
    unfold slices_IndexFunc_impl_Term_157.t slices_IndexFunc_impl_Term_157.g
    refine iter_findI (n := a.length) _ some (by unfold Fuel at hk; omega) (fun L i hi => ?_) (fun L => by simp [slices_IndexFunc_impl_Term_157.l0])
    obtain ⟨-, k0, k1, k2, -⟩ := RISLSE.get g (v := (i : Int)) (by omega) (by omega)
    have hs : ∀ {β : Type} (K : Bool → Option β), impl_SelectorOk_1.f k (gI a (i : Int) 0) (gS a (i : Int) 1) (gL a (i : Int) 2) K = K (!termB (gI a (i : Int) 0) (gS a (i : Int) 1) (gL a (i : Int) 2)) := fun K => impl_SelectorOk_1.f_of (by unfold impl_SelectorOk_1.t impl_SelectorOk_1.g; rw [impl_termOk.f_of (termOk_v k1 k2 hk)]) K
    simp (disch := omega) only [slices_IndexFunc_impl_Term_157.l0, dec_true (show (i : Int) < a.length by omega), cond_true, RISLSE.row g, uncons_at, dStr_at, dInt_self, dSl_at, atEnd_at, hs, wrap_i64]) K
  unfold impl_SelectorOk.t impl_SelectorOk.g
  have hc : ∀ {β : Type} (K : Bool → Option β), slices_ContainsFunc_impl_Term_157.f k a K = K (!termsB a) := fun K => slices_ContainsFunc_impl_Term_157.f_of (by
    unfold slices_ContainsFunc_impl_Term_157.t slices_ContainsFunc_impl_Term_157.g
    rw [hf, findI_all]
    simp only [Bool.not_not, termsB]) K
  rw [hc]
  by_cases h8 : (a.length : Int) ≤ 8 <;> simp [h8]
theorem impl_SelectorOk_f {a : List (List D)} (g : SlOk RISLSE lim a) {k : Nat} (hk : Fuel k) {β : Type} (K : Bool → Option β) : impl_SelectorOk.f k a K = spec_SelectorOk.f k a K := by
  rw [impl_SelectorOk.f_of (SelectorOk_impl g hk), spec_SelectorOk.f_of (SelectorOk_v g hk)]

theorem impl_WantOk.same {a0_0 : Int} {a0_1 a0_2 a0_3 : List (List D)} (g0 : SlOk RISLSE lim a0_1) (g1 : SlOk RS lim a0_2) (g2 : SlOk RSI lim a0_3) {k : Nat} (hk : Fuel k) : impl_WantOk.t k a0_0 a0_1 a0_2 a0_3 = spec_WantOk.t k a0_0 a0_1 a0_2 a0_3 := by
  have hl := g2.1
  have hlim : lim = 1048576 := rfl
  unfold impl_WantOk.t spec_WantOk.t impl_WantOk.g spec_WantOk.g
  congr 1
  funext L v
  simp only [impl_WantOk.l0, spec_WantOk.l0, impl_NameOk_f, within_f, l1In_f, isCopies_f, impl_SelectorOk_f g0 hk]
  refine bif_congr (fun h => ?_) (fun _ => ?_)
  · by_cases h0 : 0 ≤ v ∧ v < a0_3.length
    · obtain ⟨h0, h1⟩ := h0
      simp (disch := omega) only [RSI.row g2, uncons_at, dStr_at, dInt_self, atEnd_at]
    · simp only [atRow_none h0]
  · unfold impl_namesOk.f spec_l10Names.f
    simp only [impl_namesOk.same g1]

end Go.Proofs.Ytnlhhhkeigjnoaa
