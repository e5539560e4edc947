/- FnExactHubNew: the program's function answers as the reference's, for every input. No condition. -/
import Derived.Test.YtnlhhhkeigjnoaaRows
import Derived.Test.YtnlhhhkeigjnoaaYEHubNew0
import Derived.KernelRfl
import Derived.WalkKit
import Derived.ProofKit
import Derived.OpenShut
import Derived.ShutString
import Derived.ChangeOld
import Derived.Below
import Derived.SizedLaws
set_option linter.unusedVariables false
set_option linter.unusedSimpArgs false
namespace Go.Proofs.Ytnlhhhkeigjnoaa
open Go Go.T Go.Proofs
theorem laws_FnExactHubNew.f_of {β : Type} {k : Nat} {z0 : Bool} (h : laws_FnExactHubNew.t k = some z0) (K : Bool → Option β) : laws_FnExactHubNew.f k K = K z0 := by
  unfold laws_FnExactHubNew.f
  rw [h]
theorem laws_FnExactHubNew.tm {ι α : Type} {ok : ι → Prop} {ψ : α → Prop} {p : ι → Nat} {B : Nat} (hp : ∀ i, ok i → B ≤ p i) {φ : Bool → Prop} (h : Tm (fun k => B ≤ k) (fun k => laws_FnExactHubNew.t k) φ) {G : ι → Bool → Option α} (hG : ∀ z0, φ z0 → Tm ok (fun i => G i z0) ψ) : Tm ok (fun i => laws_FnExactHubNew.f (p i) (G i)) ψ := by
  obtain ⟨z0, h1, h2⟩ := h
  exact (hG z0 h1).congr fun i hi => laws_FnExactHubNew.f_of (h2 (p i) (hp i hi)) _
theorem laws_FnExactHubNew.T : Tm (FuelN 1) (fun k => laws_FnExactHubNew.t k) (fun r => r = true) := by
  unfold laws_FnExactHubNew.t laws_FnExactHubNew.g
  have hm := maxLen_eq
  have hlim : lim = 1048576 := rfl
  refine spec_HubNew.tm (fun i hi => up0 hi) (Tm.self (spec_HubNew.T)) (fun y2 y3 y4 y5 y6 y7 y8 hy1 => ?_)
  have hf9 := hy1.1
  try simp only [] at hf9
  obtain ⟨q10, q11, q12, q13, q14, q15, q16, q17, _⟩ := hf9
  refine impl_HubNew.tm (fun i hi => hi) (Tm.at (ok := (FuelN 1)) (v := (y2, y3, y4, deepRows (C.immRows y5), deepRows (C.immRows y6), deepRows (C.immRows y7), deepRows (C.immRows y8))) (fun k hk => impl_HubNew.same (up0 hk) ((hy1.2) k (up0 hk)))) (fun y19 y20 y21 y22 y23 y24 y25 hy18 => ?_)
  simp only [Prod.mk.injEq] at hy18; obtain ⟨hy18e0, hy18e1, hy18e2, hy18e3, hy18e4, hy18e5, hy18e6⟩ := hy18; subst y19 y20 y21 y22 y23 y24 y25
  try simp only [imm_deepRows]
  refine laws_eqHub.tm (fun i hi => hi) (laws_eqHub.T (by first | assumption | omega | (simp only [lim, maxLen_eq] at *; omega)) (by first | assumption | omega | (simp only [lim, maxLen_eq] at *; omega)) (by first | assumption | omega | (simp only [lim, maxLen_eq] at *; omega)) (by first | assumption | omega | (simp only [lim, maxLen_eq] at *; omega)) (by first | assumption | omega | (simp only [lim, maxLen_eq] at *; omega))) (fun y27 hy26 => ?_)
  subst hy26
  refine Tm.ite (fun h28 => ?_) (fun h28 => ?_)
  · try simp only [decide_eq_true_eq, decide_eq_false_iff_not, Int.not_lt, Int.not_le, bne_iff_ne, ne_eq, bne_eq_false_iff_eq, beq_iff_eq, beq_eq_false_iff_ne, Bool.not_eq_true', Bool.not_eq_false'] at h28
    exact Tm.ret (by first | rfl | (exfalso; omega) | (exfalso; simp at *))
  · try simp only [decide_eq_true_eq, decide_eq_false_iff_not, Int.not_lt, Int.not_le, bne_iff_ne, ne_eq, bne_eq_false_iff_eq, beq_iff_eq, beq_eq_false_iff_ne, Bool.not_eq_true', Bool.not_eq_false'] at h28
    refine laws_markHub.tm (fun i hi => hi) (laws_markHub.T (B := 2097152) (by decide) (by first | assumption | exact RISILISLSEELSELSIEISILSELISILSELXEELSLILSEISILSELISILSELXEEEEB.wide (by assumption)) (by first | assumption | exact RSLSSELSEIII.wide (by assumption)) (by first | assumption | exact RISIII.wide (by assumption)) (by first | assumption | exact RS.wide (by assumption)) (by omega) (by omega)) (fun y30 y31 y32 y33 y34 hy29 => ?_)
    obtain ⟨ys36, ys37, ys38, ys39, en48, et40, et41, et42, et43, el44, el45, el46, el47, hh35⟩ := hy29
    simp only [] at en48 et40 et41 et42 et43 hh35
    subst en48 et40 et41 et42 et43
    refine Tm.guard (by first | omega | (simp only [deepRows_length]; assumption) | (simp only [lim, maxLen_eq, most] at *; omega) | (simp only [lim, most] at *; refine ⟨?_, ?_, ?_, ?_⟩ <;> omega)) ?_
    refine Tm.guard (by first | omega | (simp only [deepRows_length]; assumption) | (simp only [lim, maxLen_eq, most] at *; omega) | (simp only [lim, most] at *; refine ⟨?_, ?_, ?_, ?_⟩ <;> omega)) ?_
    refine Tm.guard (by first | omega | (simp only [deepRows_length]; assumption) | (simp only [lim, maxLen_eq, most] at *; omega) | (simp only [lim, most] at *; refine ⟨?_, ?_, ?_, ?_⟩ <;> omega)) ?_
    refine Tm.guard (by first | omega | (simp only [deepRows_length]; assumption) | (simp only [lim, maxLen_eq, most] at *; omega) | (simp only [lim, most] at *; refine ⟨?_, ?_, ?_, ?_⟩ <;> omega)) ?_
    try simp only [imm_deepRows]
    refine laws_heldHub.tm (fun i hi => hi) (Tm.at (ok := (FuelN 1)) (fun k hk => hh35 k hk)) (fun y50 hy49 => ?_)
    subst hy49
    refine Tm.ite (fun h51 => ?_) (fun h51 => ?_)
    · try simp only [decide_eq_true_eq, decide_eq_false_iff_not, Int.not_lt, Int.not_le, bne_iff_ne, ne_eq, bne_eq_false_iff_eq, beq_iff_eq, beq_eq_false_iff_ne, Bool.not_eq_true', Bool.not_eq_false'] at h51
      exact Tm.ret (by first | rfl | (exfalso; omega) | (exfalso; simp at *))
    · try simp only [decide_eq_true_eq, decide_eq_false_iff_not, Int.not_lt, Int.not_le, bne_iff_ne, ne_eq, bne_eq_false_iff_eq, beq_iff_eq, beq_eq_false_iff_ne, Bool.not_eq_true', Bool.not_eq_false'] at h51
      refine Tm.ite (fun h52 => ?_) (fun h52 => ?_)
      · try simp only [decide_eq_true_eq, decide_eq_false_iff_not, Int.not_lt, Int.not_le, bne_iff_ne, ne_eq, bne_eq_false_iff_eq, beq_iff_eq, beq_eq_false_iff_ne, Bool.not_eq_true', Bool.not_eq_false'] at h52
        exact Tm.ret (by first | rfl | (exfalso; omega) | (exfalso; simp at *))
      · try simp only [decide_eq_true_eq, decide_eq_false_iff_not, Int.not_lt, Int.not_le, bne_iff_ne, ne_eq, bne_eq_false_iff_eq, beq_iff_eq, beq_eq_false_iff_ne, Bool.not_eq_true', Bool.not_eq_false'] at h52
        refine impl_HubNew.tm (fun i hi => hi) (Tm.at (ok := (FuelN 1)) (v := (y2, y3, y4, deepRows (C.immRows y5), deepRows (C.immRows y6), deepRows (C.immRows y7), deepRows (C.immRows y8))) (fun k hk => impl_HubNew.same (up0 hk) ((hy1.2) k (up0 hk)))) (fun y54 y55 y56 y57 y58 y59 y60 hy53 => ?_)
        simp only [Prod.mk.injEq] at hy53; obtain ⟨hy53e0, hy53e1, hy53e2, hy53e3, hy53e4, hy53e5, hy53e6⟩ := hy53; subst y54 y55 y56 y57 y58 y59 y60
        try simp only [imm_deepRows]
        refine laws_eqHub.tm (fun i hi => hi) (laws_eqHub.T (by first | assumption | omega | (simp only [lim, maxLen_eq] at *; omega)) (by first | assumption | omega | (simp only [lim, maxLen_eq] at *; omega)) (by first | assumption | omega | (simp only [lim, maxLen_eq] at *; omega)) (by first | assumption | omega | (simp only [lim, maxLen_eq] at *; omega)) (by first | assumption | omega | (simp only [lim, maxLen_eq] at *; omega))) (fun y62 hy61 => ?_)
        subst hy61
        refine Tm.ite (fun h63 => ?_) (fun h63 => ?_)
        · try simp only [decide_eq_true_eq, decide_eq_false_iff_not, Int.not_lt, Int.not_le, bne_iff_ne, ne_eq, bne_eq_false_iff_eq, beq_iff_eq, beq_eq_false_iff_ne, Bool.not_eq_true', Bool.not_eq_false'] at h63
          exact Tm.ret (by first | rfl | (exfalso; omega) | (exfalso; simp at *))
        · try simp only [decide_eq_true_eq, decide_eq_false_iff_not, Int.not_lt, Int.not_le, bne_iff_ne, ne_eq, bne_eq_false_iff_eq, beq_iff_eq, beq_eq_false_iff_ne, Bool.not_eq_true', Bool.not_eq_false'] at h63
          try simp only [imm_deepRows]
          refine laws_heldHub.tm (fun i hi => hi) (Tm.at (ok := (FuelN 1)) (fun k hk => hh35 k hk)) (fun y65 hy64 => ?_)
          subst hy64
          refine Tm.ite (fun h66 => ?_) (fun h66 => ?_)
          · try simp only [decide_eq_true_eq, decide_eq_false_iff_not, Int.not_lt, Int.not_le, bne_iff_ne, ne_eq, bne_eq_false_iff_eq, beq_iff_eq, beq_eq_false_iff_ne, Bool.not_eq_true', Bool.not_eq_false'] at h66
            exact Tm.ret (by first | rfl | (exfalso; omega) | (exfalso; simp at *))
          · try simp only [decide_eq_true_eq, decide_eq_false_iff_not, Int.not_lt, Int.not_le, bne_iff_ne, ne_eq, bne_eq_false_iff_eq, beq_iff_eq, beq_eq_false_iff_ne, Bool.not_eq_true', Bool.not_eq_false'] at h66
            refine Tm.ite (fun h67 => ?_) (fun h67 => ?_)
            · try simp only [decide_eq_true_eq, decide_eq_false_iff_not, Int.not_lt, Int.not_le, bne_iff_ne, ne_eq, bne_eq_false_iff_eq, beq_iff_eq, beq_eq_false_iff_ne, Bool.not_eq_true', Bool.not_eq_false'] at h67
              exact Tm.ret (by first | rfl | (exfalso; omega) | (exfalso; simp at *))
            · try simp only [decide_eq_true_eq, decide_eq_false_iff_not, Int.not_lt, Int.not_le, bne_iff_ne, ne_eq, bne_eq_false_iff_eq, beq_iff_eq, beq_eq_false_iff_ne, Bool.not_eq_true', Bool.not_eq_false'] at h67
              exact Tm.ret (by first | rfl | (exfalso; omega) | (exfalso; simp at *))
open Go.ChangeShapes Go.WideShapes Go.ChangeAt Go.RowKit
open Go.ChangeMaps (open_string shut_string)
theorem own : ownKnob Try.prog.godebug = none := by kernel_rfl
theorem laidOut : laidOutB Try.prog = true := by kernel_rfl
theorem types : lawTys Try.prog [] = true := by kernel_rfl
set_option maxRecDepth 100000 in
theorem lifted (os : Os) (started : os.Started) (H : Type) (enc : TypeId × Value → H) :
    ReturnsInHanded {} Try.checked os 13 .any (Rows.fnExactHubNewSpec.pre6 enc Try.prog Try.f13 Rows.fnExactHubNewRow.domain false) (Rows.fnExactHubNewSpec.post enc Try.prog Try.f13 false true false false) := by
  refine returnsInHanded_of_change_sized (C := Try.checked) own started (by kernel_rfl) Try.func13
    (ChangeSpec.witness6 (enc := enc) (C := Try.checked) false ⟨#[], #[], []⟩ 8 (by kernel_rfl) (by kernel_rfl) (by kernel_rfl) (by kernel_rfl)) ?_
  intro W base args ds gs before hval0 hW hcnd hsz0 _
  have hval : ∀ (j : Nat) t v, Try.f13.params[j]? = some t → args[j]? = some v → Value.okWide Try.prog W .any base t v := hval0
  have hW' := hW
  obtain ⟨p, q, hA0, hV, rfl, hfz, hnd⟩ := hW
  have hA : DataW.TrodAll enc Try.prog W 0 (fun _ => true) true Try.f13.params.toList args.toList ds p := hA0
  have hpar : Try.f13.params = #[] := by kernel_rfl
  rw [hpar] at hA hval
  obtain ⟨hargs, rfl, rfl⟩ := trodAll_nil hA
  obtain rfl : args = #[] := by cases args; simp_all
  obtain ⟨rfl, rfl⟩ := trodVars_none hV
  clear hA0 hval0 hsz0
  obtain ⟨kb, hkb⟩ : ∃ k, lv 1 ≤ k := ⟨_, Nat.le_refl _⟩
  obtain ⟨z, rfl, hz⟩ := laws_FnExactHubNew.T
  refine (law_calls (laws_FnExactHubNew.ok kb) rfl rfl (by kernel_rfl) (aa := laws_FnExactHubNew.as) (vs := []) ?_ ⟨(), ?_⟩).mono fun e W' ⟨he, bel⟩ => ?_
  · exact ArgsRel.nil'
  · show laws_FnExactHubNew.f kb (laws_FnExactHubNew.kt _) = some ()
    rw [laws_FnExactHubNew.f_of (hz kb hkb)]
    rfl
  · subst he
    exact ⟨_, rfl, _, _, _, [], _, [], hW', trodAll_mk1 (shut_bool (by kernel_rfl) _), trodAll_mk0, rfl, bel.frame _, fun h => by cases h⟩
theorem over : Rows.fnExactHubNewRow.holds Try.pinned (OpenSpec.ofChange Rows.fnExactHubNewSpec) :=
  OpenClaim.holds_of_wide 13 Try.f13 rfl rfl rfl rfl rfl rfl rfl ⟨rfl, rfl, rfl, rfl, rfl⟩ rfl rfl rfl rfl rfl (by kernel_rfl) Try.func13 (by kernel_rfl)
    (of_decide_eq_true (by kernel_rfl)) (by unfold Func.isWrapper; first | (rw [if_pos (by decide +kernel)]; kernel_rfl) | (rw [if_neg (by decide +kernel)]; exact ⟨rfl, rfl⟩))
    (fun os started H enc _ => lifted os started H enc)
theorem fnExactHubNew_holds : Rows.FnExactHubNewSaid := over
end Go.Proofs.Ytnlhhhkeigjnoaa
