/- FnExactPass: the program's function answers as the reference's, for every input. No condition. -/
import Derived.Test.YtljkbknnnpjmgaaRows
import Derived.Test.YtljkbknnnpjmgaaYEPass0
import Derived.KernelRfl
import Derived.WalkKit
import Derived.ProofKit
import Derived.OpenShut
import Derived.ShutString
import Derived.ChangeOld
import Derived.Below
import Derived.SizedLaws
set_option linter.unusedVariables false
set_option linter.unusedSimpArgs false
namespace Go.Proofs.Ytljkbknnnpjmgaa
open Go Go.T Go.Proofs
theorem laws_FnExactPass.f_of {β : Type} {k : Nat} {a0_0 : List (List D)} {a0_1 : List (List D)} {a0_2 : List (List D)} {a0_3 : Int} {a1 : Int} {z0 : Bool} (h : laws_FnExactPass.t k a0_0 a0_1 a0_2 a0_3 a1 = some z0) (K : Bool → Option β) : laws_FnExactPass.f k a0_0 a0_1 a0_2 a0_3 a1 K = K z0 := by
  unfold laws_FnExactPass.f
  rw [h]
theorem laws_FnExactPass.tm {ι α : Type} {ok : ι → Prop} {ψ : α → Prop} {p : ι → Nat} {B : Nat} (hp : ∀ i, ok i → B ≤ p i) {a0_0 : List (List D)} {a0_1 : List (List D)} {a0_2 : List (List D)} {a0_3 : Int} {a1 : Int} {φ : Bool → Prop} (h : Tm (fun k => B ≤ k) (fun k => laws_FnExactPass.t k a0_0 a0_1 a0_2 a0_3 a1) φ) {G : ι → Bool → Option α} (hG : ∀ z0, φ z0 → Tm ok (fun i => G i z0) ψ) : Tm ok (fun i => laws_FnExactPass.f (p i) a0_0 a0_1 a0_2 a0_3 a1 (G i)) ψ := by
  obtain ⟨z0, h1, h2⟩ := h
  exact (hG z0 h1).congr fun i hi => laws_FnExactPass.f_of (h2 (p i) (hp i hi)) _
theorem laws_FnExactPass.T {a0_0 : List (List D)} {a0_1 : List (List D)} {a0_2 : List (List D)} {a0_3 : Int} {a1 : Int} (ga0_0 : SlOk RSII maxLen a0_0) (ga0_1 : SlOk RSII maxLen a0_1) (ga0_2 : SlOk RS maxLen a0_2) (ga0_3 : (Lit.int .i64 a0_3).wf = true) (ga1 : (Lit.int .i64 a1).wf = true) : Tm Fuel (fun k => laws_FnExactPass.t k a0_0 a0_1 a0_2 a0_3 a1) (fun r => r = true) := by
  unfold laws_FnExactPass.t laws_FnExactPass.g
  have hm := maxLen_eq
  have hlim : lim = 1048576 := rfl
  refine laws_szQueue.tm (fun i hi => hi) (laws_szQueue.T (by first | assumption | omega | (simp only [lim, maxLen_eq] at *; omega)) (by first | assumption | omega | (simp only [lim, maxLen_eq] at *; omega)) (by first | assumption | omega | (simp only [lim, maxLen_eq] at *; omega)) (by first | assumption | omega | (simp only [lim, maxLen_eq] at *; omega)) (by first | assumption | omega | (simp only [lim, maxLen_eq] at *; omega))) (fun y2 hy1 => ?_)
  rcases hy1 with hy1 | ⟨p7, p8, q3, q4, q5, q6, _⟩
  · exact Tm.ite (fun _ => Tm.ret (by rfl)) (fun h => by simp at h; omega)
  refine Tm.ite (fun h9 => ?_) (fun h9 => ?_)
  · try simp only [decide_eq_true_eq, decide_eq_false_iff_not, Int.not_lt, Int.not_le, bne_iff_ne, ne_eq, bne_eq_false_iff_eq, beq_iff_eq, beq_eq_false_iff_ne, Bool.not_eq_true', Bool.not_eq_false'] at h9
    exact Tm.ret (by first | rfl | (exfalso; omega) | (exfalso; simp at *))
  · try simp only [decide_eq_true_eq, decide_eq_false_iff_not, Int.not_lt, Int.not_le, bne_iff_ne, ne_eq, bne_eq_false_iff_eq, beq_iff_eq, beq_eq_false_iff_ne, Bool.not_eq_true', Bool.not_eq_false'] at h9
    refine laws_toQueue.tm (fun i hi => hi) (laws_toQueue.T (by first | assumption | omega | (simp only [lim, maxLen_eq] at *; omega)) (by first | assumption | omega | (simp only [lim, maxLen_eq] at *; omega)) (by first | assumption | omega | (simp only [lim, maxLen_eq] at *; omega))) (fun y11 y12 y13 y14 hy10 => ?_)
    try simp only [] at hy10
    obtain ⟨rfl, rfl, rfl, rfl, _⟩ := hy10
    try simp only [imm_deepRows]
    refine spec_Pass.tm (fun i hi => hi) (Tm.self (spec_Pass.T (by first | assumption | omega | (simp only [lim, maxLen_eq] at *; omega)) (by first | assumption | omega | (simp only [lim, maxLen_eq] at *; omega)) (by first | assumption | omega | (simp only [lim, maxLen_eq] at *; omega)) (by first | assumption | omega | (simp only [lim, maxLen_eq] at *; omega)) (by first | assumption | omega | (simp only [lim, maxLen_eq] at *; omega)))) (fun y16 y17 y18 y19 hy15 => ?_)
    have hf20 := hy15.1
    try simp only [] at hf20
    obtain ⟨q21, q22, q23, q24, q25, q26, _⟩ := hf20
    refine laws_toQueue.tm (fun i hi => hi) (laws_toQueue.T (by first | assumption | omega | (simp only [lim, maxLen_eq] at *; omega)) (by first | assumption | omega | (simp only [lim, maxLen_eq] at *; omega)) (by first | assumption | omega | (simp only [lim, maxLen_eq] at *; omega))) (fun y28 y29 y30 y31 hy27 => ?_)
    try simp only [] at hy27
    obtain ⟨rfl, rfl, rfl, rfl, _⟩ := hy27
    try simp only [imm_deepRows]
    refine impl_Pass.tm (fun i hi => hi) (Tm.at (ok := Fuel) (v := (deepRows (C.immRows y16), deepRows (C.immRows y17), deepRows (C.immRows y18), y19)) (fun k hk => impl_Pass.same (by first | assumption | omega | (simp only [lim, maxLen_eq] at *; omega)) (by first | assumption | omega | (simp only [lim, maxLen_eq] at *; omega)) (by first | assumption | omega | (simp only [lim, maxLen_eq] at *; omega)) (by first | assumption | omega | (simp only [lim, maxLen_eq] at *; omega)) (by first | assumption | omega | (simp only [lim, maxLen_eq] at *; omega)) hk ((hy15.2) k hk))) (fun y33 y34 y35 y36 hy32 => ?_)
    simp only [Prod.mk.injEq] at hy32; obtain ⟨hy32e0, hy32e1, hy32e2, hy32e3⟩ := hy32; subst y33 y34 y35 y36
    try simp only [imm_deepRows]
    refine laws_eqQueue.tm (fun i hi => hi) (laws_eqQueue.T (by first | assumption | omega | (simp only [lim, maxLen_eq] at *; omega)) (by first | assumption | omega | (simp only [lim, maxLen_eq] at *; omega)) (by first | assumption | omega | (simp only [lim, maxLen_eq] at *; omega)) (by first | assumption | omega | (simp only [lim, maxLen_eq] at *; omega))) (fun y38 hy37 => ?_)
    subst hy37
    refine Tm.ite (fun h39 => ?_) (fun h39 => ?_)
    · try simp only [decide_eq_true_eq, decide_eq_false_iff_not, Int.not_lt, Int.not_le, bne_iff_ne, ne_eq, bne_eq_false_iff_eq, beq_iff_eq, beq_eq_false_iff_ne, Bool.not_eq_true', Bool.not_eq_false'] at h39
      exact Tm.ret (by first | rfl | (exfalso; omega) | (exfalso; simp at *))
    · try simp only [decide_eq_true_eq, decide_eq_false_iff_not, Int.not_lt, Int.not_le, bne_iff_ne, ne_eq, bne_eq_false_iff_eq, beq_iff_eq, beq_eq_false_iff_ne, Bool.not_eq_true', Bool.not_eq_false'] at h39
      refine laws_toQueue.tm (fun i hi => hi) (laws_toQueue.T (by first | assumption | omega | (simp only [lim, maxLen_eq] at *; omega)) (by first | assumption | omega | (simp only [lim, maxLen_eq] at *; omega)) (by first | assumption | omega | (simp only [lim, maxLen_eq] at *; omega))) (fun y41 y42 y43 y44 hy40 => ?_)
      try simp only [] at hy40
      obtain ⟨rfl, rfl, rfl, rfl, _⟩ := hy40
      try simp only [imm_deepRows]
      refine laws_eqQueue.tm (fun i hi => hi) (laws_eqQueue.T (by first | assumption | omega | (simp only [lim, maxLen_eq] at *; omega)) (by first | assumption | omega | (simp only [lim, maxLen_eq] at *; omega)) (by first | assumption | omega | (simp only [lim, maxLen_eq] at *; omega)) (by first | assumption | omega | (simp only [lim, maxLen_eq] at *; omega))) (fun y46 hy45 => ?_)
      subst hy45
      refine Tm.ite (fun h47 => ?_) (fun h47 => ?_)
      · try simp only [decide_eq_true_eq, decide_eq_false_iff_not, Int.not_lt, Int.not_le, bne_iff_ne, ne_eq, bne_eq_false_iff_eq, beq_iff_eq, beq_eq_false_iff_ne, Bool.not_eq_true', Bool.not_eq_false'] at h47
        exact Tm.ret (by first | rfl | (exfalso; omega) | (exfalso; simp at *))
      · try simp only [decide_eq_true_eq, decide_eq_false_iff_not, Int.not_lt, Int.not_le, bne_iff_ne, ne_eq, bne_eq_false_iff_eq, beq_iff_eq, beq_eq_false_iff_ne, Bool.not_eq_true', Bool.not_eq_false'] at h47
        refine laws_markQueue.tm (fun i hi => hi) (laws_markQueue.T (B := 2097152) (by decide) (by first | assumption | exact RSII.wide (by assumption)) (by first | assumption | exact RSII.wide (by assumption)) (by first | assumption | exact RS.wide (by assumption)) (by omega) (by omega)) (fun y49 y50 y51 y52 hy48 => ?_)
        obtain ⟨ys54, ys55, ys56, en63, et57, et58, et59, el60, el61, el62, hh53⟩ := hy48
        simp only [] at en63 et57 et58 et59 hh53
        subst en63 et57 et58 et59
        refine Tm.guard (by first | omega | (simp only [deepRows_length]; assumption) | (simp only [lim, maxLen_eq, most] at *; omega) | (simp only [lim, most] at *; refine ⟨?_, ?_, ?_, ?_⟩ <;> omega)) ?_
        refine Tm.guard (by first | omega | (simp only [deepRows_length]; assumption) | (simp only [lim, maxLen_eq, most] at *; omega) | (simp only [lim, most] at *; refine ⟨?_, ?_, ?_, ?_⟩ <;> omega)) ?_
        refine Tm.guard (by first | omega | (simp only [deepRows_length]; assumption) | (simp only [lim, maxLen_eq, most] at *; omega) | (simp only [lim, most] at *; refine ⟨?_, ?_, ?_, ?_⟩ <;> omega)) ?_
        refine Tm.ite (fun h64 => ?_) (fun h64 => ?_)
        · try simp only [decide_eq_true_eq, decide_eq_false_iff_not, Int.not_lt, Int.not_le, bne_iff_ne, ne_eq, bne_eq_false_iff_eq, beq_iff_eq, beq_eq_false_iff_ne, Bool.not_eq_true', Bool.not_eq_false'] at h64
          exact Tm.ret (by first | rfl | (exfalso; omega) | (exfalso; simp at *))
        · try simp only [decide_eq_true_eq, decide_eq_false_iff_not, Int.not_lt, Int.not_le, bne_iff_ne, ne_eq, bne_eq_false_iff_eq, beq_iff_eq, beq_eq_false_iff_ne, Bool.not_eq_true', Bool.not_eq_false'] at h64
          refine laws_eqQueue.tm (fun i hi => hi) (laws_eqQueue.T (by first | assumption | omega | (simp only [lim, maxLen_eq] at *; omega)) (by first | assumption | omega | (simp only [lim, maxLen_eq] at *; omega)) (by first | assumption | omega | (simp only [lim, maxLen_eq] at *; omega)) (by first | assumption | omega | (simp only [lim, maxLen_eq] at *; omega))) (fun y66 hy65 => ?_)
          subst hy65
          refine Tm.ite (fun h67 => ?_) (fun h67 => ?_)
          · try simp only [decide_eq_true_eq, decide_eq_false_iff_not, Int.not_lt, Int.not_le, bne_iff_ne, ne_eq, bne_eq_false_iff_eq, beq_iff_eq, beq_eq_false_iff_ne, Bool.not_eq_true', Bool.not_eq_false'] at h67
            exact Tm.ret (by first | rfl | (exfalso; omega) | (exfalso; simp at *))
          · try simp only [decide_eq_true_eq, decide_eq_false_iff_not, Int.not_lt, Int.not_le, bne_iff_ne, ne_eq, bne_eq_false_iff_eq, beq_iff_eq, beq_eq_false_iff_ne, Bool.not_eq_true', Bool.not_eq_false'] at h67
            refine laws_markQueue.tm (fun i hi => hi) (laws_markQueue.T (B := 2097152) (by decide) (by first | assumption | exact RSII.wide (by assumption)) (by first | assumption | exact RSII.wide (by assumption)) (by first | assumption | exact RS.wide (by assumption)) (by omega) (by omega)) (fun y69 y70 y71 y72 hy68 => ?_)
            obtain ⟨ys74, ys75, ys76, en83, et77, et78, et79, el80, el81, el82, hh73⟩ := hy68
            simp only [] at en83 et77 et78 et79 hh73
            subst en83 et77 et78 et79
            refine Tm.guard (by first | omega | (simp only [deepRows_length]; assumption) | (simp only [lim, maxLen_eq, most] at *; omega) | (simp only [lim, most] at *; refine ⟨?_, ?_, ?_, ?_⟩ <;> omega)) ?_
            refine Tm.guard (by first | omega | (simp only [deepRows_length]; assumption) | (simp only [lim, maxLen_eq, most] at *; omega) | (simp only [lim, most] at *; refine ⟨?_, ?_, ?_, ?_⟩ <;> omega)) ?_
            refine Tm.guard (by first | omega | (simp only [deepRows_length]; assumption) | (simp only [lim, maxLen_eq, most] at *; omega) | (simp only [lim, most] at *; refine ⟨?_, ?_, ?_, ?_⟩ <;> omega)) ?_
            try simp only [imm_deepRows]
            refine laws_heldQueue.tm (fun i hi => hi) (Tm.at (ok := Fuel) (fun k hk => hh73 k hk)) (fun y85 hy84 => ?_)
            subst hy84
            refine Tm.ite (fun h86 => ?_) (fun h86 => ?_)
            · try simp only [decide_eq_true_eq, decide_eq_false_iff_not, Int.not_lt, Int.not_le, bne_iff_ne, ne_eq, bne_eq_false_iff_eq, beq_iff_eq, beq_eq_false_iff_ne, Bool.not_eq_true', Bool.not_eq_false'] at h86
              exact Tm.ret (by first | rfl | (exfalso; omega) | (exfalso; simp at *))
            · try simp only [decide_eq_true_eq, decide_eq_false_iff_not, Int.not_lt, Int.not_le, bne_iff_ne, ne_eq, bne_eq_false_iff_eq, beq_iff_eq, beq_eq_false_iff_ne, Bool.not_eq_true', Bool.not_eq_false'] at h86
              refine Tm.ite (fun h87 => ?_) (fun h87 => ?_)
              · try simp only [decide_eq_true_eq, decide_eq_false_iff_not, Int.not_lt, Int.not_le, bne_iff_ne, ne_eq, bne_eq_false_iff_eq, beq_iff_eq, beq_eq_false_iff_ne, Bool.not_eq_true', Bool.not_eq_false'] at h87
                exact Tm.ret (by first | rfl | (exfalso; omega) | (exfalso; simp at *))
              · try simp only [decide_eq_true_eq, decide_eq_false_iff_not, Int.not_lt, Int.not_le, bne_iff_ne, ne_eq, bne_eq_false_iff_eq, beq_iff_eq, beq_eq_false_iff_ne, Bool.not_eq_true', Bool.not_eq_false'] at h87
                refine laws_toQueue.tm (fun i hi => hi) (laws_toQueue.T (by first | assumption | omega | (simp only [lim, maxLen_eq] at *; omega)) (by first | assumption | omega | (simp only [lim, maxLen_eq] at *; omega)) (by first | assumption | omega | (simp only [lim, maxLen_eq] at *; omega))) (fun y89 y90 y91 y92 hy88 => ?_)
                try simp only [] at hy88
                obtain ⟨rfl, rfl, rfl, rfl, _⟩ := hy88
                try simp only [imm_deepRows]
                refine impl_Pass.tm (fun i hi => hi) (Tm.at (ok := Fuel) (v := (deepRows (C.immRows y16), deepRows (C.immRows y17), deepRows (C.immRows y18), y19)) (fun k hk => impl_Pass.same (by first | assumption | omega | (simp only [lim, maxLen_eq] at *; omega)) (by first | assumption | omega | (simp only [lim, maxLen_eq] at *; omega)) (by first | assumption | omega | (simp only [lim, maxLen_eq] at *; omega)) (by first | assumption | omega | (simp only [lim, maxLen_eq] at *; omega)) (by first | assumption | omega | (simp only [lim, maxLen_eq] at *; omega)) hk ((hy15.2) k hk))) (fun y94 y95 y96 y97 hy93 => ?_)
                simp only [Prod.mk.injEq] at hy93; obtain ⟨hy93e0, hy93e1, hy93e2, hy93e3⟩ := hy93; subst y94 y95 y96 y97
                try simp only [imm_deepRows]
                refine laws_eqQueue.tm (fun i hi => hi) (laws_eqQueue.T (by first | assumption | omega | (simp only [lim, maxLen_eq] at *; omega)) (by first | assumption | omega | (simp only [lim, maxLen_eq] at *; omega)) (by first | assumption | omega | (simp only [lim, maxLen_eq] at *; omega)) (by first | assumption | omega | (simp only [lim, maxLen_eq] at *; omega))) (fun y99 hy98 => ?_)
                subst hy98
                refine Tm.ite (fun h100 => ?_) (fun h100 => ?_)
                · try simp only [decide_eq_true_eq, decide_eq_false_iff_not, Int.not_lt, Int.not_le, bne_iff_ne, ne_eq, bne_eq_false_iff_eq, beq_iff_eq, beq_eq_false_iff_ne, Bool.not_eq_true', Bool.not_eq_false'] at h100
                  exact Tm.ret (by first | rfl | (exfalso; omega) | (exfalso; simp at *))
                · try simp only [decide_eq_true_eq, decide_eq_false_iff_not, Int.not_lt, Int.not_le, bne_iff_ne, ne_eq, bne_eq_false_iff_eq, beq_iff_eq, beq_eq_false_iff_ne, Bool.not_eq_true', Bool.not_eq_false'] at h100
                  try simp only [imm_deepRows]
                  refine laws_heldQueue.tm (fun i hi => hi) (Tm.at (ok := Fuel) (fun k hk => hh73 k hk)) (fun y102 hy101 => ?_)
                  subst hy101
                  refine Tm.ite (fun h103 => ?_) (fun h103 => ?_)
                  · try simp only [decide_eq_true_eq, decide_eq_false_iff_not, Int.not_lt, Int.not_le, bne_iff_ne, ne_eq, bne_eq_false_iff_eq, beq_iff_eq, beq_eq_false_iff_ne, Bool.not_eq_true', Bool.not_eq_false'] at h103
                    exact Tm.ret (by first | rfl | (exfalso; omega) | (exfalso; simp at *))
                  · try simp only [decide_eq_true_eq, decide_eq_false_iff_not, Int.not_lt, Int.not_le, bne_iff_ne, ne_eq, bne_eq_false_iff_eq, beq_iff_eq, beq_eq_false_iff_ne, Bool.not_eq_true', Bool.not_eq_false'] at h103
                    refine Tm.ite (fun h104 => ?_) (fun h104 => ?_)
                    · try simp only [decide_eq_true_eq, decide_eq_false_iff_not, Int.not_lt, Int.not_le, bne_iff_ne, ne_eq, bne_eq_false_iff_eq, beq_iff_eq, beq_eq_false_iff_ne, Bool.not_eq_true', Bool.not_eq_false'] at h104
                      exact Tm.ret (by first | rfl | (exfalso; omega) | (exfalso; simp at *))
                    · try simp only [decide_eq_true_eq, decide_eq_false_iff_not, Int.not_lt, Int.not_le, bne_iff_ne, ne_eq, bne_eq_false_iff_eq, beq_iff_eq, beq_eq_false_iff_ne, Bool.not_eq_true', Bool.not_eq_false'] at h104
                      exact Tm.ret (by first | rfl | (exfalso; omega) | (exfalso; simp at *))
open Go.ChangeShapes Go.WideShapes Go.ChangeAt Go.RowKit
open Go.ChangeMaps (open_string shut_string)
theorem own : ownKnob Try.prog.godebug = none := by kernel_rfl
theorem laidOut : laidOutB Try.prog = true := by kernel_rfl
theorem goodSII_234 {r : List D} (h : RowS Try.prog maxLen 234 r) : RSII maxLen r := by
  have hh := h.open (show flatTypes Try.prog 6 234 = [9, 3, 3] from by kernel_rfl)
  obtain ⟨d0, l0, rfl, g0, hh0⟩ := goodR_cons hh
  obtain ⟨c0, rfl, k0⟩ := good_str (by kernel_rfl) g0
  obtain ⟨d1, l1, rfl, g1, hh1⟩ := goodR_cons hh0
  obtain ⟨c1, rfl, k1⟩ := good_int (k := .i64) (by kernel_rfl) g1
  obtain ⟨d2, l2, rfl, g2, hh2⟩ := goodR_cons hh1
  obtain ⟨c2, rfl, k2⟩ := good_int (k := .i64) (by kernel_rfl) g2
  obtain rfl := goodR_nil hh2
  exact ⟨c0, c1, c2, rfl, k0, k1, k2, trivial⟩
theorem goodS_9 {r : List D} (h : RowS Try.prog maxLen 9 r) : RS maxLen r := by
  have hh := h.open (show flatTypes Try.prog 6 9 = [9] from by kernel_rfl)
  obtain ⟨d0, l0, rfl, g0, hh0⟩ := goodR_cons hh
  obtain ⟨c0, rfl, k0⟩ := good_str (by kernel_rfl) g0
  obtain rfl := goodR_nil hh0
  exact ⟨c0, rfl, k0, trivial⟩
theorem types : lawTys Try.prog [234, 9] = true := by kernel_rfl
set_option maxRecDepth 100000 in
theorem lifted (os : Os) (started : os.Started) (H : Type) (enc : TypeId × Value → H) :
    ReturnsInHanded {} Try.checked os 4 .any (Rows.fnExactPassSpec.pre6 enc Try.prog Try.f4 Rows.fnExactPassRow.domain false) (Rows.fnExactPassSpec.post enc Try.prog Try.f4 false true false false) := by
  refine returnsInHanded_of_change_sized (C := Try.checked) own started (by kernel_rfl) Try.func4
    (ChangeSpec.witness6 (enc := enc) (C := Try.checked) false ⟨#[], #[.agg #[.slice none 0 0, .slice none 0 0, .slice none 0 0, .int .i64 0], .int .i64 0], []⟩ 8 (by kernel_rfl) (by kernel_rfl) (by kernel_rfl) (by kernel_rfl)) ?_
  intro W base args ds gs before hval0 hW hcnd hsz0 _
  have hval : ∀ (j : Nat) t v, Try.f4.params[j]? = some t → args[j]? = some v → Value.okWide Try.prog W .any base t v := hval0
  have hW' := hW
  obtain ⟨p, q, hA0, hV, rfl, hfz, hnd⟩ := hW
  have hA : DataW.TrodAll enc Try.prog W 0 (fun _ => true) true Try.f4.params.toList args.toList ds p := hA0
  have hpar : Try.f4.params = #[40, 3] := by kernel_rfl
  rw [hpar] at hA hval
  obtain ⟨v0, vs0, d0, ds0, p0, q0, hargs, rfl, rfl, h0, r0⟩ := trodAll_cons hA
  obtain ⟨v1, vs1, d1, ds1, p1, q1, rfl, rfl, rfl, h1, r1⟩ := trodAll_cons r0
  obtain ⟨rfl, rfl, rfl⟩ := trodAll_nil r1
  obtain rfl : args = #[v0, v1] := by cases args; simp_all
  obtain ⟨rfl, rfl⟩ := trodVars_none hV
  have k0 := h0
  have lt0 : ∀ x ∈ p0, x.block < W.heap.size := by obtain ⟨m, hm⟩ := k0; exact DataW.trod_lt m _ _ _ hm
  obtain ⟨cs0, xs0, rfl, hl0, hc0, hg0⟩ := open_agg types (by kernel_rfl) (by kernel_rfl) (hval 0 40 v0 rfl rfl) h0
  have hj0 := hg0.open (show flatTypes Try.prog 6 40 = [38, 38, 25, 3] from by kernel_rfl)
  obtain ⟨ea0_0, la0_0, rfl, wa0_0, hj0_0⟩ := goodR_cons hj0
  obtain ⟨a0_0, rfl, ka0_0, ma0_0⟩ := good_sl (e := 234) (by kernel_rfl) wa0_0
  obtain ⟨ea0_1, la0_1, rfl, wa0_1, hj0_1⟩ := goodR_cons hj0_0
  obtain ⟨a0_1, rfl, ka0_1, ma0_1⟩ := good_sl (e := 234) (by kernel_rfl) wa0_1
  obtain ⟨ea0_2, la0_2, rfl, wa0_2, hj0_2⟩ := goodR_cons hj0_1
  obtain ⟨a0_2, rfl, ka0_2, ma0_2⟩ := good_sl (e := 9) (by kernel_rfl) wa0_2
  obtain ⟨ea0_3, la0_3, rfl, wa0_3, hj0_3⟩ := goodR_cons hj0_2
  obtain ⟨a0_3, rfl, ka0_3⟩ := good_int (k := .i64) (by kernel_rfl) wa0_3
  obtain rfl := goodR_nil hj0_3
  have k1 := h1
  have lt1 : ∀ x ∈ p1, x.block < W.heap.size := by obtain ⟨m, hm⟩ := k1; exact DataW.trod_lt m _ _ _ hm
  obtain ⟨sv1, rfl, _⟩ := open_int (k := .i64) (by kernel_rfl) (hval 1 3 v1 rfl rfl) h1
  obtain ⟨ea1, hd1, wa1⟩ := open_cell types (by kernel_rfl) rfl (by kernel_rfl) h1
  obtain ⟨a1, rfl, ka1⟩ := good_int (k := .i64) (by kernel_rfl) wa1
  clear hA0 hval0 hsz0
  obtain ⟨kb, hkb⟩ : ∃ k, big ≤ k := ⟨_, Nat.le_refl _⟩
  obtain ⟨z, rfl, hz⟩ := laws_FnExactPass.T ⟨ka0_0, fun r hr => goodSII_234 (ma0_0 r hr)⟩ ⟨ka0_1, fun r hr => goodSII_234 (ma0_1 r hr)⟩ ⟨ka0_2, fun r hr => goodS_9 (ma0_2 r hr)⟩ ka0_3 ka1
  refine (law_calls (laws_FnExactPass.ok kb) rfl rfl (by kernel_rfl) (aa := laws_FnExactPass.as a0_0 a0_1 a0_2 a0_3 a1) (vs := [.agg cs0.toArray, .int _ sv1]) ?_ ⟨(), ?_⟩).mono fun e W' ⟨he, bel⟩ => ?_
  · exact (ArgsRel.cons' ⟨rfl, cs0, rfl, hl0, hc0⟩ (ArgsRel.cons' ⟨rfl, hd1⟩ ArgsRel.nil'))
  · show laws_FnExactPass.f kb a0_0 a0_1 a0_2 a0_3 a1 (laws_FnExactPass.kt a0_0 a0_1 a0_2 a0_3 a1 _) = some ()
    rw [laws_FnExactPass.f_of (hz kb hkb)]
    rfl
  · subst he
    exact ⟨_, rfl, _, _, _, [], _, [], hW', trodAll_mk1 (shut_bool (by kernel_rfl) _), (trodAll_cons_mk (Below.trod laidOut (by kernel_rfl) (of_decide_eq_true (by kernel_rfl)) k0 bel lt0) (trodAll_cons_mk (Below.trod laidOut (by kernel_rfl) (of_decide_eq_true (by kernel_rfl)) k1 bel lt1) trodAll_mk0)), rfl, bel.frame _, fun h => by cases h⟩
theorem facts1 : joined1 Try.prog 4 Try.f4 Rows.fnExactPassSpec Rows.fnExactPassRow = true := by kernel_rfl
theorem facts2 : joined2 Try.prog 4 Try.f4 Rows.fnExactPassSpec Rows.fnExactPassRow = true := by kernel_rfl
theorem facts3 : joined3 Try.prog 4 Try.f4 Rows.fnExactPassSpec Rows.fnExactPassRow = true := by kernel_rfl
theorem facts4 : joined4 Try.prog 4 Try.f4 Rows.fnExactPassSpec Rows.fnExactPassRow = true := by kernel_rfl
theorem facts5 : joined5 Try.prog 4 Try.f4 Rows.fnExactPassSpec Rows.fnExactPassRow = true := by kernel_rfl
theorem facts6 : joined6 Try.prog 4 Try.f4 Rows.fnExactPassSpec Rows.fnExactPassRow = true := by kernel_rfl
theorem facts7 : joined7 Try.prog 4 Try.f4 Rows.fnExactPassSpec Rows.fnExactPassRow = true := by kernel_rfl
theorem facts8 : joined8 Try.prog 4 Try.f4 Rows.fnExactPassSpec Rows.fnExactPassRow = true := by kernel_rfl
theorem over : Rows.fnExactPassRow.holds Try.pinned (OpenSpec.ofChange Rows.fnExactPassSpec) :=
  OpenClaim.holds_of_wide 4 Try.f4 rfl rfl rfl rfl rfl rfl rfl ⟨rfl, rfl, rfl, rfl, rfl⟩ rfl rfl rfl rfl rfl (by kernel_rfl) Try.func4 (joined_of facts1 facts2 facts3 facts4 facts5 facts6 facts7 facts8)
    (of_decide_eq_true (by kernel_rfl)) (by unfold Func.isWrapper; first | (rw [if_pos (by decide +kernel)]; kernel_rfl) | (rw [if_neg (by decide +kernel)]; exact ⟨rfl, rfl⟩))
    (fun os started H enc _ => lifted os started H enc)
theorem fnExactPass_holds : Rows.FnExactPassSaid := over
end Go.Proofs.Ytljkbknnnpjmgaa
