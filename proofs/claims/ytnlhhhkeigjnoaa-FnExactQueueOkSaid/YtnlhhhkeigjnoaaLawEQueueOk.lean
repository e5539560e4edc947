/- FnExactQueueOk: the program's function answers as the reference's, for every input. No condition. -/
import Derived.Test.YtnlhhhkeigjnoaaRows
import Derived.Test.YtnlhhhkeigjnoaaYEQueueOk0
import Derived.KernelRfl
import Derived.WalkKit
import Derived.ProofKit
import Derived.OpenShut
import Derived.ShutString
import Derived.ChangeOld
import Derived.Below
import Derived.SizedLaws
set_option linter.unusedVariables false
set_option linter.unusedSimpArgs false
namespace Go.Proofs.Ytnlhhhkeigjnoaa
open Go Go.T Go.Proofs
theorem laws_FnExactQueueOk.f_of {β : Type} {k : Nat} {a0_0 : List (List D)} {a0_1 : List (List D)} {a0_2 : List (List D)} {a0_3 : Int} {z0 : Bool} (h : laws_FnExactQueueOk.t k a0_0 a0_1 a0_2 a0_3 = some z0) (K : Bool → Option β) : laws_FnExactQueueOk.f k a0_0 a0_1 a0_2 a0_3 K = K z0 := by
  unfold laws_FnExactQueueOk.f
  rw [h]
theorem laws_FnExactQueueOk.tm {ι α : Type} {ok : ι → Prop} {ψ : α → Prop} {p : ι → Nat} {B : Nat} (hp : ∀ i, ok i → B ≤ p i) {a0_0 : List (List D)} {a0_1 : List (List D)} {a0_2 : List (List D)} {a0_3 : Int} {φ : Bool → Prop} (h : Tm (fun k => B ≤ k) (fun k => laws_FnExactQueueOk.t k a0_0 a0_1 a0_2 a0_3) φ) {G : ι → Bool → Option α} (hG : ∀ z0, φ z0 → Tm ok (fun i => G i z0) ψ) : Tm ok (fun i => laws_FnExactQueueOk.f (p i) a0_0 a0_1 a0_2 a0_3 (G i)) ψ := by
  obtain ⟨z0, h1, h2⟩ := h
  exact (hG z0 h1).congr fun i hi => laws_FnExactQueueOk.f_of (h2 (p i) (hp i hi)) _
theorem laws_FnExactQueueOk.T {a0_0 : List (List D)} {a0_1 : List (List D)} {a0_2 : List (List D)} {a0_3 : Int} (ga0_0 : SlOk RSII maxLen a0_0) (ga0_1 : SlOk RSII maxLen a0_1) (ga0_2 : SlOk RS maxLen a0_2) (ga0_3 : (Lit.int .i64 a0_3).wf = true) : Tm Fuel (fun k => laws_FnExactQueueOk.t k a0_0 a0_1 a0_2 a0_3) (fun r => r = true) := by
  unfold laws_FnExactQueueOk.t laws_FnExactQueueOk.g
  have hm := maxLen_eq
  have hlim : lim = 1048576 := rfl
  refine laws_szQueue.tm (fun i hi => hi) (laws_szQueue.T (by first | assumption | omega | (simp only [lim, maxLen_eq] at *; omega)) (by first | assumption | omega | (simp only [lim, maxLen_eq] at *; omega)) (by first | assumption | omega | (simp only [lim, maxLen_eq] at *; omega)) (by first | assumption | omega | (simp only [lim, maxLen_eq] at *; omega)) (by first | assumption | omega | (simp only [lim, maxLen_eq] at *; omega))) (fun y2 hy1 => ?_)
  rcases hy1 with hy1 | ⟨p6, p7, q3, q4, q5, _⟩
  · exact Tm.ite (fun _ => Tm.ret (by rfl)) (fun h => by simp at h; omega)
  refine Tm.ite (fun h8 => ?_) (fun h8 => ?_)
  · try simp only [decide_eq_true_eq, decide_eq_false_iff_not, Int.not_lt, Int.not_le, bne_iff_ne, ne_eq, bne_eq_false_iff_eq, beq_iff_eq, beq_eq_false_iff_ne, Bool.not_eq_true', Bool.not_eq_false'] at h8
    exact Tm.ret (by first | rfl | (exfalso; simp at *))
  · try simp only [decide_eq_true_eq, decide_eq_false_iff_not, Int.not_lt, Int.not_le, bne_iff_ne, ne_eq, bne_eq_false_iff_eq, beq_iff_eq, beq_eq_false_iff_ne, Bool.not_eq_true', Bool.not_eq_false'] at h8
    refine laws_toQueue.tm (fun i hi => hi) (laws_toQueue.T (by first | assumption | omega | (simp only [lim, maxLen_eq] at *; omega)) (by first | assumption | omega | (simp only [lim, maxLen_eq] at *; omega)) (by first | assumption | omega | (simp only [lim, maxLen_eq] at *; omega))) (fun y10 y11 y12 y13 hy9 => ?_)
    try simp only [] at hy9
    obtain ⟨e14, e15, e16, rfl, _⟩ := hy9
    try simp only [e14]
    try simp only [e15]
    try simp only [e16]
    refine spec_QueueOk.tm (fun i hi => hi) (Tm.self (spec_QueueOk.T (by first | assumption | omega | (simp only [lim, maxLen_eq] at *; omega)) (by first | assumption | omega | (simp only [lim, maxLen_eq] at *; omega)) (by first | assumption | omega | (simp only [lim, maxLen_eq] at *; omega)))) (fun y18 hy17 => ?_)
    refine laws_toQueue.tm (fun i hi => hi) (laws_toQueue.T (by first | assumption | omega | (simp only [lim, maxLen_eq] at *; omega)) (by first | assumption | omega | (simp only [lim, maxLen_eq] at *; omega)) (by first | assumption | omega | (simp only [lim, maxLen_eq] at *; omega))) (fun y20 y21 y22 y23 hy19 => ?_)
    try simp only [] at hy19
    obtain ⟨e24, e25, e26, rfl, _⟩ := hy19
    try simp only [e24]
    try simp only [e25]
    try simp only [e26]
    refine impl_QueueOk.tm (fun i hi => hi) (Tm.at (ok := Fuel) (v := y18) (fun k hk => (impl_QueueOk.same (by first | assumption | omega | (simp only [lim, maxLen_eq] at *; omega)) (by first | assumption | omega | (simp only [lim, maxLen_eq] at *; omega)) (by first | assumption | omega | (simp only [lim, maxLen_eq] at *; omega)) hk).trans ((hy17.2) k hk))) (fun y28 hy27 => ?_)
    subst hy27
    refine Tm.ite (fun h29 => ?_) (fun h29 => ?_)
    · try simp only [decide_eq_true_eq, decide_eq_false_iff_not, Int.not_lt, Int.not_le, bne_iff_ne, ne_eq, bne_eq_false_iff_eq, beq_iff_eq, beq_eq_false_iff_ne, Bool.not_eq_true', Bool.not_eq_false'] at h29
      exact Tm.ret (by first | rfl | (exfalso; simp at *))
    · try simp only [decide_eq_true_eq, decide_eq_false_iff_not, Int.not_lt, Int.not_le, bne_iff_ne, ne_eq, bne_eq_false_iff_eq, beq_iff_eq, beq_eq_false_iff_ne, Bool.not_eq_true', Bool.not_eq_false'] at h29
      refine laws_toQueue.tm (fun i hi => hi) (laws_toQueue.T (by first | assumption | omega | (simp only [lim, maxLen_eq] at *; omega)) (by first | assumption | omega | (simp only [lim, maxLen_eq] at *; omega)) (by first | assumption | omega | (simp only [lim, maxLen_eq] at *; omega))) (fun y31 y32 y33 y34 hy30 => ?_)
      try simp only [] at hy30
      obtain ⟨e35, e36, e37, rfl, _⟩ := hy30
      try simp only [e35]
      try simp only [e36]
      try simp only [e37]
      refine laws_eqQueue.tm (fun i hi => hi) (laws_eqQueue.T (by first | assumption | omega | (simp only [lim, maxLen_eq] at *; omega)) (by first | assumption | omega | (simp only [lim, maxLen_eq] at *; omega)) (by first | assumption | omega | (simp only [lim, maxLen_eq] at *; omega))) (fun y39 hy38 => ?_)
      subst hy38
      refine Tm.ite (fun h40 => ?_) (fun h40 => ?_)
      · try simp only [decide_eq_true_eq, decide_eq_false_iff_not, Int.not_lt, Int.not_le, bne_iff_ne, ne_eq, bne_eq_false_iff_eq, beq_iff_eq, beq_eq_false_iff_ne, Bool.not_eq_true', Bool.not_eq_false'] at h40
        exact Tm.ret (by first | rfl | (exfalso; simp at *))
      · try simp only [decide_eq_true_eq, decide_eq_false_iff_not, Int.not_lt, Int.not_le, bne_iff_ne, ne_eq, bne_eq_false_iff_eq, beq_iff_eq, beq_eq_false_iff_ne, Bool.not_eq_true', Bool.not_eq_false'] at h40
        exact Tm.ret (by first | rfl | (exfalso; simp at *))
open Go.ChangeShapes Go.WideShapes Go.ChangeAt Go.RowKit
open Go.ChangeMaps (open_string shut_string)
theorem own : ownKnob Try.prog.godebug = none := by kernel_rfl
theorem laidOut : laidOutB Try.prog = true := by kernel_rfl
theorem goodSII_200 {r : List D} (h : RowS Try.prog maxLen 200 r) : RSII maxLen r := by
  have hh := h.open (show flatTypes Try.prog 6 200 = [9, 3, 3] from by kernel_rfl)
  obtain ⟨d0, l0, rfl, g0, hh0⟩ := goodR_cons hh
  obtain ⟨c0, rfl, k0⟩ := good_str (by kernel_rfl) g0
  obtain ⟨d1, l1, rfl, g1, hh1⟩ := goodR_cons hh0
  obtain ⟨c1, rfl, k1⟩ := good_int (k := .i64) (by kernel_rfl) g1
  obtain ⟨d2, l2, rfl, g2, hh2⟩ := goodR_cons hh1
  obtain ⟨c2, rfl, k2⟩ := good_int (k := .i64) (by kernel_rfl) g2
  obtain rfl := goodR_nil hh2
  exact ⟨c0, c1, c2, rfl, k0, k1, k2, trivial⟩
theorem goodS_9 {r : List D} (h : RowS Try.prog maxLen 9 r) : RS maxLen r := by
  have hh := h.open (show flatTypes Try.prog 6 9 = [9] from by kernel_rfl)
  obtain ⟨d0, l0, rfl, g0, hh0⟩ := goodR_cons hh
  obtain ⟨c0, rfl, k0⟩ := good_str (by kernel_rfl) g0
  obtain rfl := goodR_nil hh0
  exact ⟨c0, rfl, k0, trivial⟩
theorem types : lawTys Try.prog [200, 9] = true := by kernel_rfl
set_option maxRecDepth 100000 in
theorem lifted (os : Os) (started : os.Started) (H : Type) (enc : TypeId × Value → H) :
    ReturnsInHanded {} Try.checked os 5 .any (Rows.fnExactQueueOkSpec.pre6 enc Try.prog Try.f5 Rows.fnExactQueueOkRow.domain false) (Rows.fnExactQueueOkSpec.post enc Try.prog Try.f5 false true false false) := by
  refine returnsInHanded_of_change_sized (C := Try.checked) own started (by kernel_rfl) Try.func5
    (ChangeSpec.witness6 (enc := enc) (C := Try.checked) false ⟨#[], #[.agg #[.slice none 0 0, .slice none 0 0, .slice none 0 0, .int .i64 0]], []⟩ 8 (by kernel_rfl) (by kernel_rfl) (by kernel_rfl) (by kernel_rfl)) ?_
  intro W base args ds gs before hval0 hW hcnd hsz0 _
  have hval : ∀ (j : Nat) t v, Try.f5.params[j]? = some t → args[j]? = some v → Value.okWide Try.prog W .any base t v := hval0
  have hW' := hW
  obtain ⟨p, q, hA0, hV, rfl, hfz, hnd⟩ := hW
  have hA : DataW.TrodAll enc Try.prog W 0 (fun _ => true) true Try.f5.params.toList args.toList ds p := hA0
  have hpar : Try.f5.params = #[49] := by kernel_rfl
  rw [hpar] at hA hval
  obtain ⟨v0, vs0, d0, ds0, p0, q0, hargs, rfl, rfl, h0, r0⟩ := trodAll_cons hA
  obtain ⟨rfl, rfl, rfl⟩ := trodAll_nil r0
  obtain rfl : args = #[v0] := by cases args; simp_all
  obtain ⟨rfl, rfl⟩ := trodVars_none hV
  have k0 := h0
  have lt0 : ∀ x ∈ p0, x.block < W.heap.size := by obtain ⟨m, hm⟩ := k0; exact DataW.trod_lt m _ _ _ hm
  obtain ⟨cs0, xs0, rfl, hl0, hc0, hg0⟩ := open_agg types (by kernel_rfl) (by kernel_rfl) (hval 0 49 v0 rfl rfl) h0
  have hj0 := hg0.open (show flatTypes Try.prog 6 49 = [47, 47, 23, 3] from by kernel_rfl)
  obtain ⟨ea0_0, la0_0, rfl, wa0_0, hj0_0⟩ := goodR_cons hj0
  obtain ⟨a0_0, rfl, ka0_0, ma0_0⟩ := good_sl (e := 200) (by kernel_rfl) wa0_0
  obtain ⟨ea0_1, la0_1, rfl, wa0_1, hj0_1⟩ := goodR_cons hj0_0
  obtain ⟨a0_1, rfl, ka0_1, ma0_1⟩ := good_sl (e := 200) (by kernel_rfl) wa0_1
  obtain ⟨ea0_2, la0_2, rfl, wa0_2, hj0_2⟩ := goodR_cons hj0_1
  obtain ⟨a0_2, rfl, ka0_2, ma0_2⟩ := good_sl (e := 9) (by kernel_rfl) wa0_2
  obtain ⟨ea0_3, la0_3, rfl, wa0_3, hj0_3⟩ := goodR_cons hj0_2
  obtain ⟨a0_3, rfl, ka0_3⟩ := good_int (k := .i64) (by kernel_rfl) wa0_3
  obtain rfl := goodR_nil hj0_3
  clear hA0 hval0 hsz0
  obtain ⟨kb, hkb⟩ : ∃ k, big ≤ k := ⟨_, Nat.le_refl _⟩
  obtain ⟨z, rfl, hz⟩ := laws_FnExactQueueOk.T ⟨ka0_0, fun r hr => goodSII_200 (ma0_0 r hr)⟩ ⟨ka0_1, fun r hr => goodSII_200 (ma0_1 r hr)⟩ ⟨ka0_2, fun r hr => goodS_9 (ma0_2 r hr)⟩ ka0_3
  refine (law_calls (laws_FnExactQueueOk.ok kb) rfl rfl (by kernel_rfl) (aa := laws_FnExactQueueOk.as a0_0 a0_1 a0_2 a0_3) (vs := [.agg cs0.toArray]) ?_ ⟨(), ?_⟩).mono fun e W' ⟨he, bel⟩ => ?_
  · exact (ArgsRel.cons' ⟨rfl, cs0, rfl, hl0, hc0⟩ ArgsRel.nil')
  · show laws_FnExactQueueOk.f kb a0_0 a0_1 a0_2 a0_3 (laws_FnExactQueueOk.kt a0_0 a0_1 a0_2 a0_3 _) = some ()
    rw [laws_FnExactQueueOk.f_of (hz kb hkb)]
    rfl
  · subst he
    exact ⟨_, rfl, _, _, _, [], _, [], hW', trodAll_mk1 (shut_bool (by kernel_rfl) _), (trodAll_cons_mk (Below.trod laidOut (by kernel_rfl) (of_decide_eq_true (by kernel_rfl)) k0 bel lt0) trodAll_mk0), rfl, bel.frame _, fun h => by cases h⟩
theorem over : Rows.fnExactQueueOkRow.holds Try.pinned (OpenSpec.ofChange Rows.fnExactQueueOkSpec) :=
  OpenClaim.holds_of_wide 5 Try.f5 rfl rfl rfl rfl rfl rfl rfl ⟨rfl, rfl, rfl, rfl, rfl⟩ rfl rfl rfl rfl rfl (by kernel_rfl) Try.func5 (by kernel_rfl)
    (of_decide_eq_true (by kernel_rfl)) (by unfold Func.isWrapper; first | (rw [if_pos (by decide +kernel)]; kernel_rfl) | (rw [if_neg (by decide +kernel)]; exact ⟨rfl, rfl⟩))
    (fun os started H enc _ => lifted os started H enc)
theorem fnExactQueueOk_holds : Rows.FnExactQueueOkSaid := over
end Go.Proofs.Ytnlhhhkeigjnoaa
