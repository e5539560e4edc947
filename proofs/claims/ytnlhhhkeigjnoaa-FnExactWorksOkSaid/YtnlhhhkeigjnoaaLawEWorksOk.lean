/- FnExactWorksOk: the program's function answers as the reference's, for every input. No condition. -/
import Derived.Test.YtnlhhhkeigjnoaaRows
import Derived.Test.YtnlhhhkeigjnoaaYEWorksOk0
import Derived.KernelRfl
import Derived.WalkKit
import Derived.ProofKit
import Derived.OpenShut
import Derived.ShutString
import Derived.ChangeOld
import Derived.Below
import Derived.SizedLaws
set_option linter.unusedVariables false
set_option linter.unusedSimpArgs false
namespace Go.Proofs.Ytnlhhhkeigjnoaa
open Go Go.T Go.Proofs
theorem laws_FnExactWorksOk.f_of {β : Type} {k : Nat} {a0 : List (List D)} {z0 : Bool} (h : laws_FnExactWorksOk.t k a0 = some z0) (K : Bool → Option β) : laws_FnExactWorksOk.f k a0 K = K z0 := by
  unfold laws_FnExactWorksOk.f
  rw [h]
theorem laws_FnExactWorksOk.tm {ι α : Type} {ok : ι → Prop} {ψ : α → Prop} {p : ι → Nat} {B : Nat} (hp : ∀ i, ok i → B ≤ p i) {a0 : List (List D)} {φ : Bool → Prop} (h : Tm (fun k => B ≤ k) (fun k => laws_FnExactWorksOk.t k a0) φ) {G : ι → Bool → Option α} (hG : ∀ z0, φ z0 → Tm ok (fun i => G i z0) ψ) : Tm ok (fun i => laws_FnExactWorksOk.f (p i) a0 (G i)) ψ := by
  obtain ⟨z0, h1, h2⟩ := h
  exact (hG z0 h1).congr fun i hi => laws_FnExactWorksOk.f_of (h2 (p i) (hp i hi)) _
theorem laws_FnExactWorksOk.T {a0 : List (List D)} (ga0 : SlOk RIIISILSELISILSELXEE maxLen a0) : Tm (FuelN 1) (fun k => laws_FnExactWorksOk.t k a0) (fun r => r = true) := by
  unfold laws_FnExactWorksOk.t laws_FnExactWorksOk.g
  have hm := maxLen_eq
  have hlim : lim = 1048576 := rfl
  refine laws_szWorkS.tm (fun i hi => hi) (laws_szWorkS.T (by first | assumption | omega | (simp only [lim, maxLen_eq] at *; omega)) (by first | assumption | omega | (simp only [lim, maxLen_eq] at *; omega)) (by first | assumption | omega | (simp only [lim, maxLen_eq] at *; omega))) (fun y2 hy1 => ?_)
  rcases hy1 with hy1 | ⟨p4, p5, q3, _⟩
  · exact Tm.ite (fun _ => Tm.ret (by rfl)) (fun h => by simp at h; omega)
  refine Tm.ite (fun h6 => ?_) (fun h6 => ?_)
  · try simp only [decide_eq_true_eq, decide_eq_false_iff_not, Int.not_lt, Int.not_le, bne_iff_ne, ne_eq, bne_eq_false_iff_eq, beq_iff_eq, beq_eq_false_iff_ne, Bool.not_eq_true', Bool.not_eq_false'] at h6
    exact Tm.ret (by first | rfl | (exfalso; simp at *))
  · try simp only [decide_eq_true_eq, decide_eq_false_iff_not, Int.not_lt, Int.not_le, bne_iff_ne, ne_eq, bne_eq_false_iff_eq, beq_iff_eq, beq_eq_false_iff_ne, Bool.not_eq_true', Bool.not_eq_false'] at h6
    refine laws_toWorkS.tm (fun i hi => hi) (laws_toWorkS.T (by first | assumption | omega | (simp only [lim, maxLen_eq] at *; omega))) (fun y8 hy7 => ?_)
    try simp only [] at hy7
    obtain ⟨e9, _⟩ := hy7
    try simp only [e9]
    refine spec_WorksOk.tm (fun i hi => hi) (Tm.self (spec_WorksOk.T (by first | assumption | omega | (simp only [lim, maxLen_eq] at *; omega)))) (fun y11 hy10 => ?_)
    refine laws_toWorkS.tm (fun i hi => hi) (laws_toWorkS.T (by first | assumption | omega | (simp only [lim, maxLen_eq] at *; omega))) (fun y13 hy12 => ?_)
    try simp only [] at hy12
    obtain ⟨e14, _⟩ := hy12
    try simp only [e14]
    refine impl_WorksOk.tm (fun i hi => hi) (Tm.at (ok := (FuelN 1)) (v := y11) (fun k hk => (impl_WorksOk.same (by first | assumption | omega | (simp only [lim, maxLen_eq] at *; omega)) hk).trans ((hy10.2) k hk))) (fun y16 hy15 => ?_)
    subst hy15
    refine Tm.ite (fun h17 => ?_) (fun h17 => ?_)
    · try simp only [decide_eq_true_eq, decide_eq_false_iff_not, Int.not_lt, Int.not_le, bne_iff_ne, ne_eq, bne_eq_false_iff_eq, beq_iff_eq, beq_eq_false_iff_ne, Bool.not_eq_true', Bool.not_eq_false'] at h17
      exact Tm.ret (by first | rfl | (exfalso; simp at *))
    · try simp only [decide_eq_true_eq, decide_eq_false_iff_not, Int.not_lt, Int.not_le, bne_iff_ne, ne_eq, bne_eq_false_iff_eq, beq_iff_eq, beq_eq_false_iff_ne, Bool.not_eq_true', Bool.not_eq_false'] at h17
      refine laws_toWorkS.tm (fun i hi => hi) (laws_toWorkS.T (by first | assumption | omega | (simp only [lim, maxLen_eq] at *; omega))) (fun y19 hy18 => ?_)
      try simp only [] at hy18
      obtain ⟨e20, _⟩ := hy18
      try simp only [e20]
      refine laws_eqWorkS.tm (fun i hi => hi) (laws_eqWorkS.T (by first | assumption | omega | (simp only [lim, maxLen_eq] at *; omega))) (fun y22 hy21 => ?_)
      subst hy21
      refine Tm.ite (fun h23 => ?_) (fun h23 => ?_)
      · try simp only [decide_eq_true_eq, decide_eq_false_iff_not, Int.not_lt, Int.not_le, bne_iff_ne, ne_eq, bne_eq_false_iff_eq, beq_iff_eq, beq_eq_false_iff_ne, Bool.not_eq_true', Bool.not_eq_false'] at h23
        exact Tm.ret (by first | rfl | (exfalso; simp at *))
      · try simp only [decide_eq_true_eq, decide_eq_false_iff_not, Int.not_lt, Int.not_le, bne_iff_ne, ne_eq, bne_eq_false_iff_eq, beq_iff_eq, beq_eq_false_iff_ne, Bool.not_eq_true', Bool.not_eq_false'] at h23
        exact Tm.ret (by first | rfl | (exfalso; simp at *))
open Go.ChangeShapes Go.WideShapes Go.ChangeAt Go.RowKit
open Go.ChangeMaps (open_string shut_string)
theorem own : ownKnob Try.prog.godebug = none := by kernel_rfl
theorem laidOut : laidOutB Try.prog = true := by kernel_rfl
theorem goodS_9 {r : List D} (h : RowS Try.prog maxLen 9 r) : RS maxLen r := by
  have hh := h.open (show flatTypes Try.prog 6 9 = [9] from by kernel_rfl)
  obtain ⟨d0, l0, rfl, g0, hh0⟩ := goodR_cons hh
  obtain ⟨c0, rfl, k0⟩ := good_str (by kernel_rfl) g0
  obtain rfl := goodR_nil hh0
  exact ⟨c0, rfl, k0, trivial⟩
theorem goodISILSELXE_146_n (n : Nat) : ∀ r : List D, SizeOf.sizeOf r = n → RowS Try.prog maxLen 146 r → ∃ h, RISILSELXE_h maxLen h r := by
  induction n using Nat.strongRecOn with
  | ind n ih =>
  intro r hn h
  have hh := h.open (show flatTypes Try.prog 6 146 = [3, 9, 3, 23, 144] from by kernel_rfl)
  obtain ⟨d0, l0, rfl, g0, hh0⟩ := goodR_cons hh
  obtain ⟨c0, rfl, k0⟩ := good_int (k := .i64) (by kernel_rfl) g0
  obtain ⟨d1, l1, rfl, g1, hh1⟩ := goodR_cons hh0
  obtain ⟨c1, rfl, k1⟩ := good_str (by kernel_rfl) g1
  obtain ⟨d2, l2, rfl, g2, hh2⟩ := goodR_cons hh1
  obtain ⟨c2, rfl, k2⟩ := good_int (k := .i64) (by kernel_rfl) g2
  obtain ⟨d3, l3, rfl, g3, hh3⟩ := goodR_cons hh2
  obtain ⟨c3, rfl, k3, m3⟩ := good_sl (e := 9) (by kernel_rfl) g3
  obtain ⟨d4, l4, rfl, g4, hh4⟩ := goodR_cons hh3
  obtain ⟨c4, rfl, k4, m4⟩ := good_sl (e := 146) (by kernel_rfl) g4
  obtain rfl := goodR_nil hh4
  have hs : ∀ r' ∈ c4, SizeOf.sizeOf r' < n := fun r' hr => by have := List.sizeOf_lt_of_mem hr; simp at hn; omega
  obtain ⟨hq, q4⟩ := common (Q := RISILSELXE_h maxLen) (fun _ _ _ => RISILSELXE_h.mono) c4 fun r' hr => ih _ (hs r' hr) r' rfl (m4 r' hr)
  exact ⟨hq + 1, .mk c0 c1 c2 c3 c4 k0 k1 k2 ⟨k3, fun r hr => goodS_9 (m3 r hr)⟩ k4 q4⟩
theorem goodISILSELXE_146 {r : List D} (h : RowS Try.prog maxLen 146 r) : RISILSELXE maxLen r := by
  obtain ⟨h1, h2⟩ := goodISILSELXE_146_n _ r rfl h
  exact ⟨h1, fun hb => (by cases (hb : (9223372036854775807 : Nat) = 1048576)), h2⟩
theorem goodIIISILSELISILSELXEE_148 {r : List D} (h : RowS Try.prog maxLen 148 r) : RIIISILSELISILSELXEE maxLen r := by
  have hh := h.open (show flatTypes Try.prog 6 148 = [3, 3, 3, 9, 3, 23, 144] from by kernel_rfl)
  obtain ⟨d0, l0, rfl, g0, hh0⟩ := goodR_cons hh
  obtain ⟨c0, rfl, k0⟩ := good_int (k := .i64) (by kernel_rfl) g0
  obtain ⟨d1, l1, rfl, g1, hh1⟩ := goodR_cons hh0
  obtain ⟨c1, rfl, k1⟩ := good_int (k := .i64) (by kernel_rfl) g1
  obtain ⟨d2, l2, rfl, g2, hh2⟩ := goodR_cons hh1
  obtain ⟨c2, rfl, k2⟩ := good_int (k := .i64) (by kernel_rfl) g2
  obtain ⟨d3, l3, rfl, g3, hh3⟩ := goodR_cons hh2
  obtain ⟨c3, rfl, k3⟩ := good_str (by kernel_rfl) g3
  obtain ⟨d4, l4, rfl, g4, hh4⟩ := goodR_cons hh3
  obtain ⟨c4, rfl, k4⟩ := good_int (k := .i64) (by kernel_rfl) g4
  obtain ⟨d5, l5, rfl, g5, hh5⟩ := goodR_cons hh4
  obtain ⟨c5, rfl, k5, m5⟩ := good_sl (e := 9) (by kernel_rfl) g5
  obtain ⟨d6, l6, rfl, g6, hh6⟩ := goodR_cons hh5
  obtain ⟨c6, rfl, k6, m6⟩ := good_sl (e := 146) (by kernel_rfl) g6
  obtain rfl := goodR_nil hh6
  exact ⟨c0, c1, c2, c3, c4, c5, c6, rfl, k0, k1, k2, k3, k4, ⟨k5, fun r hr => goodS_9 (m5 r hr)⟩, ⟨k6, fun r hr => goodISILSELXE_146 (m6 r hr)⟩, trivial⟩
theorem types : lawTys Try.prog [148, 9, 146] = true := by kernel_rfl
set_option maxRecDepth 100000 in
theorem lifted (os : Os) (started : os.Started) (H : Type) (enc : TypeId × Value → H) :
    ReturnsInHanded {} Try.checked os 9 .any (Rows.fnExactWorksOkSpec.pre6 enc Try.prog Try.f9 Rows.fnExactWorksOkRow.domain false) (Rows.fnExactWorksOkSpec.post enc Try.prog Try.f9 false true false false) := by
  refine returnsInHanded_of_change_sized (C := Try.checked) own started (by kernel_rfl) Try.func9
    (ChangeSpec.witness6 (enc := enc) (C := Try.checked) false ⟨#[], #[.slice none 0 0], []⟩ 8 (by kernel_rfl) (by kernel_rfl) (by kernel_rfl) (by kernel_rfl)) ?_
  intro W base args ds gs before hval0 hW hcnd hsz0 _
  have hval : ∀ (j : Nat) t v, Try.f9.params[j]? = some t → args[j]? = some v → Value.okWide Try.prog W .any base t v := hval0
  have hW' := hW
  obtain ⟨p, q, hA0, hV, rfl, hfz, hnd⟩ := hW
  have hA : DataW.TrodAll enc Try.prog W 0 (fun _ => true) true Try.f9.params.toList args.toList ds p := hA0
  have hpar : Try.f9.params = #[70] := by kernel_rfl
  rw [hpar] at hA hval
  obtain ⟨v0, vs0, d0, ds0, p0, q0, hargs, rfl, rfl, h0, r0⟩ := trodAll_cons hA
  obtain ⟨rfl, rfl, rfl⟩ := trodAll_nil r0
  obtain rfl : args = #[v0] := by cases args; simp_all
  obtain ⟨rfl, rfl⟩ := trodVars_none hV
  have k0 := h0
  have lt0 : ∀ x ∈ p0, x.block < W.heap.size := by obtain ⟨m, hm⟩ := k0; exact DataW.trod_lt m _ _ _ hm
  obtain ⟨sa0, sn0, sc0, rfl⟩ := okWide_slice (e := 148) (by kernel_rfl) (hval 0 70 v0 rfl rfl)
  obtain ⟨ea0, hd0, wa0⟩ := open_cell types (by kernel_rfl) rfl (by kernel_rfl) h0
  obtain ⟨a0, rfl, ka0, ma0⟩ := good_sl (e := 148) (by kernel_rfl) wa0
  clear hA0 hval0 hsz0
  obtain ⟨kb, hkb⟩ : ∃ k, lv 1 ≤ k := ⟨_, Nat.le_refl _⟩
  obtain ⟨z, rfl, hz⟩ := laws_FnExactWorksOk.T ⟨ka0, fun r hr => goodIIISILSELISILSELXEE_148 (ma0 r hr)⟩
  refine (law_calls (laws_FnExactWorksOk.ok kb) rfl rfl (by kernel_rfl) (aa := laws_FnExactWorksOk.as a0) (vs := [.slice sa0 sn0 sc0]) ?_ ⟨(), ?_⟩).mono fun e W' ⟨he, bel⟩ => ?_
  · exact (ArgsRel.cons' ⟨rfl, hd0⟩ ArgsRel.nil')
  · show laws_FnExactWorksOk.f kb a0 (laws_FnExactWorksOk.kt a0 _) = some ()
    rw [laws_FnExactWorksOk.f_of (hz kb hkb)]
    rfl
  · subst he
    exact ⟨_, rfl, _, _, _, [], _, [], hW', trodAll_mk1 (shut_bool (by kernel_rfl) _), (trodAll_cons_mk (Below.trod laidOut (by kernel_rfl) (of_decide_eq_true (by kernel_rfl)) k0 bel lt0) trodAll_mk0), rfl, bel.frame _, fun h => by cases h⟩
theorem over : Rows.fnExactWorksOkRow.holds Try.pinned (OpenSpec.ofChange Rows.fnExactWorksOkSpec) :=
  OpenClaim.holds_of_wide 9 Try.f9 rfl rfl rfl rfl rfl rfl rfl ⟨rfl, rfl, rfl, rfl, rfl⟩ rfl rfl rfl rfl rfl (by kernel_rfl) Try.func9 (by kernel_rfl)
    (of_decide_eq_true (by kernel_rfl)) (by unfold Func.isWrapper; first | (rw [if_pos (by decide +kernel)]; kernel_rfl) | (rw [if_neg (by decide +kernel)]; exact ⟨rfl, rfl⟩))
    (fun os started H enc _ => lifted os started H enc)
theorem fnExactWorksOk_holds : Rows.FnExactWorksOkSaid := over
end Go.Proofs.Ytnlhhhkeigjnoaa
