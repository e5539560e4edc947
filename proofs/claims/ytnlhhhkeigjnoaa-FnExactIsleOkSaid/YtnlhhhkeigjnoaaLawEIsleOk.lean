/- FnExactIsleOk: the program's function answers as the reference's, for every input. No condition. -/
import Derived.Test.YtnlhhhkeigjnoaaRows
import Derived.Test.YtnlhhhkeigjnoaaYEIsleOk0
import Derived.KernelRfl
import Derived.WalkKit
import Derived.ProofKit
import Derived.OpenShut
import Derived.ShutString
import Derived.ChangeOld
import Derived.Below
import Derived.SizedLaws
set_option linter.unusedVariables false
set_option linter.unusedSimpArgs false
namespace Go.Proofs.Ytnlhhhkeigjnoaa
open Go Go.T Go.Proofs
theorem laws_FnExactIsleOk.f_of {β : Type} {k : Nat} {a0_0 : ByteArray} {a0_1 : Int} {a0_2 : Int} {a0_3 : List (List D)} {a0_4 : List (List D)} {z0 : Bool} (h : laws_FnExactIsleOk.t k a0_0 a0_1 a0_2 a0_3 a0_4 = some z0) (K : Bool → Option β) : laws_FnExactIsleOk.f k a0_0 a0_1 a0_2 a0_3 a0_4 K = K z0 := by
  unfold laws_FnExactIsleOk.f
  rw [h]
theorem laws_FnExactIsleOk.tm {ι α : Type} {ok : ι → Prop} {ψ : α → Prop} {p : ι → Nat} {B : Nat} (hp : ∀ i, ok i → B ≤ p i) {a0_0 : ByteArray} {a0_1 : Int} {a0_2 : Int} {a0_3 : List (List D)} {a0_4 : List (List D)} {φ : Bool → Prop} (h : Tm (fun k => B ≤ k) (fun k => laws_FnExactIsleOk.t k a0_0 a0_1 a0_2 a0_3 a0_4) φ) {G : ι → Bool → Option α} (hG : ∀ z0, φ z0 → Tm ok (fun i => G i z0) ψ) : Tm ok (fun i => laws_FnExactIsleOk.f (p i) a0_0 a0_1 a0_2 a0_3 a0_4 (G i)) ψ := by
  obtain ⟨z0, h1, h2⟩ := h
  exact (hG z0 h1).congr fun i hi => laws_FnExactIsleOk.f_of (h2 (p i) (hp i hi)) _
theorem laws_FnExactIsleOk.T {a0_0 : ByteArray} {a0_1 : Int} {a0_2 : Int} {a0_3 : List (List D)} {a0_4 : List (List D)} (ga0_0 : a0_0.size ≤ maxLen) (ga0_1 : (Lit.int .i64 a0_1).wf = true) (ga0_2 : (Lit.int .i64 a0_2).wf = true) (ga0_3 : SlOk RIIISILSELISILSELXEE maxLen a0_3) (ga0_4 : SlOk RII maxLen a0_4) : Tm (FuelN 1) (fun k => laws_FnExactIsleOk.t k a0_0 a0_1 a0_2 a0_3 a0_4) (fun r => r = true) := by
  unfold laws_FnExactIsleOk.t laws_FnExactIsleOk.g
  have hm := maxLen_eq
  have hlim : lim = 1048576 := rfl
  refine laws_szIsle.tm (fun i hi => hi) (laws_szIsle.T (by first | assumption | omega | (simp only [lim, maxLen_eq] at *; omega)) (by first | assumption | omega | (simp only [lim, maxLen_eq] at *; omega)) (by first | assumption | omega | (simp only [lim, maxLen_eq] at *; omega)) (by first | assumption | omega | (simp only [lim, maxLen_eq] at *; omega)) (by first | assumption | omega | (simp only [lim, maxLen_eq] at *; omega))) (fun y2 hy1 => ?_)
  rcases hy1 with hy1 | ⟨p6, p7, q3, q4, q5, _⟩
  · exact Tm.ite (fun _ => Tm.ret (by rfl)) (fun h => by simp at h; omega)
  refine Tm.ite (fun h8 => ?_) (fun h8 => ?_)
  · try simp only [decide_eq_true_eq, decide_eq_false_iff_not, Int.not_lt, Int.not_le, bne_iff_ne, ne_eq, bne_eq_false_iff_eq, beq_iff_eq, beq_eq_false_iff_ne, Bool.not_eq_true', Bool.not_eq_false'] at h8
    exact Tm.ret (by first | rfl | (exfalso; omega) | (exfalso; simp at *))
  · try simp only [decide_eq_true_eq, decide_eq_false_iff_not, Int.not_lt, Int.not_le, bne_iff_ne, ne_eq, bne_eq_false_iff_eq, beq_iff_eq, beq_eq_false_iff_ne, Bool.not_eq_true', Bool.not_eq_false'] at h8
    refine laws_toIsle.tm (fun i hi => hi) (laws_toIsle.T (by first | assumption | omega | (simp only [lim, maxLen_eq] at *; omega)) (by first | assumption | omega | (simp only [lim, maxLen_eq] at *; omega)) (by first | assumption | omega | (simp only [lim, maxLen_eq] at *; omega))) (fun y10 y11 y12 y13 y14 hy9 => ?_)
    try simp only [] at hy9
    obtain ⟨rfl, rfl, rfl, e15, e16, _⟩ := hy9
    try simp only [e15]
    try simp only [e16]
    refine spec_IsleOk.tm (fun i hi => hi) (Tm.self (spec_IsleOk.T (by first | assumption | omega | (simp only [lim, maxLen_eq] at *; omega)) (by first | assumption | omega | (simp only [lim, maxLen_eq] at *; omega)) (by first | assumption | omega | (simp only [lim, maxLen_eq] at *; omega)))) (fun y18 hy17 => ?_)
    refine laws_toIsle.tm (fun i hi => hi) (laws_toIsle.T (by first | assumption | omega | (simp only [lim, maxLen_eq] at *; omega)) (by first | assumption | omega | (simp only [lim, maxLen_eq] at *; omega)) (by first | assumption | omega | (simp only [lim, maxLen_eq] at *; omega))) (fun y20 y21 y22 y23 y24 hy19 => ?_)
    try simp only [] at hy19
    obtain ⟨rfl, rfl, rfl, e25, e26, _⟩ := hy19
    try simp only [e25]
    try simp only [e26]
    refine impl_IsleOk.tm (fun i hi => hi) (Tm.at (ok := (FuelN 1)) (v := y18) (fun k hk => (impl_IsleOk.same (by first | assumption | omega | (simp only [lim, maxLen_eq] at *; omega)) (by first | assumption | omega | (simp only [lim, maxLen_eq] at *; omega)) (by first | assumption | omega | (simp only [lim, maxLen_eq] at *; omega)) hk).trans ((hy17.2) k hk))) (fun y28 hy27 => ?_)
    subst hy27
    refine Tm.ite (fun h29 => ?_) (fun h29 => ?_)
    · try simp only [decide_eq_true_eq, decide_eq_false_iff_not, Int.not_lt, Int.not_le, bne_iff_ne, ne_eq, bne_eq_false_iff_eq, beq_iff_eq, beq_eq_false_iff_ne, Bool.not_eq_true', Bool.not_eq_false'] at h29
      exact Tm.ret (by first | rfl | (exfalso; omega) | (exfalso; simp at *))
    · try simp only [decide_eq_true_eq, decide_eq_false_iff_not, Int.not_lt, Int.not_le, bne_iff_ne, ne_eq, bne_eq_false_iff_eq, beq_iff_eq, beq_eq_false_iff_ne, Bool.not_eq_true', Bool.not_eq_false'] at h29
      refine laws_toIsle.tm (fun i hi => hi) (laws_toIsle.T (by first | assumption | omega | (simp only [lim, maxLen_eq] at *; omega)) (by first | assumption | omega | (simp only [lim, maxLen_eq] at *; omega)) (by first | assumption | omega | (simp only [lim, maxLen_eq] at *; omega))) (fun y31 y32 y33 y34 y35 hy30 => ?_)
      try simp only [] at hy30
      obtain ⟨rfl, rfl, rfl, e36, e37, _⟩ := hy30
      try simp only [e36]
      try simp only [e37]
      refine laws_eqIsle.tm (fun i hi => hi) (laws_eqIsle.T (by first | assumption | omega | (simp only [lim, maxLen_eq] at *; omega)) (by first | assumption | omega | (simp only [lim, maxLen_eq] at *; omega)) (by first | assumption | omega | (simp only [lim, maxLen_eq] at *; omega)) (by first | assumption | omega | (simp only [lim, maxLen_eq] at *; omega))) (fun y39 hy38 => ?_)
      subst hy38
      refine Tm.ite (fun h40 => ?_) (fun h40 => ?_)
      · try simp only [decide_eq_true_eq, decide_eq_false_iff_not, Int.not_lt, Int.not_le, bne_iff_ne, ne_eq, bne_eq_false_iff_eq, beq_iff_eq, beq_eq_false_iff_ne, Bool.not_eq_true', Bool.not_eq_false'] at h40
        exact Tm.ret (by first | rfl | (exfalso; omega) | (exfalso; simp at *))
      · try simp only [decide_eq_true_eq, decide_eq_false_iff_not, Int.not_lt, Int.not_le, bne_iff_ne, ne_eq, bne_eq_false_iff_eq, beq_iff_eq, beq_eq_false_iff_ne, Bool.not_eq_true', Bool.not_eq_false'] at h40
        exact Tm.ret (by first | rfl | (exfalso; omega) | (exfalso; simp at *))
open Go.ChangeShapes Go.WideShapes Go.ChangeAt Go.RowKit
open Go.ChangeMaps (open_string shut_string)
theorem own : ownKnob Try.prog.godebug = none := by kernel_rfl
theorem laidOut : laidOutB Try.prog = true := by kernel_rfl
theorem goodS_9 {r : List D} (h : RowS Try.prog maxLen 9 r) : RS maxLen r := by
  have hh := h.open (show flatTypes Try.prog 6 9 = [9] from by kernel_rfl)
  obtain ⟨d0, l0, rfl, g0, hh0⟩ := goodR_cons hh
  obtain ⟨c0, rfl, k0⟩ := good_str (by kernel_rfl) g0
  obtain rfl := goodR_nil hh0
  exact ⟨c0, rfl, k0, trivial⟩
theorem goodISILSELXE_146_n (n : Nat) : ∀ r : List D, SizeOf.sizeOf r = n → RowS Try.prog maxLen 146 r → ∃ h, RISILSELXE_h maxLen h r := by
  induction n using Nat.strongRecOn with
  | ind n ih =>
  intro r hn h
  have hh := h.open (show flatTypes Try.prog 6 146 = [3, 9, 3, 23, 144] from by kernel_rfl)
  obtain ⟨d0, l0, rfl, g0, hh0⟩ := goodR_cons hh
  obtain ⟨c0, rfl, k0⟩ := good_int (k := .i64) (by kernel_rfl) g0
  obtain ⟨d1, l1, rfl, g1, hh1⟩ := goodR_cons hh0
  obtain ⟨c1, rfl, k1⟩ := good_str (by kernel_rfl) g1
  obtain ⟨d2, l2, rfl, g2, hh2⟩ := goodR_cons hh1
  obtain ⟨c2, rfl, k2⟩ := good_int (k := .i64) (by kernel_rfl) g2
  obtain ⟨d3, l3, rfl, g3, hh3⟩ := goodR_cons hh2
  obtain ⟨c3, rfl, k3, m3⟩ := good_sl (e := 9) (by kernel_rfl) g3
  obtain ⟨d4, l4, rfl, g4, hh4⟩ := goodR_cons hh3
  obtain ⟨c4, rfl, k4, m4⟩ := good_sl (e := 146) (by kernel_rfl) g4
  obtain rfl := goodR_nil hh4
  have hs : ∀ r' ∈ c4, SizeOf.sizeOf r' < n := fun r' hr => by have := List.sizeOf_lt_of_mem hr; simp at hn; omega
  obtain ⟨hq, q4⟩ := common (Q := RISILSELXE_h maxLen) (fun _ _ _ => RISILSELXE_h.mono) c4 fun r' hr => ih _ (hs r' hr) r' rfl (m4 r' hr)
  exact ⟨hq + 1, .mk c0 c1 c2 c3 c4 k0 k1 k2 ⟨k3, fun r hr => goodS_9 (m3 r hr)⟩ k4 q4⟩
theorem goodISILSELXE_146 {r : List D} (h : RowS Try.prog maxLen 146 r) : RISILSELXE maxLen r := by
  obtain ⟨h1, h2⟩ := goodISILSELXE_146_n _ r rfl h
  exact ⟨h1, fun hb => absurd (show (9223372036854775807 : Nat) ≤ 1099511627776 from hb) (by decide), h2⟩
theorem goodIIISILSELISILSELXEE_148 {r : List D} (h : RowS Try.prog maxLen 148 r) : RIIISILSELISILSELXEE maxLen r := by
  have hh := h.open (show flatTypes Try.prog 6 148 = [3, 3, 3, 9, 3, 23, 144] from by kernel_rfl)
  obtain ⟨d0, l0, rfl, g0, hh0⟩ := goodR_cons hh
  obtain ⟨c0, rfl, k0⟩ := good_int (k := .i64) (by kernel_rfl) g0
  obtain ⟨d1, l1, rfl, g1, hh1⟩ := goodR_cons hh0
  obtain ⟨c1, rfl, k1⟩ := good_int (k := .i64) (by kernel_rfl) g1
  obtain ⟨d2, l2, rfl, g2, hh2⟩ := goodR_cons hh1
  obtain ⟨c2, rfl, k2⟩ := good_int (k := .i64) (by kernel_rfl) g2
  obtain ⟨d3, l3, rfl, g3, hh3⟩ := goodR_cons hh2
  obtain ⟨c3, rfl, k3⟩ := good_str (by kernel_rfl) g3
  obtain ⟨d4, l4, rfl, g4, hh4⟩ := goodR_cons hh3
  obtain ⟨c4, rfl, k4⟩ := good_int (k := .i64) (by kernel_rfl) g4
  obtain ⟨d5, l5, rfl, g5, hh5⟩ := goodR_cons hh4
  obtain ⟨c5, rfl, k5, m5⟩ := good_sl (e := 9) (by kernel_rfl) g5
  obtain ⟨d6, l6, rfl, g6, hh6⟩ := goodR_cons hh5
  obtain ⟨c6, rfl, k6, m6⟩ := good_sl (e := 146) (by kernel_rfl) g6
  obtain rfl := goodR_nil hh6
  exact ⟨c0, c1, c2, c3, c4, c5, c6, rfl, k0, k1, k2, k3, k4, ⟨k5, fun r hr => goodS_9 (m5 r hr)⟩, ⟨k6, fun r hr => goodISILSELXE_146 (m6 r hr)⟩, trivial⟩
theorem goodII_218 {r : List D} (h : RowS Try.prog maxLen 218 r) : RII maxLen r := by
  have hh := h.open (show flatTypes Try.prog 6 218 = [3, 3] from by kernel_rfl)
  obtain ⟨d0, l0, rfl, g0, hh0⟩ := goodR_cons hh
  obtain ⟨c0, rfl, k0⟩ := good_int (k := .i64) (by kernel_rfl) g0
  obtain ⟨d1, l1, rfl, g1, hh1⟩ := goodR_cons hh0
  obtain ⟨c1, rfl, k1⟩ := good_int (k := .i64) (by kernel_rfl) g1
  obtain rfl := goodR_nil hh1
  exact ⟨c0, c1, rfl, k0, k1, trivial⟩
theorem types : lawTys Try.prog [148, 9, 146, 218] = true := by kernel_rfl
set_option maxRecDepth 100000 in
theorem lifted (os : Os) (started : os.Started) (H : Type) (enc : TypeId × Value → H) :
    ReturnsInHanded {} Try.checked os 11 .any (Rows.fnExactIsleOkSpec.pre6 enc Try.prog Try.f11 Rows.fnExactIsleOkRow.domain false) (Rows.fnExactIsleOkSpec.post enc Try.prog Try.f11 false true false false) := by
  refine returnsInHanded_of_change_sized (C := Try.checked) own started (by kernel_rfl) Try.func11
    (ChangeSpec.witness6 (enc := enc) (C := Try.checked) false ⟨#[], #[.agg #[.string ByteArray.empty, .int .i64 0, .int .i64 0, .slice none 0 0, .slice none 0 0]], []⟩ 8 (by kernel_rfl) (by kernel_rfl) (by kernel_rfl) (by kernel_rfl)) ?_
  intro W base args ds gs before hval0 hW hcnd hsz0 _
  have hval : ∀ (j : Nat) t v, Try.f11.params[j]? = some t → args[j]? = some v → Value.okWide Try.prog W .any base t v := hval0
  have hW' := hW
  obtain ⟨p, q, hA0, hV, rfl, hfz, hnd⟩ := hW
  have hA : DataW.TrodAll enc Try.prog W 0 (fun _ => true) true Try.f11.params.toList args.toList ds p := hA0
  have hpar : Try.f11.params = #[87] := by kernel_rfl
  rw [hpar] at hA hval
  obtain ⟨v0, vs0, d0, ds0, p0, q0, hargs, rfl, rfl, h0, r0⟩ := trodAll_cons hA
  obtain ⟨rfl, rfl, rfl⟩ := trodAll_nil r0
  obtain rfl : args = #[v0] := by cases args; simp_all
  obtain ⟨rfl, rfl⟩ := trodVars_none hV
  have k0 := h0
  have lt0 : ∀ x ∈ p0, x.block < W.heap.size := by obtain ⟨m, hm⟩ := k0; exact DataW.trod_lt m _ _ _ hm
  obtain ⟨cs0, xs0, rfl, hl0, hc0, hg0⟩ := open_agg types (by kernel_rfl) (by kernel_rfl) (hval 0 87 v0 rfl rfl) h0
  have hj0 := hg0.open (show flatTypes Try.prog 6 87 = [9, 3, 3, 70, 76] from by kernel_rfl)
  obtain ⟨ea0_0, la0_0, rfl, wa0_0, hj0_0⟩ := goodR_cons hj0
  obtain ⟨a0_0, rfl, ka0_0⟩ := good_str (by kernel_rfl) wa0_0
  obtain ⟨ea0_1, la0_1, rfl, wa0_1, hj0_1⟩ := goodR_cons hj0_0
  obtain ⟨a0_1, rfl, ka0_1⟩ := good_int (k := .i64) (by kernel_rfl) wa0_1
  obtain ⟨ea0_2, la0_2, rfl, wa0_2, hj0_2⟩ := goodR_cons hj0_1
  obtain ⟨a0_2, rfl, ka0_2⟩ := good_int (k := .i64) (by kernel_rfl) wa0_2
  obtain ⟨ea0_3, la0_3, rfl, wa0_3, hj0_3⟩ := goodR_cons hj0_2
  obtain ⟨a0_3, rfl, ka0_3, ma0_3⟩ := good_sl (e := 148) (by kernel_rfl) wa0_3
  obtain ⟨ea0_4, la0_4, rfl, wa0_4, hj0_4⟩ := goodR_cons hj0_3
  obtain ⟨a0_4, rfl, ka0_4, ma0_4⟩ := good_sl (e := 218) (by kernel_rfl) wa0_4
  obtain rfl := goodR_nil hj0_4
  clear hA0 hval0 hsz0
  obtain ⟨kb, hkb⟩ : ∃ k, lv 1 ≤ k := ⟨_, Nat.le_refl _⟩
  obtain ⟨z, rfl, hz⟩ := laws_FnExactIsleOk.T ka0_0 ka0_1 ka0_2 ⟨ka0_3, fun r hr => goodIIISILSELISILSELXEE_148 (ma0_3 r hr)⟩ ⟨ka0_4, fun r hr => goodII_218 (ma0_4 r hr)⟩
  refine (law_calls (laws_FnExactIsleOk.ok kb) rfl rfl (by kernel_rfl) (aa := laws_FnExactIsleOk.as a0_0 a0_1 a0_2 a0_3 a0_4) (vs := [.agg cs0.toArray]) ?_ ⟨(), ?_⟩).mono fun e W' ⟨he, bel⟩ => ?_
  · exact (ArgsRel.cons' ⟨rfl, cs0, rfl, hl0, hc0⟩ ArgsRel.nil')
  · show laws_FnExactIsleOk.f kb a0_0 a0_1 a0_2 a0_3 a0_4 (laws_FnExactIsleOk.kt a0_0 a0_1 a0_2 a0_3 a0_4 _) = some ()
    rw [laws_FnExactIsleOk.f_of (hz kb hkb)]
    rfl
  · subst he
    exact ⟨_, rfl, _, _, _, [], _, [], hW', trodAll_mk1 (shut_bool (by kernel_rfl) _), (trodAll_cons_mk (Below.trod laidOut (by kernel_rfl) (of_decide_eq_true (by kernel_rfl)) k0 bel lt0) trodAll_mk0), rfl, bel.frame _, fun h => by cases h⟩
theorem over : Rows.fnExactIsleOkRow.holds Try.pinned (OpenSpec.ofChange Rows.fnExactIsleOkSpec) :=
  OpenClaim.holds_of_wide 11 Try.f11 rfl rfl rfl rfl rfl rfl rfl ⟨rfl, rfl, rfl, rfl, rfl⟩ rfl rfl rfl rfl rfl (by kernel_rfl) Try.func11 (by kernel_rfl)
    (of_decide_eq_true (by kernel_rfl)) (by unfold Func.isWrapper; first | (rw [if_pos (by decide +kernel)]; kernel_rfl) | (rw [if_neg (by decide +kernel)]; exact ⟨rfl, rfl⟩))
    (fun os started H enc _ => lifted os started H enc)
theorem fnExactIsleOk_holds : Rows.FnExactIsleOkSaid := over
end Go.Proofs.Ytnlhhhkeigjnoaa
