/- FnExactEligible: the program's function answers as the reference's, for every input. No condition. -/
import Derived.Test.YtnlhhhkeigjnoaaRows
import Derived.Test.YtnlhhhkeigjnoaaYEEligible0
import Derived.KernelRfl
import Derived.WalkKit
import Derived.ProofKit
import Derived.OpenShut
import Derived.ShutString
import Derived.ChangeOld
import Derived.Below
import Derived.SizedLaws
set_option linter.unusedVariables false
set_option linter.unusedSimpArgs false
namespace Go.Proofs.Ytnlhhhkeigjnoaa
open Go Go.T Go.Proofs
theorem laws_FnExactEligible.f_of {β : Type} {k : Nat} {a0_0 : Int} {a0_1 : List (List D)} {a0_2 : List (List D)} {a0_3 : List (List D)} {a1_0 : ByteArray} {a1_1 : List (List D)} {a1_2 : List (List D)} {a1_3 : Int} {z0 : Bool} (h : laws_FnExactEligible.t k a0_0 a0_1 a0_2 a0_3 a1_0 a1_1 a1_2 a1_3 = some z0) (K : Bool → Option β) : laws_FnExactEligible.f k a0_0 a0_1 a0_2 a0_3 a1_0 a1_1 a1_2 a1_3 K = K z0 := by
  unfold laws_FnExactEligible.f
  rw [h]
theorem laws_FnExactEligible.tm {ι α : Type} {ok : ι → Prop} {ψ : α → Prop} {p : ι → Nat} (hp : ∀ i, ok i → big ≤ p i) {a0_0 : Int} {a0_1 : List (List D)} {a0_2 : List (List D)} {a0_3 : List (List D)} {a1_0 : ByteArray} {a1_1 : List (List D)} {a1_2 : List (List D)} {a1_3 : Int} {φ : Bool → Prop} (h : Tm Fuel (fun k => laws_FnExactEligible.t k a0_0 a0_1 a0_2 a0_3 a1_0 a1_1 a1_2 a1_3) φ) {G : ι → Bool → Option α} (hG : ∀ z0, φ z0 → Tm ok (fun i => G i z0) ψ) : Tm ok (fun i => laws_FnExactEligible.f (p i) a0_0 a0_1 a0_2 a0_3 a1_0 a1_1 a1_2 a1_3 (G i)) ψ := by
  obtain ⟨z0, h1, h2⟩ := h
  exact (hG z0 h1).congr fun i hi => laws_FnExactEligible.f_of (h2 (p i) (hp i hi)) _
theorem laws_FnExactEligible.T {a0_0 : Int} {a0_1 : List (List D)} {a0_2 : List (List D)} {a0_3 : List (List D)} {a1_0 : ByteArray} {a1_1 : List (List D)} {a1_2 : List (List D)} {a1_3 : Int} (ga0_0 : (Lit.int .i64 a0_0).wf = true) (ga0_1 : SlOk RISLSE maxLen a0_1) (ga0_2 : SlOk RS maxLen a0_2) (ga0_3 : SlOk RSI maxLen a0_3) (ga1_0 : a1_0.size ≤ maxLen) (ga1_1 : SlOk RSS maxLen a1_1) (ga1_2 : SlOk RS maxLen a1_2) (ga1_3 : (Lit.int .i64 a1_3).wf = true) : Tm Fuel (fun k => laws_FnExactEligible.t k a0_0 a0_1 a0_2 a0_3 a1_0 a1_1 a1_2 a1_3) (fun r => r = true) := by
  unfold laws_FnExactEligible.t laws_FnExactEligible.g
  have hm := maxLen_eq
  have hlim : lim = 1048576 := rfl
  refine laws_szWant.tm (fun i hi => hi) (laws_szWant.T (by first | assumption | omega | (simp only [lim, maxLen_eq] at *; omega)) (by first | assumption | omega | (simp only [lim, maxLen_eq] at *; omega)) (by first | assumption | omega | (simp only [lim, maxLen_eq] at *; omega)) (by first | assumption | omega | (simp only [lim, maxLen_eq] at *; omega)) (by first | assumption | omega | (simp only [lim, maxLen_eq] at *; omega))) (fun y2 hy1 => ?_)
  rcases hy1 with hy1 | ⟨p6, p7, q3, q4, q5, _⟩
  · exact Tm.ite (fun _ => Tm.ret (by rfl)) (fun h => by simp at h; omega)
  refine Tm.ite (fun h8 => ?_) (fun h8 => ?_)
  · try simp only [decide_eq_true_eq, decide_eq_false_iff_not, Int.not_lt, Int.not_le, bne_iff_ne, ne_eq, bne_eq_false_iff_eq, Bool.not_eq_true', Bool.not_eq_false'] at h8
    exact Tm.ret (by first | rfl | (exfalso; simp at *))
  · try simp only [decide_eq_true_eq, decide_eq_false_iff_not, Int.not_lt, Int.not_le, bne_iff_ne, ne_eq, bne_eq_false_iff_eq, Bool.not_eq_true', Bool.not_eq_false'] at h8
    refine laws_szIsland.tm (fun i hi => hi) (laws_szIsland.T (by first | assumption | omega | (simp only [lim, maxLen_eq] at *; omega)) (by first | assumption | omega | (simp only [lim, maxLen_eq] at *; omega)) (by first | assumption | omega | (simp only [lim, maxLen_eq] at *; omega)) (by first | assumption | omega | (simp only [lim, maxLen_eq] at *; omega)) (by first | assumption | omega | (simp only [lim, maxLen_eq] at *; omega))) (fun y10 hy9 => ?_)
    rcases hy9 with hy9 | ⟨p14, p15, q11, q12, q13, _⟩
    · exact Tm.ite (fun _ => Tm.ret (by rfl)) (fun h => by simp at h; omega)
    refine Tm.ite (fun h16 => ?_) (fun h16 => ?_)
    · try simp only [decide_eq_true_eq, decide_eq_false_iff_not, Int.not_lt, Int.not_le, bne_iff_ne, ne_eq, bne_eq_false_iff_eq, Bool.not_eq_true', Bool.not_eq_false'] at h16
      exact Tm.ret (by first | rfl | (exfalso; simp at *))
    · try simp only [decide_eq_true_eq, decide_eq_false_iff_not, Int.not_lt, Int.not_le, bne_iff_ne, ne_eq, bne_eq_false_iff_eq, Bool.not_eq_true', Bool.not_eq_false'] at h16
      refine laws_toWant.tm (fun i hi => hi) (laws_toWant.T (by first | assumption | omega | (simp only [lim, maxLen_eq] at *; omega)) (by first | assumption | omega | (simp only [lim, maxLen_eq] at *; omega)) (by first | assumption | omega | (simp only [lim, maxLen_eq] at *; omega))) (fun y18 y19 y20 y21 hy17 => ?_)
      try simp only [] at hy17
      obtain ⟨rfl, e22, e23, e24, _⟩ := hy17
      try simp only [e22]
      try simp only [e23]
      try simp only [e24]
      refine laws_toIsland.tm (fun i hi => hi) (laws_toIsland.T (by first | assumption | omega | (simp only [lim, maxLen_eq] at *; omega)) (by first | assumption | omega | (simp only [lim, maxLen_eq] at *; omega)) (by first | assumption | omega | (simp only [lim, maxLen_eq] at *; omega))) (fun y26 y27 y28 y29 hy25 => ?_)
      try simp only [] at hy25
      obtain ⟨rfl, e30, e31, rfl, _⟩ := hy25
      try simp only [e30]
      try simp only [e31]
      refine spec_Eligible.tm (fun i hi => hi) (Tm.self (spec_Eligible.T (by first | assumption | omega | (simp only [lim, maxLen_eq] at *; omega)) (by first | assumption | omega | (simp only [lim, maxLen_eq] at *; omega)) (by first | assumption | omega | (simp only [lim, maxLen_eq] at *; omega)) (by first | assumption | omega | (simp only [lim, maxLen_eq] at *; omega)) (by first | assumption | omega | (simp only [lim, maxLen_eq] at *; omega)) (by first | assumption | omega | (simp only [lim, maxLen_eq] at *; omega)))) (fun y33 hy32 => ?_)
      refine laws_toWant.tm (fun i hi => hi) (laws_toWant.T (by first | assumption | omega | (simp only [lim, maxLen_eq] at *; omega)) (by first | assumption | omega | (simp only [lim, maxLen_eq] at *; omega)) (by first | assumption | omega | (simp only [lim, maxLen_eq] at *; omega))) (fun y35 y36 y37 y38 hy34 => ?_)
      try simp only [] at hy34
      obtain ⟨rfl, e39, e40, e41, _⟩ := hy34
      try simp only [e39]
      try simp only [e40]
      try simp only [e41]
      refine laws_toIsland.tm (fun i hi => hi) (laws_toIsland.T (by first | assumption | omega | (simp only [lim, maxLen_eq] at *; omega)) (by first | assumption | omega | (simp only [lim, maxLen_eq] at *; omega)) (by first | assumption | omega | (simp only [lim, maxLen_eq] at *; omega))) (fun y43 y44 y45 y46 hy42 => ?_)
      try simp only [] at hy42
      obtain ⟨rfl, e47, e48, rfl, _⟩ := hy42
      try simp only [e47]
      try simp only [e48]
      refine impl_Eligible.tm (fun i hi => hi) (Tm.at (v := y33) (fun k hk => (impl_Eligible.same (by first | assumption | omega | (simp only [lim, maxLen_eq] at *; omega)) (by first | assumption | omega | (simp only [lim, maxLen_eq] at *; omega)) (by first | assumption | omega | (simp only [lim, maxLen_eq] at *; omega)) (by first | assumption | omega | (simp only [lim, maxLen_eq] at *; omega)) (by first | assumption | omega | (simp only [lim, maxLen_eq] at *; omega)) (by first | assumption | omega | (simp only [lim, maxLen_eq] at *; omega)) hk).trans ((hy32.2) k hk))) (fun y50 hy49 => ?_)
      subst hy49
      refine Tm.ite (fun h51 => ?_) (fun h51 => ?_)
      · try simp only [decide_eq_true_eq, decide_eq_false_iff_not, Int.not_lt, Int.not_le, bne_iff_ne, ne_eq, bne_eq_false_iff_eq, Bool.not_eq_true', Bool.not_eq_false'] at h51
        exact Tm.ret (by first | rfl | (exfalso; simp at *))
      · try simp only [decide_eq_true_eq, decide_eq_false_iff_not, Int.not_lt, Int.not_le, bne_iff_ne, ne_eq, bne_eq_false_iff_eq, Bool.not_eq_true', Bool.not_eq_false'] at h51
        refine laws_toWant.tm (fun i hi => hi) (laws_toWant.T (by first | assumption | omega | (simp only [lim, maxLen_eq] at *; omega)) (by first | assumption | omega | (simp only [lim, maxLen_eq] at *; omega)) (by first | assumption | omega | (simp only [lim, maxLen_eq] at *; omega))) (fun y53 y54 y55 y56 hy52 => ?_)
        try simp only [] at hy52
        obtain ⟨rfl, e57, e58, e59, _⟩ := hy52
        try simp only [e57]
        try simp only [e58]
        try simp only [e59]
        refine laws_eqWant.tm (fun i hi => hi) (laws_eqWant.T (by first | assumption | omega | (simp only [lim, maxLen_eq] at *; omega)) (by first | assumption | omega | (simp only [lim, maxLen_eq] at *; omega)) (by first | assumption | omega | (simp only [lim, maxLen_eq] at *; omega))) (fun y61 hy60 => ?_)
        subst hy60
        refine Tm.ite (fun h62 => ?_) (fun h62 => ?_)
        · try simp only [decide_eq_true_eq, decide_eq_false_iff_not, Int.not_lt, Int.not_le, bne_iff_ne, ne_eq, bne_eq_false_iff_eq, Bool.not_eq_true', Bool.not_eq_false'] at h62
          exact Tm.ret (by first | rfl | (exfalso; simp at *))
        · try simp only [decide_eq_true_eq, decide_eq_false_iff_not, Int.not_lt, Int.not_le, bne_iff_ne, ne_eq, bne_eq_false_iff_eq, Bool.not_eq_true', Bool.not_eq_false'] at h62
          refine laws_toIsland.tm (fun i hi => hi) (laws_toIsland.T (by first | assumption | omega | (simp only [lim, maxLen_eq] at *; omega)) (by first | assumption | omega | (simp only [lim, maxLen_eq] at *; omega)) (by first | assumption | omega | (simp only [lim, maxLen_eq] at *; omega))) (fun y64 y65 y66 y67 hy63 => ?_)
          try simp only [] at hy63
          obtain ⟨rfl, e68, e69, rfl, _⟩ := hy63
          try simp only [e68]
          try simp only [e69]
          refine laws_eqIsland.tm (fun i hi => hi) (laws_eqIsland.T (by first | assumption | omega | (simp only [lim, maxLen_eq] at *; omega)) (by first | assumption | omega | (simp only [lim, maxLen_eq] at *; omega)) (by first | assumption | omega | (simp only [lim, maxLen_eq] at *; omega))) (fun y71 hy70 => ?_)
          subst hy70
          refine Tm.ite (fun h72 => ?_) (fun h72 => ?_)
          · try simp only [decide_eq_true_eq, decide_eq_false_iff_not, Int.not_lt, Int.not_le, bne_iff_ne, ne_eq, bne_eq_false_iff_eq, Bool.not_eq_true', Bool.not_eq_false'] at h72
            exact Tm.ret (by first | rfl | (exfalso; simp at *))
          · try simp only [decide_eq_true_eq, decide_eq_false_iff_not, Int.not_lt, Int.not_le, bne_iff_ne, ne_eq, bne_eq_false_iff_eq, Bool.not_eq_true', Bool.not_eq_false'] at h72
            exact Tm.ret (by first | rfl | (exfalso; simp at *))
open Go.ChangeShapes Go.WideShapes Go.ChangeAt Go.RowKit
open Go.ChangeMaps (open_string shut_string)
theorem own : ownKnob Try.prog.godebug = none := by kernel_rfl
theorem laidOut : laidOutB Try.prog = true := by kernel_rfl
theorem goodS_9 {n : Nat} {r : List D} (h : RowS Try.prog maxLen (n + 1) 9 r) : RS maxLen r := by
  have hh := h.open (show flatTypes Try.prog 6 9 = [9] from by kernel_rfl)
  obtain ⟨d0, l0, rfl, g0, hh0⟩ := goodR_cons hh
  obtain ⟨c0, rfl, k0⟩ := good_str (by kernel_rfl) g0
  obtain rfl := goodR_nil hh0
  exact ⟨c0, rfl, k0, trivial⟩
theorem goodISLSE_191 {n : Nat} {r : List D} (h : RowS Try.prog maxLen (n + 2) 191 r) : RISLSE maxLen r := by
  have hh := h.open (show flatTypes Try.prog 6 191 = [3, 9, 23] from by kernel_rfl)
  obtain ⟨d0, l0, rfl, g0, hh0⟩ := goodR_cons hh
  obtain ⟨c0, rfl, k0⟩ := good_int (k := .i64) (by kernel_rfl) g0
  obtain ⟨d1, l1, rfl, g1, hh1⟩ := goodR_cons hh0
  obtain ⟨c1, rfl, k1⟩ := good_str (by kernel_rfl) g1
  obtain ⟨d2, l2, rfl, g2, hh2⟩ := goodR_cons hh1
  obtain ⟨c2, rfl, k2, m2⟩ := good_sl (e := 9) (by kernel_rfl) g2
  obtain rfl := goodR_nil hh2
  exact ⟨c0, c1, c2, rfl, k0, k1, ⟨k2, fun r hr => goodS_9 (m2 r hr)⟩, trivial⟩
theorem goodSI_193 {n : Nat} {r : List D} (h : RowS Try.prog maxLen (n + 1) 193 r) : RSI maxLen r := by
  have hh := h.open (show flatTypes Try.prog 6 193 = [9, 3] from by kernel_rfl)
  obtain ⟨d0, l0, rfl, g0, hh0⟩ := goodR_cons hh
  obtain ⟨c0, rfl, k0⟩ := good_str (by kernel_rfl) g0
  obtain ⟨d1, l1, rfl, g1, hh1⟩ := goodR_cons hh0
  obtain ⟨c1, rfl, k1⟩ := good_int (k := .i64) (by kernel_rfl) g1
  obtain rfl := goodR_nil hh1
  exact ⟨c0, c1, rfl, k0, k1, trivial⟩
theorem goodSS_185 {n : Nat} {r : List D} (h : RowS Try.prog maxLen (n + 1) 185 r) : RSS maxLen r := by
  have hh := h.open (show flatTypes Try.prog 6 185 = [9, 9] from by kernel_rfl)
  obtain ⟨d0, l0, rfl, g0, hh0⟩ := goodR_cons hh
  obtain ⟨c0, rfl, k0⟩ := good_str (by kernel_rfl) g0
  obtain ⟨d1, l1, rfl, g1, hh1⟩ := goodR_cons hh0
  obtain ⟨c1, rfl, k1⟩ := good_str (by kernel_rfl) g1
  obtain rfl := goodR_nil hh1
  exact ⟨c0, c1, rfl, k0, k1, trivial⟩
set_option maxRecDepth 100000 in
theorem lifted (os : Os) (started : os.Started) (H : Type) (enc : TypeId × Value → H) :
    ReturnsInHanded {} Try.checked os 12 .any (Rows.fnExactEligibleSpec.pre6 enc Try.prog Try.f12 Rows.fnExactEligibleRow.domain false) (Rows.fnExactEligibleSpec.post enc Try.prog Try.f12 false true false false) := by
  refine returnsInHanded_of_change_sized (C := Try.checked) own started (by kernel_rfl) Try.func12
    (ChangeSpec.witness6 (enc := enc) (C := Try.checked) false ⟨#[], #[.agg #[.int .i64 0, .slice none 0 0, .slice none 0 0, .slice none 0 0], .agg #[.string ByteArray.empty, .slice none 0 0, .slice none 0 0, .int .i64 0]], []⟩ 8 (by kernel_rfl) (by kernel_rfl) (by kernel_rfl) (by kernel_rfl)) ?_
  intro W base args ds gs before hval0 hW hcnd hsz0 _
  have hval : ∀ (j : Nat) t v, Try.f12.params[j]? = some t → args[j]? = some v → Value.okWide Try.prog W .any base t v := hval0
  have hW' := hW
  obtain ⟨p, q, hA0, hV, rfl, hfz, hnd⟩ := hW
  have hA : DataW.TrodAll enc Try.prog W 0 (fun _ => true) true Try.f12.params.toList args.toList ds p := hA0
  have hpar : Try.f12.params = #[37, 25] := by kernel_rfl
  rw [hpar] at hA hval
  obtain ⟨v0, vs0, d0, ds0, p0, q0, hargs, rfl, rfl, h0, r0⟩ := trodAll_cons hA
  obtain ⟨v1, vs1, d1, ds1, p1, q1, rfl, rfl, rfl, h1, r1⟩ := trodAll_cons r0
  obtain ⟨rfl, rfl, rfl⟩ := trodAll_nil r1
  obtain rfl : args = #[v0, v1] := by cases args; simp_all
  obtain ⟨rfl, rfl⟩ := trodVars_none hV
  have k0 := h0
  have lt0 : ∀ x ∈ p0, x.block < W.heap.size := by obtain ⟨m, hm⟩ := k0; exact DataW.trod_lt m _ _ _ hm
  obtain ⟨cs0, xs0, rfl, hl0, hc0, hg0⟩ := open_agg (n := 3) (by kernel_rfl) (by kernel_rfl) (hval 0 37 v0 rfl rfl) h0
  have hj0 := hg0.open (show flatTypes Try.prog 6 37 = [3, 34, 23, 35] from by kernel_rfl)
  obtain ⟨ea0_0, la0_0, rfl, wa0_0, hj0_0⟩ := goodR_cons hj0
  obtain ⟨a0_0, rfl, ka0_0⟩ := good_int (k := .i64) (by kernel_rfl) wa0_0
  obtain ⟨ea0_1, la0_1, rfl, wa0_1, hj0_1⟩ := goodR_cons hj0_0
  obtain ⟨a0_1, rfl, ka0_1, ma0_1⟩ := good_sl (e := 191) (by kernel_rfl) wa0_1
  obtain ⟨ea0_2, la0_2, rfl, wa0_2, hj0_2⟩ := goodR_cons hj0_1
  obtain ⟨a0_2, rfl, ka0_2, ma0_2⟩ := good_sl (e := 9) (by kernel_rfl) wa0_2
  obtain ⟨ea0_3, la0_3, rfl, wa0_3, hj0_3⟩ := goodR_cons hj0_2
  obtain ⟨a0_3, rfl, ka0_3, ma0_3⟩ := good_sl (e := 193) (by kernel_rfl) wa0_3
  obtain rfl := goodR_nil hj0_3
  have k1 := h1
  have lt1 : ∀ x ∈ p1, x.block < W.heap.size := by obtain ⟨m, hm⟩ := k1; exact DataW.trod_lt m _ _ _ hm
  obtain ⟨cs1, xs1, rfl, hl1, hc1, hg1⟩ := open_agg (n := 3) (by kernel_rfl) (by kernel_rfl) (hval 1 25 v1 rfl rfl) h1
  have hj1 := hg1.open (show flatTypes Try.prog 6 25 = [9, 22, 23, 3] from by kernel_rfl)
  obtain ⟨ea1_0, la1_0, rfl, wa1_0, hj1_0⟩ := goodR_cons hj1
  obtain ⟨a1_0, rfl, ka1_0⟩ := good_str (by kernel_rfl) wa1_0
  obtain ⟨ea1_1, la1_1, rfl, wa1_1, hj1_1⟩ := goodR_cons hj1_0
  obtain ⟨a1_1, rfl, ka1_1, ma1_1⟩ := good_sl (e := 185) (by kernel_rfl) wa1_1
  obtain ⟨ea1_2, la1_2, rfl, wa1_2, hj1_2⟩ := goodR_cons hj1_1
  obtain ⟨a1_2, rfl, ka1_2, ma1_2⟩ := good_sl (e := 9) (by kernel_rfl) wa1_2
  obtain ⟨ea1_3, la1_3, rfl, wa1_3, hj1_3⟩ := goodR_cons hj1_2
  obtain ⟨a1_3, rfl, ka1_3⟩ := good_int (k := .i64) (by kernel_rfl) wa1_3
  obtain rfl := goodR_nil hj1_3
  clear hA0 hval0 hsz0
  obtain ⟨kb, hkb⟩ : ∃ k, big ≤ k := ⟨big, Nat.le_refl _⟩
  obtain ⟨z, rfl, hz⟩ := laws_FnExactEligible.T ka0_0 ⟨ka0_1, fun r hr => goodISLSE_191 (n := 0) (ma0_1 r hr)⟩ ⟨ka0_2, fun r hr => goodS_9 (n := 1) (ma0_2 r hr)⟩ ⟨ka0_3, fun r hr => goodSI_193 (n := 1) (ma0_3 r hr)⟩ ka1_0 ⟨ka1_1, fun r hr => goodSS_185 (n := 1) (ma1_1 r hr)⟩ ⟨ka1_2, fun r hr => goodS_9 (n := 1) (ma1_2 r hr)⟩ ka1_3
  refine (law_calls (laws_FnExactEligible.ok kb) rfl rfl (by kernel_rfl) (aa := laws_FnExactEligible.as a0_0 a0_1 a0_2 a0_3 a1_0 a1_1 a1_2 a1_3) (vs := [.agg cs0.toArray, .agg cs1.toArray]) ?_ ⟨(), ?_⟩).mono fun e W' ⟨he, bel⟩ => ?_
  · exact (ArgsRel.cons' ⟨rfl, cs0, rfl, hl0, hc0⟩ (ArgsRel.cons' ⟨rfl, cs1, rfl, hl1, hc1⟩ ArgsRel.nil'))
  · show laws_FnExactEligible.f kb a0_0 a0_1 a0_2 a0_3 a1_0 a1_1 a1_2 a1_3 (laws_FnExactEligible.kt a0_0 a0_1 a0_2 a0_3 a1_0 a1_1 a1_2 a1_3 _) = some ()
    rw [laws_FnExactEligible.f_of (hz kb hkb)]
    rfl
  · subst he
    exact ⟨_, rfl, _, _, _, [], _, [], hW', trodAll_mk1 (shut_bool (by kernel_rfl) _), (trodAll_cons_mk (Below.trod laidOut (by kernel_rfl) (of_decide_eq_true (by kernel_rfl)) k0 bel lt0) (trodAll_cons_mk (Below.trod laidOut (by kernel_rfl) (of_decide_eq_true (by kernel_rfl)) k1 bel lt1) trodAll_mk0)), rfl, bel.frame _, fun h => by cases h⟩
theorem over : Rows.fnExactEligibleRow.holds Try.pinned (OpenSpec.ofChange Rows.fnExactEligibleSpec) :=
  OpenClaim.holds_of_wide 12 Try.f12 rfl rfl rfl rfl rfl rfl rfl ⟨rfl, rfl, rfl, rfl, rfl⟩ rfl rfl rfl rfl rfl (by kernel_rfl) Try.func12 (by kernel_rfl)
    (of_decide_eq_true (by kernel_rfl)) (by unfold Func.isWrapper; first | (rw [if_pos (by decide +kernel)]; kernel_rfl) | (rw [if_neg (by decide +kernel)]; exact ⟨rfl, rfl⟩))
    (fun os started H enc _ => lifted os started H enc)
theorem fnExactEligible_holds : Rows.FnExactEligibleSaid := over
end Go.Proofs.Ytnlhhhkeigjnoaa
