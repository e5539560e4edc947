/- FnExactIsleNew: the program's function answers as the reference's, for every input. No condition. -/
import Derived.Test.YtnlhhhkeigjnoaaRows
import Derived.Test.YtnlhhhkeigjnoaaYEIsleNew0
import Derived.KernelRfl
import Derived.WalkKit
import Derived.ProofKit
import Derived.OpenShut
import Derived.ShutString
import Derived.ChangeOld
import Derived.Below
import Derived.SizedLaws
set_option linter.unusedVariables false
set_option linter.unusedSimpArgs false
namespace Go.Proofs.Ytnlhhhkeigjnoaa
open Go Go.T Go.Proofs
theorem laws_FnExactIsleNew.f_of {β : Type} {k : Nat} {a0 : ByteArray} {a1 : Int} {z0 : Bool} (h : laws_FnExactIsleNew.t k a0 a1 = some z0) (K : Bool → Option β) : laws_FnExactIsleNew.f k a0 a1 K = K z0 := by
  unfold laws_FnExactIsleNew.f
  rw [h]
theorem laws_FnExactIsleNew.tm {ι α : Type} {ok : ι → Prop} {ψ : α → Prop} {p : ι → Nat} {B : Nat} (hp : ∀ i, ok i → B ≤ p i) {a0 : ByteArray} {a1 : Int} {φ : Bool → Prop} (h : Tm (fun k => B ≤ k) (fun k => laws_FnExactIsleNew.t k a0 a1) φ) {G : ι → Bool → Option α} (hG : ∀ z0, φ z0 → Tm ok (fun i => G i z0) ψ) : Tm ok (fun i => laws_FnExactIsleNew.f (p i) a0 a1 (G i)) ψ := by
  obtain ⟨z0, h1, h2⟩ := h
  exact (hG z0 h1).congr fun i hi => laws_FnExactIsleNew.f_of (h2 (p i) (hp i hi)) _
theorem laws_FnExactIsleNew.T {a0 : ByteArray} {a1 : Int} (ga0 : a0.size ≤ maxLen) (ga1 : (Lit.int .i64 a1).wf = true) : Tm (FuelN 1) (fun k => laws_FnExactIsleNew.t k a0 a1) (fun r => r = true) := by
  unfold laws_FnExactIsleNew.t laws_FnExactIsleNew.g
  have hm := maxLen_eq
  have hlim : lim = 1048576 := rfl
  refine Tm.ite (fun h1 => ?_) (fun h1 => ?_)
  · try simp only [decide_eq_true_eq, decide_eq_false_iff_not, Int.not_lt, Int.not_le, bne_iff_ne, ne_eq, bne_eq_false_iff_eq, beq_iff_eq, beq_eq_false_iff_ne, Bool.not_eq_true', Bool.not_eq_false'] at h1
    exact Tm.ret (by first | rfl | (exfalso; omega) | (exfalso; simp at *))
  · try simp only [decide_eq_true_eq, decide_eq_false_iff_not, Int.not_lt, Int.not_le, bne_iff_ne, ne_eq, bne_eq_false_iff_eq, beq_iff_eq, beq_eq_false_iff_ne, Bool.not_eq_true', Bool.not_eq_false'] at h1
    refine spec_IsleNew.tm (fun i hi => up0 hi) (Tm.self (spec_IsleNew.T (by first | assumption | omega | (simp only [lim, maxLen_eq] at *; omega)))) (fun y3 y4 y5 y6 y7 y8 hy2 => ?_)
    have hf9 := hy2.1
    try simp only [] at hf9
    obtain ⟨q10, q11, q12, q13, q14, _⟩ := hf9
    refine impl_IsleNew.tm (fun i hi => hi) (Tm.at (ok := (FuelN 1)) (v := (y3, y4, y5, deepRows (C.immRows y6), deepRows (C.immRows y7), y8)) (fun k hk => impl_IsleNew.same (by first | assumption | omega | (simp only [lim, maxLen_eq] at *; omega)) (up0 hk) ((hy2.2) k (up0 hk)))) (fun y16 y17 y18 y19 y20 y21 hy15 => ?_)
    simp only [Prod.mk.injEq] at hy15; obtain ⟨hy15e0, hy15e1, hy15e2, hy15e3, hy15e4, hy15e5⟩ := hy15; subst y16 y17 y18 y19 y20 y21
    try simp only [imm_deepRows]
    refine laws_eqIsle.tm (fun i hi => hi) (laws_eqIsle.T (by first | assumption | omega | (simp only [lim, maxLen_eq] at *; omega)) (by first | assumption | omega | (simp only [lim, maxLen_eq] at *; omega)) (by first | assumption | omega | (simp only [lim, maxLen_eq] at *; omega)) (by first | assumption | omega | (simp only [lim, maxLen_eq] at *; omega))) (fun y23 hy22 => ?_)
    subst hy22
    refine Tm.ite (fun h24 => ?_) (fun h24 => ?_)
    · try simp only [decide_eq_true_eq, decide_eq_false_iff_not, Int.not_lt, Int.not_le, bne_iff_ne, ne_eq, bne_eq_false_iff_eq, beq_iff_eq, beq_eq_false_iff_ne, Bool.not_eq_true', Bool.not_eq_false'] at h24
      exact Tm.ret (by first | rfl | (exfalso; omega) | (exfalso; simp at *))
    · try simp only [decide_eq_true_eq, decide_eq_false_iff_not, Int.not_lt, Int.not_le, bne_iff_ne, ne_eq, bne_eq_false_iff_eq, beq_iff_eq, beq_eq_false_iff_ne, Bool.not_eq_true', Bool.not_eq_false'] at h24
      refine Tm.ite (fun h25 => ?_) (fun h25 => ?_)
      · try simp only [decide_eq_true_eq, decide_eq_false_iff_not, Int.not_lt, Int.not_le, bne_iff_ne, ne_eq, bne_eq_false_iff_eq, beq_iff_eq, beq_eq_false_iff_ne, Bool.not_eq_true', Bool.not_eq_false'] at h25
        exact Tm.ret (by first | rfl | (exfalso; omega) | (exfalso; simp at *))
      · try simp only [decide_eq_true_eq, decide_eq_false_iff_not, Int.not_lt, Int.not_le, bne_iff_ne, ne_eq, bne_eq_false_iff_eq, beq_iff_eq, beq_eq_false_iff_ne, Bool.not_eq_true', Bool.not_eq_false'] at h25
        refine laws_markIsle.tm (fun i hi => hi) (laws_markIsle.T (B := 2097152) (by decide) (by assumption) (by assumption) (by omega) (by omega)) (fun y27 y28 y29 hy26 => ?_)
        obtain ⟨ys31, ys32, en37, et33, et34, el35, el36, hh30⟩ := hy26
        simp only [] at en37 et33 et34 hh30
        subst en37 et33 et34
        refine Tm.guard (by first | omega | (simp only [deepRows_length]; assumption) | (simp only [lim, maxLen_eq, most] at *; omega) | (simp only [lim, most] at *; refine ⟨?_, ?_, ?_, ?_⟩ <;> omega)) ?_
        refine Tm.guard (by first | omega | (simp only [deepRows_length]; assumption) | (simp only [lim, maxLen_eq, most] at *; omega) | (simp only [lim, most] at *; refine ⟨?_, ?_, ?_, ?_⟩ <;> omega)) ?_
        try simp only [imm_deepRows]
        refine laws_heldIsle.tm (fun i hi => hi) (Tm.at (ok := (FuelN 1)) (fun k hk => hh30 k hk)) (fun y39 hy38 => ?_)
        subst hy38
        refine Tm.ite (fun h40 => ?_) (fun h40 => ?_)
        · try simp only [decide_eq_true_eq, decide_eq_false_iff_not, Int.not_lt, Int.not_le, bne_iff_ne, ne_eq, bne_eq_false_iff_eq, beq_iff_eq, beq_eq_false_iff_ne, Bool.not_eq_true', Bool.not_eq_false'] at h40
          exact Tm.ret (by first | rfl | (exfalso; omega) | (exfalso; simp at *))
        · try simp only [decide_eq_true_eq, decide_eq_false_iff_not, Int.not_lt, Int.not_le, bne_iff_ne, ne_eq, bne_eq_false_iff_eq, beq_iff_eq, beq_eq_false_iff_ne, Bool.not_eq_true', Bool.not_eq_false'] at h40
          refine Tm.ite (fun h41 => ?_) (fun h41 => ?_)
          · try simp only [decide_eq_true_eq, decide_eq_false_iff_not, Int.not_lt, Int.not_le, bne_iff_ne, ne_eq, bne_eq_false_iff_eq, beq_iff_eq, beq_eq_false_iff_ne, Bool.not_eq_true', Bool.not_eq_false'] at h41
            exact Tm.ret (by first | rfl | (exfalso; omega) | (exfalso; simp at *))
          · try simp only [decide_eq_true_eq, decide_eq_false_iff_not, Int.not_lt, Int.not_le, bne_iff_ne, ne_eq, bne_eq_false_iff_eq, beq_iff_eq, beq_eq_false_iff_ne, Bool.not_eq_true', Bool.not_eq_false'] at h41
            refine impl_IsleNew.tm (fun i hi => hi) (Tm.at (ok := (FuelN 1)) (v := (y3, y4, y5, deepRows (C.immRows y6), deepRows (C.immRows y7), y8)) (fun k hk => impl_IsleNew.same (by first | assumption | omega | (simp only [lim, maxLen_eq] at *; omega)) (up0 hk) ((hy2.2) k (up0 hk)))) (fun y43 y44 y45 y46 y47 y48 hy42 => ?_)
            simp only [Prod.mk.injEq] at hy42; obtain ⟨hy42e0, hy42e1, hy42e2, hy42e3, hy42e4, hy42e5⟩ := hy42; subst y43 y44 y45 y46 y47 y48
            try simp only [imm_deepRows]
            refine laws_eqIsle.tm (fun i hi => hi) (laws_eqIsle.T (by first | assumption | omega | (simp only [lim, maxLen_eq] at *; omega)) (by first | assumption | omega | (simp only [lim, maxLen_eq] at *; omega)) (by first | assumption | omega | (simp only [lim, maxLen_eq] at *; omega)) (by first | assumption | omega | (simp only [lim, maxLen_eq] at *; omega))) (fun y50 hy49 => ?_)
            subst hy49
            refine Tm.ite (fun h51 => ?_) (fun h51 => ?_)
            · try simp only [decide_eq_true_eq, decide_eq_false_iff_not, Int.not_lt, Int.not_le, bne_iff_ne, ne_eq, bne_eq_false_iff_eq, beq_iff_eq, beq_eq_false_iff_ne, Bool.not_eq_true', Bool.not_eq_false'] at h51
              exact Tm.ret (by first | rfl | (exfalso; omega) | (exfalso; simp at *))
            · try simp only [decide_eq_true_eq, decide_eq_false_iff_not, Int.not_lt, Int.not_le, bne_iff_ne, ne_eq, bne_eq_false_iff_eq, beq_iff_eq, beq_eq_false_iff_ne, Bool.not_eq_true', Bool.not_eq_false'] at h51
              refine Tm.ite (fun h52 => ?_) (fun h52 => ?_)
              · try simp only [decide_eq_true_eq, decide_eq_false_iff_not, Int.not_lt, Int.not_le, bne_iff_ne, ne_eq, bne_eq_false_iff_eq, beq_iff_eq, beq_eq_false_iff_ne, Bool.not_eq_true', Bool.not_eq_false'] at h52
                exact Tm.ret (by first | rfl | (exfalso; omega) | (exfalso; simp at *))
              · try simp only [decide_eq_true_eq, decide_eq_false_iff_not, Int.not_lt, Int.not_le, bne_iff_ne, ne_eq, bne_eq_false_iff_eq, beq_iff_eq, beq_eq_false_iff_ne, Bool.not_eq_true', Bool.not_eq_false'] at h52
                try simp only [imm_deepRows]
                refine laws_heldIsle.tm (fun i hi => hi) (Tm.at (ok := (FuelN 1)) (fun k hk => hh30 k hk)) (fun y54 hy53 => ?_)
                subst hy53
                refine Tm.ite (fun h55 => ?_) (fun h55 => ?_)
                · try simp only [decide_eq_true_eq, decide_eq_false_iff_not, Int.not_lt, Int.not_le, bne_iff_ne, ne_eq, bne_eq_false_iff_eq, beq_iff_eq, beq_eq_false_iff_ne, Bool.not_eq_true', Bool.not_eq_false'] at h55
                  exact Tm.ret (by first | rfl | (exfalso; omega) | (exfalso; simp at *))
                · try simp only [decide_eq_true_eq, decide_eq_false_iff_not, Int.not_lt, Int.not_le, bne_iff_ne, ne_eq, bne_eq_false_iff_eq, beq_iff_eq, beq_eq_false_iff_ne, Bool.not_eq_true', Bool.not_eq_false'] at h55
                  refine Tm.ite (fun h56 => ?_) (fun h56 => ?_)
                  · try simp only [decide_eq_true_eq, decide_eq_false_iff_not, Int.not_lt, Int.not_le, bne_iff_ne, ne_eq, bne_eq_false_iff_eq, beq_iff_eq, beq_eq_false_iff_ne, Bool.not_eq_true', Bool.not_eq_false'] at h56
                    exact Tm.ret (by first | rfl | (exfalso; omega) | (exfalso; simp at *))
                  · try simp only [decide_eq_true_eq, decide_eq_false_iff_not, Int.not_lt, Int.not_le, bne_iff_ne, ne_eq, bne_eq_false_iff_eq, beq_iff_eq, beq_eq_false_iff_ne, Bool.not_eq_true', Bool.not_eq_false'] at h56
                    exact Tm.ret (by first | rfl | (exfalso; omega) | (exfalso; simp at *))
open Go.ChangeShapes Go.WideShapes Go.ChangeAt Go.RowKit
open Go.ChangeMaps (open_string shut_string)
theorem own : ownKnob Try.prog.godebug = none := by kernel_rfl
theorem laidOut : laidOutB Try.prog = true := by kernel_rfl
theorem types : lawTys Try.prog [] = true := by kernel_rfl
set_option maxRecDepth 100000 in
theorem lifted (os : Os) (started : os.Started) (H : Type) (enc : TypeId × Value → H) :
    ReturnsInHanded {} Try.checked os 7 .any (Rows.fnExactIsleNewSpec.pre6 enc Try.prog Try.f7 Rows.fnExactIsleNewRow.domain false) (Rows.fnExactIsleNewSpec.post enc Try.prog Try.f7 false true false false) := by
  refine returnsInHanded_of_change_sized (C := Try.checked) own started (by kernel_rfl) Try.func7
    (ChangeSpec.witness6 (enc := enc) (C := Try.checked) false ⟨#[], #[.string ByteArray.empty, .int .i64 0], []⟩ 8 (by kernel_rfl) (by kernel_rfl) (by kernel_rfl) (by kernel_rfl)) ?_
  intro W base args ds gs before hval0 hW hcnd hsz0 _
  have hval : ∀ (j : Nat) t v, Try.f7.params[j]? = some t → args[j]? = some v → Value.okWide Try.prog W .any base t v := hval0
  have hW' := hW
  obtain ⟨p, q, hA0, hV, rfl, hfz, hnd⟩ := hW
  have hA : DataW.TrodAll enc Try.prog W 0 (fun _ => true) true Try.f7.params.toList args.toList ds p := hA0
  have hpar : Try.f7.params = #[9, 3] := by kernel_rfl
  rw [hpar] at hA hval
  obtain ⟨v0, vs0, d0, ds0, p0, q0, hargs, rfl, rfl, h0, r0⟩ := trodAll_cons hA
  obtain ⟨v1, vs1, d1, ds1, p1, q1, rfl, rfl, rfl, h1, r1⟩ := trodAll_cons r0
  obtain ⟨rfl, rfl, rfl⟩ := trodAll_nil r1
  obtain rfl : args = #[v0, v1] := by cases args; simp_all
  obtain ⟨rfl, rfl⟩ := trodVars_none hV
  have k0 := h0
  have lt0 : ∀ x ∈ p0, x.block < W.heap.size := by obtain ⟨m, hm⟩ := k0; exact DataW.trod_lt m _ _ _ hm
  obtain ⟨sv0, rfl, _⟩ := open_string (by kernel_rfl) (hval 0 9 v0 rfl rfl) h0
  obtain ⟨ea0, hd0, wa0⟩ := open_cell types (by kernel_rfl) rfl (by kernel_rfl) h0
  obtain ⟨a0, rfl, ka0⟩ := good_str (by kernel_rfl) wa0
  have k1 := h1
  have lt1 : ∀ x ∈ p1, x.block < W.heap.size := by obtain ⟨m, hm⟩ := k1; exact DataW.trod_lt m _ _ _ hm
  obtain ⟨sv1, rfl, _⟩ := open_int (k := .i64) (by kernel_rfl) (hval 1 3 v1 rfl rfl) h1
  obtain ⟨ea1, hd1, wa1⟩ := open_cell types (by kernel_rfl) rfl (by kernel_rfl) h1
  obtain ⟨a1, rfl, ka1⟩ := good_int (k := .i64) (by kernel_rfl) wa1
  clear hA0 hval0 hsz0
  obtain ⟨kb, hkb⟩ : ∃ k, lv 1 ≤ k := ⟨_, Nat.le_refl _⟩
  obtain ⟨z, rfl, hz⟩ := laws_FnExactIsleNew.T ka0 ka1
  refine (law_calls (laws_FnExactIsleNew.ok kb) rfl rfl (by kernel_rfl) (aa := laws_FnExactIsleNew.as a0 a1) (vs := [.string sv0, .int _ sv1]) ?_ ⟨(), ?_⟩).mono fun e W' ⟨he, bel⟩ => ?_
  · exact (ArgsRel.cons' ⟨rfl, hd0⟩ (ArgsRel.cons' ⟨rfl, hd1⟩ ArgsRel.nil'))
  · show laws_FnExactIsleNew.f kb a0 a1 (laws_FnExactIsleNew.kt a0 a1 _) = some ()
    rw [laws_FnExactIsleNew.f_of (hz kb hkb)]
    rfl
  · subst he
    exact ⟨_, rfl, _, _, _, [], _, [], hW', trodAll_mk1 (shut_bool (by kernel_rfl) _), (trodAll_cons_mk (Below.trod laidOut (by kernel_rfl) (of_decide_eq_true (by kernel_rfl)) k0 bel lt0) (trodAll_cons_mk (Below.trod laidOut (by kernel_rfl) (of_decide_eq_true (by kernel_rfl)) k1 bel lt1) trodAll_mk0)), rfl, bel.frame _, fun h => by cases h⟩
theorem over : Rows.fnExactIsleNewRow.holds Try.pinned (OpenSpec.ofChange Rows.fnExactIsleNewSpec) :=
  OpenClaim.holds_of_wide 7 Try.f7 rfl rfl rfl rfl rfl rfl rfl ⟨rfl, rfl, rfl, rfl, rfl⟩ rfl rfl rfl rfl rfl (by kernel_rfl) Try.func7 (by kernel_rfl)
    (of_decide_eq_true (by kernel_rfl)) (by unfold Func.isWrapper; first | (rw [if_pos (by decide +kernel)]; kernel_rfl) | (rw [if_neg (by decide +kernel)]; exact ⟨rfl, rfl⟩))
    (fun os started H enc _ => lifted os started H enc)
theorem fnExactIsleNew_holds : Rows.FnExactIsleNewSaid := over
end Go.Proofs.Ytnlhhhkeigjnoaa
