/- FnExactMirrorOk: the program's function answers as the reference's, for every input. No condition. -/
import Derived.Test.YtljkbknnnpjmgaaRows
import Derived.Test.YtljkbknnnpjmgaaYEMirrorOk0
import Derived.KernelRfl
import Derived.WalkKit
import Derived.ProofKit
import Derived.OpenShut
import Derived.ShutString
import Derived.ChangeOld
import Derived.Below
import Derived.SizedLaws
set_option linter.unusedVariables false
set_option linter.unusedSimpArgs false
namespace Go.Proofs.Ytljkbknnnpjmgaa
open Go Go.T Go.Proofs
theorem laws_FnExactMirrorOk.f_of {β : Type} {k : Nat} {a0_0 : Int} {a0_1 : List (List D)} {z0 : Bool} (h : laws_FnExactMirrorOk.t k a0_0 a0_1 = some z0) (K : Bool → Option β) : laws_FnExactMirrorOk.f k a0_0 a0_1 K = K z0 := by
  unfold laws_FnExactMirrorOk.f
  rw [h]
theorem laws_FnExactMirrorOk.tm {ι α : Type} {ok : ι → Prop} {ψ : α → Prop} {p : ι → Nat} {B : Nat} (hp : ∀ i, ok i → B ≤ p i) {a0_0 : Int} {a0_1 : List (List D)} {φ : Bool → Prop} (h : Tm (fun k => B ≤ k) (fun k => laws_FnExactMirrorOk.t k a0_0 a0_1) φ) {G : ι → Bool → Option α} (hG : ∀ z0, φ z0 → Tm ok (fun ι0 => G ι0 z0) ψ) : Tm ok (fun ι0 => laws_FnExactMirrorOk.f (p ι0) a0_0 a0_1 (G ι0)) ψ := by
  obtain ⟨z0, h1, h2⟩ := h
  exact (hG z0 h1).congr fun i0 hi0 => laws_FnExactMirrorOk.f_of (h2 (p i0) (hp i0 hi0)) _
theorem laws_FnExactMirrorOk.T {a0_0 : Int} {a0_1 : List (List D)} (ga0_0 : (Lit.int .i64 a0_0).wf = true) (ga0_1 : Zm Ya maxLen a0_1) : Tm (Zay 1) (fun k => laws_FnExactMirrorOk.t k a0_0 a0_1) (fun r => r = true) := by
  unfold laws_FnExactMirrorOk.t laws_FnExactMirrorOk.g
  have hm := Za
  have hlim : lim = 1048576 := rfl
  refine laws_szMirror.tm (fun i hi => hi) (laws_szMirror.T (by first | assumption | omega) (by first | assumption | omega) (by first | assumption | omega)) (fun y2 hy1 => ?_)
  rcases hy1 with hy1 | ⟨p5, p6, q3, q4, _⟩
  · exact Tm.ite (fun _ => Tm.ret (by rfl)) (fun h => by simp at h; omega)
  refine Tm.ite (fun h7 => ?_) (fun h7 => ?_)
  · try simp only [bz0, bz1, bz2, bz3, bz4, bz5, bz6, bz7, bz8, bz9, bza] at h7
    exact Tm.ret (by first | rfl | (exfalso; omega) | (exfalso; simp [Zi] at *))
  · try simp only [bz0, bz1, bz2, bz3, bz4, bz5, bz6, bz7, bz8, bz9, bza] at h7
    refine laws_toMirror.tm (fun i hi => hi) (laws_toMirror.T (by first | assumption | omega)) (fun y9 y10 hy8 => ?_)
    try simp only [] at hy8
    obtain ⟨rfl, rfl, _⟩ := hy8
    try simp only [ZF]
    refine spec_MirrorOk.tm (fun i hi => hi) (Tm.self (spec_MirrorOk.T (by first | assumption | omega))) (fun y12 hy11 => ?_)
    refine laws_toMirror.tm (fun i hi => hi) (laws_toMirror.T (by first | assumption | omega)) (fun y14 y15 hy13 => ?_)
    try simp only [] at hy13
    obtain ⟨rfl, rfl, _⟩ := hy13
    try simp only [ZF]
    refine impl_MirrorOk.tm (fun i hi => hi) (Tm.at (ok := (Zay 1)) (v := y12) (fun k hk => (impl_MirrorOk.same (by first | assumption | omega) hk).trans ((hy11.2) k hk))) (fun y17 hy16 => ?_)
    subst hy16
    refine Tm.ite (fun h18 => ?_) (fun h18 => ?_)
    · try simp only [bz0, bz1, bz2, bz3, bz4, bz5, bz6, bz7, bz8, bz9, bza] at h18
      exact Tm.ret (by first | rfl | (exfalso; omega) | (exfalso; simp [Zi] at *))
    · try simp only [bz0, bz1, bz2, bz3, bz4, bz5, bz6, bz7, bz8, bz9, bza] at h18
      refine laws_toMirror.tm (fun i hi => hi) (laws_toMirror.T (by first | assumption | omega)) (fun y20 y21 hy19 => ?_)
      try simp only [] at hy19
      obtain ⟨rfl, rfl, _⟩ := hy19
      try simp only [ZF]
      refine laws_eqMirror.tm (fun i hi => hi) (laws_eqMirror.T (by first | assumption | omega) (by first | assumption | omega)) (fun y23 hy22 => ?_)
      subst hy22
      refine Tm.ite (fun h24 => ?_) (fun h24 => ?_)
      · try simp only [bz0, bz1, bz2, bz3, bz4, bz5, bz6, bz7, bz8, bz9, bza] at h24
        exact Tm.ret (by first | rfl | (exfalso; omega) | (exfalso; simp [Zi] at *))
      · try simp only [bz0, bz1, bz2, bz3, bz4, bz5, bz6, bz7, bz8, bz9, bza] at h24
        exact Tm.ret (by first | rfl | (exfalso; omega) | (exfalso; simp [Zi] at *))
open Go.ChangeShapes Go.WideShapes Go.ChangeAt Go.RowKit
open Go.ChangeMaps (open_string shut_string)
theorem own : ownKnob Try.prog.godebug = none := by kernel_rfl
theorem laidOut : laidOutB Try.prog = true := by kernel_rfl
theorem goodS_9 {r : List D} (h : RowS Try.prog maxLen 9 r) : RS maxLen r := by
  have hh := h.open (show Zy Try.prog 6 9 = [9] from by kernel_rfl)
  obtain ⟨d0, l0, rfl, g0, hh0⟩ := Zr hh
  obtain ⟨c0, rfl, k0⟩ := Zbb (by kernel_rfl) g0
  obtain rfl := Za0 hh0
  exact ⟨c0, rfl, k0, trivial⟩
theorem goodISILSELXE_142_n (n : Nat) : ∀ r : List D, SizeOf.sizeOf r = n → RowS Try.prog maxLen 142 r → ∃ h, Yc maxLen h r := by
  induction n using Nat.strongRecOn with
  | ind n ih =>
  intro r hn h
  have hh := h.open (show Zy Try.prog 6 142 = [3, 9, 3, 25, 140] from by kernel_rfl)
  obtain ⟨d0, l0, rfl, g0, hh0⟩ := Zr hh
  obtain ⟨c0, rfl, k0⟩ := Zam (k := .i64) (by kernel_rfl) g0
  obtain ⟨d1, l1, rfl, g1, hh1⟩ := Zr hh0
  obtain ⟨c1, rfl, k1⟩ := Zbb (by kernel_rfl) g1
  obtain ⟨d2, l2, rfl, g2, hh2⟩ := Zr hh1
  obtain ⟨c2, rfl, k2⟩ := Zam (k := .i64) (by kernel_rfl) g2
  obtain ⟨d3, l3, rfl, g3, hh3⟩ := Zr hh2
  obtain ⟨c3, rfl, k3, m3⟩ := ZaH (e := 9) (by kernel_rfl) g3
  obtain ⟨d4, l4, rfl, g4, hh4⟩ := Zr hh3
  obtain ⟨c4, rfl, k4, m4⟩ := ZaH (e := 142) (by kernel_rfl) g4
  obtain rfl := Za0 hh4
  have hs : ∀ r' ∈ c4, SizeOf.sizeOf r' < n := fun r' hr => by have := List.sizeOf_lt_of_mem hr; simp at hn; omega
  obtain ⟨hq, q4⟩ := common (Q := Yc maxLen) (fun _ _ _ => Yc.mono) c4 fun r' hr => ih _ (hs r' hr) r' rfl (m4 r' hr)
  exact ⟨hq + 1, .mk c0 c1 c2 c3 c4 k0 k1 k2 ⟨k3, fun r hr => goodS_9 (m3 r hr)⟩ k4 q4⟩
theorem Yi {r : List D} (h : RowS Try.prog maxLen 142 r) : Yb maxLen r := by
  obtain ⟨h1, h2⟩ := goodISILSELXE_142_n _ r rfl h
  exact ⟨h1, fun hb => absurd (show (9223372036854775807 : Nat) ≤ 1099511627776 from hb) (by decide), h2⟩
theorem Ye {r : List D} (h : RowS Try.prog maxLen 255 r) : Ya maxLen r := by
  have hh := h.open (show Zy Try.prog 6 255 = [3, 9, 3, 3, 3, 4, 25, 3, 9, 3, 25, 140, 3, 9, 3, 25, 140] from by kernel_rfl)
  obtain ⟨d0, l0, rfl, g0, hh0⟩ := Zr hh
  obtain ⟨c0, rfl, k0⟩ := Zam (k := .i64) (by kernel_rfl) g0
  obtain ⟨d1, l1, rfl, g1, hh1⟩ := Zr hh0
  obtain ⟨c1, rfl, k1⟩ := Zbb (by kernel_rfl) g1
  obtain ⟨d2, l2, rfl, g2, hh2⟩ := Zr hh1
  obtain ⟨c2, rfl, k2⟩ := Zam (k := .i64) (by kernel_rfl) g2
  obtain ⟨d3, l3, rfl, g3, hh3⟩ := Zr hh2
  obtain ⟨c3, rfl, k3⟩ := Zam (k := .i64) (by kernel_rfl) g3
  obtain ⟨d4, l4, rfl, g4, hh4⟩ := Zr hh3
  obtain ⟨c4, rfl, k4⟩ := Zam (k := .i64) (by kernel_rfl) g4
  obtain ⟨d5, l5, rfl, g5, hh5⟩ := Zr hh4
  obtain ⟨c5, rfl⟩ := good_bool (by kernel_rfl) g5
  obtain ⟨d6, l6, rfl, g6, hh6⟩ := Zr hh5
  obtain ⟨c6, rfl, k6, m6⟩ := ZaH (e := 9) (by kernel_rfl) g6
  obtain ⟨d7, l7, rfl, g7, hh7⟩ := Zr hh6
  obtain ⟨c7, rfl, k7⟩ := Zam (k := .i64) (by kernel_rfl) g7
  obtain ⟨d8, l8, rfl, g8, hh8⟩ := Zr hh7
  obtain ⟨c8, rfl, k8⟩ := Zbb (by kernel_rfl) g8
  obtain ⟨d9, l9, rfl, g9, hh9⟩ := Zr hh8
  obtain ⟨c9, rfl, k9⟩ := Zam (k := .i64) (by kernel_rfl) g9
  obtain ⟨d10, l10, rfl, g10, hh10⟩ := Zr hh9
  obtain ⟨c10, rfl, k10, m10⟩ := ZaH (e := 9) (by kernel_rfl) g10
  obtain ⟨d11, l11, rfl, g11, hh11⟩ := Zr hh10
  obtain ⟨c11, rfl, k11, m11⟩ := ZaH (e := 142) (by kernel_rfl) g11
  obtain ⟨d12, l12, rfl, g12, hh12⟩ := Zr hh11
  obtain ⟨c12, rfl, k12⟩ := Zam (k := .i64) (by kernel_rfl) g12
  obtain ⟨d13, l13, rfl, g13, hh13⟩ := Zr hh12
  obtain ⟨c13, rfl, k13⟩ := Zbb (by kernel_rfl) g13
  obtain ⟨d14, l14, rfl, g14, hh14⟩ := Zr hh13
  obtain ⟨c14, rfl, k14⟩ := Zam (k := .i64) (by kernel_rfl) g14
  obtain ⟨d15, l15, rfl, g15, hh15⟩ := Zr hh14
  obtain ⟨c15, rfl, k15, m15⟩ := ZaH (e := 9) (by kernel_rfl) g15
  obtain ⟨d16, l16, rfl, g16, hh16⟩ := Zr hh15
  obtain ⟨c16, rfl, k16, m16⟩ := ZaH (e := 142) (by kernel_rfl) g16
  obtain rfl := Za0 hh16
  exact ⟨c0, c1, c2, c3, c4, c5, c6, c7, c8, c9, c10, c11, c12, c13, c14, c15, c16, rfl, k0, k1, k2, k3, k4, ⟨k6, fun r hr => goodS_9 (m6 r hr)⟩, k7, k8, k9, ⟨k10, fun r hr => goodS_9 (m10 r hr)⟩, ⟨k11, fun r hr => Yi (m11 r hr)⟩, k12, k13, k14, ⟨k15, fun r hr => goodS_9 (m15 r hr)⟩, ⟨k16, fun r hr => Yi (m16 r hr)⟩, trivial⟩
theorem types : lawTys Try.prog [255, 9, 142] = true := by kernel_rfl
set_option maxRecDepth 100000 in
theorem lifted (os : Os) (started : os.Started) (H : Type) (enc : TypeId × Value → H) :
    ReturnsInHanded {} Try.checked os 9 .any (Rows.fnExactMirrorOkSpec.pre6 enc Try.prog Try.f9 Rows.fnExactMirrorOkRow.domain false) (Rows.fnExactMirrorOkSpec.post enc Try.prog Try.f9 false true false false) := by
  refine returnsInHanded_of_change_sized (C := Try.checked) own started (by kernel_rfl) Try.func9
    (ChangeSpec.witness6 (enc := enc) (C := Try.checked) false ⟨#[], #[.agg #[.int .i64 0, .slice none 0 0]], []⟩ 8 (by kernel_rfl) (by kernel_rfl) (by kernel_rfl) (by kernel_rfl)) ?_
  intro W base args ds gs before hval0 hW hcnd hsz0 _
  have hval : ∀ (j : Nat) t v, Try.f9.params[j]? = some t → args[j]? = some v → Value.okWide Try.prog W .any base t v := hval0
  have hW' := hW
  obtain ⟨p, q, hA0, hV, rfl, hfz, hnd⟩ := hW
  have hA : DataW.TrodAll enc Try.prog W 0 (fun _ => true) true Try.f9.params.toList args.toList ds p := hA0
  have hpar : Try.f9.params = #[79] := by kernel_rfl
  rw [hpar] at hA hval
  obtain ⟨v0, vs0, d0, ds0, p0, q0, hargs, rfl, rfl, h0, r0⟩ := trodAll_cons hA
  obtain ⟨rfl, rfl, rfl⟩ := trodAll_nil r0
  obtain rfl : args = #[v0] := by cases args; simp_all
  obtain ⟨rfl, rfl⟩ := trodVars_none hV
  have k0 := h0
  have lt0 : ∀ x ∈ p0, x.block < W.heap.size := by obtain ⟨m, hm⟩ := k0; exact DataW.trod_lt m _ _ _ hm
  obtain ⟨cs0, xs0, rfl, hl0, hc0, hg0⟩ := open_agg types (by kernel_rfl) (by kernel_rfl) (hval 0 79 v0 rfl rfl) h0
  have hj0 := hg0.open (show Zy Try.prog 6 79 = [3, 77] from by kernel_rfl)
  obtain ⟨ea0_0, la0_0, rfl, wa0_0, hj0_0⟩ := Zr hj0
  obtain ⟨a0_0, rfl, ka0_0⟩ := Zam (k := .i64) (by kernel_rfl) wa0_0
  obtain ⟨ea0_1, la0_1, rfl, wa0_1, hj0_1⟩ := Zr hj0_0
  obtain ⟨a0_1, rfl, ka0_1, ma0_1⟩ := ZaH (e := 255) (by kernel_rfl) wa0_1
  obtain rfl := Za0 hj0_1
  clear hA0 hval0 hsz0
  obtain ⟨kb, hkb⟩ : ∃ k, lv 1 ≤ k := ⟨_, Nat.le_refl _⟩
  obtain ⟨z, rfl, hz⟩ := laws_FnExactMirrorOk.T ka0_0 ⟨ka0_1, fun r hr => Ye (ma0_1 r hr)⟩
  refine (law_calls (laws_FnExactMirrorOk.ok kb) rfl rfl (by kernel_rfl) (aa := laws_FnExactMirrorOk.as a0_0 a0_1) (vs := [.agg cs0.toArray]) ?_ ⟨(), ?_⟩).mono fun e W' ⟨he, bel⟩ => ?_
  · exact (Zab.cons' ⟨rfl, cs0, rfl, hl0, hc0⟩ Zab.nil')
  · show laws_FnExactMirrorOk.f kb a0_0 a0_1 (laws_FnExactMirrorOk.kt a0_0 a0_1 _) = some ()
    rw [laws_FnExactMirrorOk.f_of (hz kb hkb)]
    rfl
  · subst he
    exact ⟨_, rfl, _, _, _, [], _, [], hW', trodAll_mk1 (shut_bool (by kernel_rfl) _), (trodAll_cons_mk (Below.trod laidOut (by kernel_rfl) (of_decide_eq_true (by kernel_rfl)) k0 bel lt0) trodAll_mk0), rfl, bel.frame _, fun h => by cases h⟩
theorem facts1 : joined1 Try.prog 9 Try.f9 Rows.fnExactMirrorOkSpec Rows.fnExactMirrorOkRow = true := by kernel_rfl
theorem facts2 : joined2 Try.prog 9 Try.f9 Rows.fnExactMirrorOkSpec Rows.fnExactMirrorOkRow = true := by kernel_rfl
theorem facts3 : joined3 Try.prog 9 Try.f9 Rows.fnExactMirrorOkSpec Rows.fnExactMirrorOkRow = true := by kernel_rfl
theorem facts4 : joined4 Try.prog 9 Try.f9 Rows.fnExactMirrorOkSpec Rows.fnExactMirrorOkRow = true := by kernel_rfl
theorem facts5 : joined5 Try.prog 9 Try.f9 Rows.fnExactMirrorOkSpec Rows.fnExactMirrorOkRow = true := by kernel_rfl
theorem facts6 : joined6 Try.prog 9 Try.f9 Rows.fnExactMirrorOkSpec Rows.fnExactMirrorOkRow = true := by kernel_rfl
theorem facts7 : joined7 Try.prog 9 Try.f9 Rows.fnExactMirrorOkSpec Rows.fnExactMirrorOkRow = true := by kernel_rfl
theorem facts8 : joined8 Try.prog 9 Try.f9 Rows.fnExactMirrorOkSpec Rows.fnExactMirrorOkRow = true := by kernel_rfl
theorem over : Rows.fnExactMirrorOkRow.holds Try.pinned (OpenSpec.ofChange Rows.fnExactMirrorOkSpec) :=
  OpenClaim.holds_of_wide 9 Try.f9 rfl rfl rfl rfl rfl rfl rfl ⟨rfl, rfl, rfl, rfl, rfl⟩ rfl rfl rfl rfl rfl (by kernel_rfl) Try.func9 (joined_of facts1 facts2 facts3 facts4 facts5 facts6 facts7 facts8)
    (of_decide_eq_true (by kernel_rfl)) (by unfold Func.isWrapper; first | (rw [if_pos (by decide +kernel)]; kernel_rfl) | (rw [if_neg (by decide +kernel)]; exact ⟨rfl, rfl⟩))
    (fun os started H enc _ => lifted os started H enc)
theorem fnExactMirrorOk_holds : Rows.FnExactMirrorOkSaid := over
end Go.Proofs.Ytljkbknnnpjmgaa
