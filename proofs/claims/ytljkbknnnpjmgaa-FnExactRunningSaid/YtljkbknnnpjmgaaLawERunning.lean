/- FnExactRunning: the program's function answers as the reference's, for every input. No condition. -/
import Derived.Test.YtljkbknnnpjmgaaRows
import Derived.Test.YtljkbknnnpjmgaaYERunning0
import Derived.KernelRfl
import Derived.WalkKit
import Derived.ProofKit
import Derived.OpenShut
import Derived.ShutString
import Derived.ChangeOld
import Derived.Below
import Derived.SizedLaws
set_option linter.unusedVariables false
set_option linter.unusedSimpArgs false
namespace Go.Proofs.Ytljkbknnnpjmgaa
open Go Go.T Go.Proofs
theorem laws_FnExactRunning.f_of {β : Type} {k : Nat} {a0_0 : Int} {a0_1 : Int} {a0_2 : Int} {a0_3 : List (List D)} {a0_4 : List (List D)} {a0_5 : List (List D)} {a0_6 : List (List D)} {a1 : Int} {z0 : Bool} (h : laws_FnExactRunning.t k a0_0 a0_1 a0_2 a0_3 a0_4 a0_5 a0_6 a1 = some z0) (K : Bool → Option β) : laws_FnExactRunning.f k a0_0 a0_1 a0_2 a0_3 a0_4 a0_5 a0_6 a1 K = K z0 := by
  unfold laws_FnExactRunning.f
  rw [h]
theorem laws_FnExactRunning.tm {ι α : Type} {ok : ι → Prop} {ψ : α → Prop} {p : ι → Nat} {B : Nat} (hp : ∀ i, ok i → B ≤ p i) {a0_0 : Int} {a0_1 : Int} {a0_2 : Int} {a0_3 : List (List D)} {a0_4 : List (List D)} {a0_5 : List (List D)} {a0_6 : List (List D)} {a1 : Int} {φ : Bool → Prop} (h : Tm (fun k => B ≤ k) (fun k => laws_FnExactRunning.t k a0_0 a0_1 a0_2 a0_3 a0_4 a0_5 a0_6 a1) φ) {G : ι → Bool → Option α} (hG : ∀ z0, φ z0 → Tm ok (fun ι0 => G ι0 z0) ψ) : Tm ok (fun ι0 => laws_FnExactRunning.f (p ι0) a0_0 a0_1 a0_2 a0_3 a0_4 a0_5 a0_6 a1 (G ι0)) ψ := by
  obtain ⟨z0, h1, h2⟩ := h
  exact (hG z0 h1).congr fun i0 hi0 => laws_FnExactRunning.f_of (h2 (p i0) (hp i0 hi0)) _
theorem laws_FnExactRunning.T {a0_0 : Int} {a0_1 : Int} {a0_2 : Int} {a0_3 : List (List D)} {a0_4 : List (List D)} {a0_5 : List (List D)} {a0_6 : List (List D)} {a1 : Int} (ga0_0 : (Lit.int .i64 a0_0).wf = true) (ga0_1 : (Lit.int .i64 a0_1).wf = true) (ga0_2 : (Lit.int .i64 a0_2).wf = true) (ga0_3 : Zm Ya maxLen a0_3) (ga0_4 : Zm Ye maxLen a0_4) (ga0_5 : Zm Yg maxLen a0_5) (ga0_6 : Zm RS maxLen a0_6) (ga1 : (Lit.int .i64 a1).wf = true) : Tm (Zay 1) (fun k => laws_FnExactRunning.t k a0_0 a0_1 a0_2 a0_3 a0_4 a0_5 a0_6 a1) (fun r => r = true) := by
  unfold laws_FnExactRunning.t laws_FnExactRunning.g
  have hm := Za
  have hlim : lim = 1048576 := rfl
  refine laws_szHub.tm (fun i hi => hi) (laws_szHub.T (by first | assumption | omega) (by first | assumption | omega) (by first | assumption | omega) (by first | assumption | omega) (by first | assumption | omega) (by first | assumption | omega)) (fun y2 hy1 => ?_)
  rcases hy1 with hy1 | ⟨p8, p9, q3, q4, q5, q6, q7, _⟩
  · exact Tm.ite (fun _ => Tm.ret (by rfl)) (fun h => by simp at h; omega)
  refine Tm.ite (fun h10 => ?_) (fun h10 => ?_)
  · try simp only [bz0, bz1, bz2, bz3, bz4, bz5, bz6, bz7, bz8, bz9, bza] at h10
    exact Tm.ret (by first | rfl | (exfalso; omega) | (exfalso; simp [Zi] at *))
  · try simp only [bz0, bz1, bz2, bz3, bz4, bz5, bz6, bz7, bz8, bz9, bza] at h10
    refine laws_toHub.tm (fun i hi => hi) (laws_toHub.T (by first | assumption | omega) (by first | assumption | omega) (by first | assumption | omega) (by first | assumption | omega)) (fun y12 y13 y14 y15 y16 y17 y18 hy11 => ?_)
    try simp only [] at hy11
    obtain ⟨rfl, rfl, rfl, rfl, rfl, rfl, rfl, _⟩ := hy11
    try simp only [ZF]
    refine spec_Running.tm (fun i hi => up0 hi) (Tm.self (spec_Running.T (by first | assumption | omega) (by first | assumption | omega) (by first | assumption | omega) (by first | assumption | omega))) (fun y20 hy19 => ?_)
    refine laws_toHub.tm (fun i hi => hi) (laws_toHub.T (by first | assumption | omega) (by first | assumption | omega) (by first | assumption | omega) (by first | assumption | omega)) (fun y22 y23 y24 y25 y26 y27 y28 hy21 => ?_)
    try simp only [] at hy21
    obtain ⟨rfl, rfl, rfl, rfl, rfl, rfl, rfl, _⟩ := hy21
    try simp only [ZF]
    refine impl_Running.tm (fun i hi => hi) (Tm.at (ok := (Zay 1)) (v := y20) (fun k hk => (impl_Running.same (by first | assumption | omega) (by first | assumption | omega) (by first | assumption | omega) (by first | assumption | omega) (up0 hk)).trans ((hy19.2) k (up0 hk)))) (fun y30 hy29 => ?_)
    subst hy29
    refine Tm.ite (fun h31 => ?_) (fun h31 => ?_)
    · try simp only [bz0, bz1, bz2, bz3, bz4, bz5, bz6, bz7, bz8, bz9, bza] at h31
      exact Tm.ret (by first | rfl | (exfalso; omega) | (exfalso; simp [Zi] at *))
    · try simp only [bz0, bz1, bz2, bz3, bz4, bz5, bz6, bz7, bz8, bz9, bza] at h31
      refine laws_toHub.tm (fun i hi => hi) (laws_toHub.T (by first | assumption | omega) (by first | assumption | omega) (by first | assumption | omega) (by first | assumption | omega)) (fun y33 y34 y35 y36 y37 y38 y39 hy32 => ?_)
      try simp only [] at hy32
      obtain ⟨rfl, rfl, rfl, rfl, rfl, rfl, rfl, _⟩ := hy32
      try simp only [ZF]
      refine laws_eqHub.tm (fun i hi => hi) (laws_eqHub.T (by first | assumption | omega) (by first | assumption | omega) (by first | assumption | omega) (by first | assumption | omega) (by first | assumption | omega)) (fun y41 hy40 => ?_)
      subst hy40
      refine Tm.ite (fun h42 => ?_) (fun h42 => ?_)
      · try simp only [bz0, bz1, bz2, bz3, bz4, bz5, bz6, bz7, bz8, bz9, bza] at h42
        exact Tm.ret (by first | rfl | (exfalso; omega) | (exfalso; simp [Zi] at *))
      · try simp only [bz0, bz1, bz2, bz3, bz4, bz5, bz6, bz7, bz8, bz9, bza] at h42
        exact Tm.ret (by first | rfl | (exfalso; omega) | (exfalso; simp [Zi] at *))
open Go.ChangeShapes Go.WideShapes Go.ChangeAt Go.RowKit
open Go.ChangeMaps (open_string shut_string)
theorem own : ownKnob Try.prog.godebug = none := by kernel_rfl
theorem laidOut : laidOutB Try.prog = true := by kernel_rfl
theorem Yl {r : List D} (h : RowS Try.prog maxLen 9 r) : RS maxLen r := by
  have hh := h.open (show Zy Try.prog 6 9 = [9] from by kernel_rfl)
  obtain ⟨d0, l0, rfl, g0, hh0⟩ := Zr hh
  obtain ⟨c0, rfl, k0⟩ := Zbb (by kernel_rfl) g0
  obtain rfl := Za0 hh0
  exact ⟨c0, rfl, k0, trivial⟩
theorem goodISLSE_314 {r : List D} (h : RowS Try.prog maxLen 314 r) : Yh maxLen r := by
  have hh := h.open (show Zy Try.prog 6 314 = [3, 9, 25] from by kernel_rfl)
  obtain ⟨d0, l0, rfl, g0, hh0⟩ := Zr hh
  obtain ⟨c0, rfl, k0⟩ := Zam (k := .i64) (by kernel_rfl) g0
  obtain ⟨d1, l1, rfl, g1, hh1⟩ := Zr hh0
  obtain ⟨c1, rfl, k1⟩ := Zbb (by kernel_rfl) g1
  obtain ⟨d2, l2, rfl, g2, hh2⟩ := Zr hh1
  obtain ⟨c2, rfl, k2, m2⟩ := ZaH (e := 9) (by kernel_rfl) g2
  obtain rfl := Za0 hh2
  exact ⟨c0, c1, c2, rfl, k0, k1, ⟨k2, fun r hr => Yl (m2 r hr)⟩, trivial⟩
theorem goodSI_317 {r : List D} (h : RowS Try.prog maxLen 317 r) : RSI maxLen r := by
  have hh := h.open (show Zy Try.prog 6 317 = [9, 3] from by kernel_rfl)
  obtain ⟨d0, l0, rfl, g0, hh0⟩ := Zr hh
  obtain ⟨c0, rfl, k0⟩ := Zbb (by kernel_rfl) g0
  obtain ⟨d1, l1, rfl, g1, hh1⟩ := Zr hh0
  obtain ⟨c1, rfl, k1⟩ := Zam (k := .i64) (by kernel_rfl) g1
  obtain rfl := Za0 hh1
  exact ⟨c0, c1, rfl, k0, k1, trivial⟩
theorem goodISILSELXE_142_n (n : Nat) : ∀ r : List D, SizeOf.sizeOf r = n → RowS Try.prog maxLen 142 r → ∃ h, Yf maxLen h r := by
  induction n using Nat.strongRecOn with
  | ind n ih =>
  intro r hn h
  have hh := h.open (show Zy Try.prog 6 142 = [3, 9, 3, 25, 140] from by kernel_rfl)
  obtain ⟨d0, l0, rfl, g0, hh0⟩ := Zr hh
  obtain ⟨c0, rfl, k0⟩ := Zam (k := .i64) (by kernel_rfl) g0
  obtain ⟨d1, l1, rfl, g1, hh1⟩ := Zr hh0
  obtain ⟨c1, rfl, k1⟩ := Zbb (by kernel_rfl) g1
  obtain ⟨d2, l2, rfl, g2, hh2⟩ := Zr hh1
  obtain ⟨c2, rfl, k2⟩ := Zam (k := .i64) (by kernel_rfl) g2
  obtain ⟨d3, l3, rfl, g3, hh3⟩ := Zr hh2
  obtain ⟨c3, rfl, k3, m3⟩ := ZaH (e := 9) (by kernel_rfl) g3
  obtain ⟨d4, l4, rfl, g4, hh4⟩ := Zr hh3
  obtain ⟨c4, rfl, k4, m4⟩ := ZaH (e := 142) (by kernel_rfl) g4
  obtain rfl := Za0 hh4
  have hs : ∀ r' ∈ c4, SizeOf.sizeOf r' < n := fun r' hr => by have := List.sizeOf_lt_of_mem hr; simp at hn; omega
  obtain ⟨hq, q4⟩ := common (Q := Yf maxLen) (fun _ _ _ => Yf.mono) c4 fun r' hr => ih _ (hs r' hr) r' rfl (m4 r' hr)
  exact ⟨hq + 1, .mk c0 c1 c2 c3 c4 k0 k1 k2 ⟨k3, fun r hr => Yl (m3 r hr)⟩ k4 q4⟩
theorem Ym {r : List D} (h : RowS Try.prog maxLen 142 r) : Yd maxLen r := by
  obtain ⟨h1, h2⟩ := goodISILSELXE_142_n _ r rfl h
  exact ⟨h1, fun hb => absurd (show (9223372036854775807 : Nat) ≤ 1099511627776 from hb) (by decide), h2⟩
theorem Yk {r : List D} (h : RowS Try.prog maxLen 335 r) : Yc maxLen r := by
  have hh := h.open (show Zy Try.prog 6 335 = [3, 25, 3, 9, 3, 25, 140] from by kernel_rfl)
  obtain ⟨d0, l0, rfl, g0, hh0⟩ := Zr hh
  obtain ⟨c0, rfl, k0⟩ := Zam (k := .i64) (by kernel_rfl) g0
  obtain ⟨d1, l1, rfl, g1, hh1⟩ := Zr hh0
  obtain ⟨c1, rfl, k1, m1⟩ := ZaH (e := 9) (by kernel_rfl) g1
  obtain ⟨d2, l2, rfl, g2, hh2⟩ := Zr hh1
  obtain ⟨c2, rfl, k2⟩ := Zam (k := .i64) (by kernel_rfl) g2
  obtain ⟨d3, l3, rfl, g3, hh3⟩ := Zr hh2
  obtain ⟨c3, rfl, k3⟩ := Zbb (by kernel_rfl) g3
  obtain ⟨d4, l4, rfl, g4, hh4⟩ := Zr hh3
  obtain ⟨c4, rfl, k4⟩ := Zam (k := .i64) (by kernel_rfl) g4
  obtain ⟨d5, l5, rfl, g5, hh5⟩ := Zr hh4
  obtain ⟨c5, rfl, k5, m5⟩ := ZaH (e := 9) (by kernel_rfl) g5
  obtain ⟨d6, l6, rfl, g6, hh6⟩ := Zr hh5
  obtain ⟨c6, rfl, k6, m6⟩ := ZaH (e := 142) (by kernel_rfl) g6
  obtain rfl := Za0 hh6
  exact ⟨c0, c1, c2, c3, c4, c5, c6, rfl, k0, ⟨k1, fun r hr => Yl (m1 r hr)⟩, k2, k3, k4, ⟨k5, fun r hr => Yl (m5 r hr)⟩, ⟨k6, fun r hr => Ym (m6 r hr)⟩, trivial⟩
theorem Yj {r : List D} (h : RowS Try.prog maxLen 298 r) : Yb maxLen r := by
  have hh := h.open (show Zy Try.prog 6 298 = [9, 296] from by kernel_rfl)
  obtain ⟨d0, l0, rfl, g0, hh0⟩ := Zr hh
  obtain ⟨c0, rfl, k0⟩ := Zbb (by kernel_rfl) g0
  obtain ⟨d1, l1, rfl, g1, hh1⟩ := Zr hh0
  obtain ⟨c1, rfl, k1, m1⟩ := ZaH (e := 335) (by kernel_rfl) g1
  obtain rfl := Za0 hh1
  exact ⟨c0, c1, rfl, k0, ⟨k1, fun r hr => Yk (m1 r hr)⟩, trivial⟩
theorem Yi {r : List D} (h : RowS Try.prog maxLen 206 r) : Ya maxLen r := by
  have hh := h.open (show Zy Try.prog 6 206 = [3, 9, 3, 200, 25, 201, 3, 9, 3, 25, 140, 204, 4] from by kernel_rfl)
  obtain ⟨d0, l0, rfl, g0, hh0⟩ := Zr hh
  obtain ⟨c0, rfl, k0⟩ := Zam (k := .i64) (by kernel_rfl) g0
  obtain ⟨d1, l1, rfl, g1, hh1⟩ := Zr hh0
  obtain ⟨c1, rfl, k1⟩ := Zbb (by kernel_rfl) g1
  obtain ⟨d2, l2, rfl, g2, hh2⟩ := Zr hh1
  obtain ⟨c2, rfl, k2⟩ := Zam (k := .i64) (by kernel_rfl) g2
  obtain ⟨d3, l3, rfl, g3, hh3⟩ := Zr hh2
  obtain ⟨c3, rfl, k3, m3⟩ := ZaH (e := 314) (by kernel_rfl) g3
  obtain ⟨d4, l4, rfl, g4, hh4⟩ := Zr hh3
  obtain ⟨c4, rfl, k4, m4⟩ := ZaH (e := 9) (by kernel_rfl) g4
  obtain ⟨d5, l5, rfl, g5, hh5⟩ := Zr hh4
  obtain ⟨c5, rfl, k5, m5⟩ := ZaH (e := 317) (by kernel_rfl) g5
  obtain ⟨d6, l6, rfl, g6, hh6⟩ := Zr hh5
  obtain ⟨c6, rfl, k6⟩ := Zam (k := .i64) (by kernel_rfl) g6
  obtain ⟨d7, l7, rfl, g7, hh7⟩ := Zr hh6
  obtain ⟨c7, rfl, k7⟩ := Zbb (by kernel_rfl) g7
  obtain ⟨d8, l8, rfl, g8, hh8⟩ := Zr hh7
  obtain ⟨c8, rfl, k8⟩ := Zam (k := .i64) (by kernel_rfl) g8
  obtain ⟨d9, l9, rfl, g9, hh9⟩ := Zr hh8
  obtain ⟨c9, rfl, k9, m9⟩ := ZaH (e := 9) (by kernel_rfl) g9
  obtain ⟨d10, l10, rfl, g10, hh10⟩ := Zr hh9
  obtain ⟨c10, rfl, k10, m10⟩ := ZaH (e := 142) (by kernel_rfl) g10
  obtain ⟨d11, l11, rfl, g11, hh11⟩ := Zr hh10
  obtain ⟨c11, rfl, k11, m11⟩ := ZaH (e := 298) (by kernel_rfl) g11
  obtain ⟨d12, l12, rfl, g12, hh12⟩ := Zr hh11
  obtain ⟨c12, rfl⟩ := good_bool (by kernel_rfl) g12
  obtain rfl := Za0 hh12
  exact ⟨c0, c1, c2, c3, c4, c5, c6, c7, c8, c9, c10, c11, c12, rfl, k0, k1, k2, ⟨k3, fun r hr => goodISLSE_314 (m3 r hr)⟩, ⟨k4, fun r hr => Yl (m4 r hr)⟩, ⟨k5, fun r hr => goodSI_317 (m5 r hr)⟩, k6, k7, k8, ⟨k9, fun r hr => Yl (m9 r hr)⟩, ⟨k10, fun r hr => Ym (m10 r hr)⟩, ⟨k11, fun r hr => Yj (m11 r hr)⟩, trivial⟩
theorem goodSS_321 {r : List D} (h : RowS Try.prog maxLen 321 r) : RSS maxLen r := by
  have hh := h.open (show Zy Try.prog 6 321 = [9, 9] from by kernel_rfl)
  obtain ⟨d0, l0, rfl, g0, hh0⟩ := Zr hh
  obtain ⟨c0, rfl, k0⟩ := Zbb (by kernel_rfl) g0
  obtain ⟨d1, l1, rfl, g1, hh1⟩ := Zr hh0
  obtain ⟨c1, rfl, k1⟩ := Zbb (by kernel_rfl) g1
  obtain rfl := Za0 hh1
  exact ⟨c0, c1, rfl, k0, k1, trivial⟩
theorem goodSLSSELSEIII_212 {r : List D} (h : RowS Try.prog maxLen 212 r) : Ye maxLen r := by
  have hh := h.open (show Zy Try.prog 6 212 = [9, 208, 25, 3, 3, 3] from by kernel_rfl)
  obtain ⟨d0, l0, rfl, g0, hh0⟩ := Zr hh
  obtain ⟨c0, rfl, k0⟩ := Zbb (by kernel_rfl) g0
  obtain ⟨d1, l1, rfl, g1, hh1⟩ := Zr hh0
  obtain ⟨c1, rfl, k1, m1⟩ := ZaH (e := 321) (by kernel_rfl) g1
  obtain ⟨d2, l2, rfl, g2, hh2⟩ := Zr hh1
  obtain ⟨c2, rfl, k2, m2⟩ := ZaH (e := 9) (by kernel_rfl) g2
  obtain ⟨d3, l3, rfl, g3, hh3⟩ := Zr hh2
  obtain ⟨c3, rfl, k3⟩ := Zam (k := .i64) (by kernel_rfl) g3
  obtain ⟨d4, l4, rfl, g4, hh4⟩ := Zr hh3
  obtain ⟨c4, rfl, k4⟩ := Zam (k := .i64) (by kernel_rfl) g4
  obtain ⟨d5, l5, rfl, g5, hh5⟩ := Zr hh4
  obtain ⟨c5, rfl, k5⟩ := Zam (k := .i64) (by kernel_rfl) g5
  obtain rfl := Za0 hh5
  exact ⟨c0, c1, c2, c3, c4, c5, rfl, k0, ⟨k1, fun r hr => goodSS_321 (m1 r hr)⟩, ⟨k2, fun r hr => Yl (m2 r hr)⟩, k3, k4, k5, trivial⟩
theorem goodISIII_214 {r : List D} (h : RowS Try.prog maxLen 214 r) : Yg maxLen r := by
  have hh := h.open (show Zy Try.prog 6 214 = [3, 9, 3, 3, 3] from by kernel_rfl)
  obtain ⟨d0, l0, rfl, g0, hh0⟩ := Zr hh
  obtain ⟨c0, rfl, k0⟩ := Zam (k := .i64) (by kernel_rfl) g0
  obtain ⟨d1, l1, rfl, g1, hh1⟩ := Zr hh0
  obtain ⟨c1, rfl, k1⟩ := Zbb (by kernel_rfl) g1
  obtain ⟨d2, l2, rfl, g2, hh2⟩ := Zr hh1
  obtain ⟨c2, rfl, k2⟩ := Zam (k := .i64) (by kernel_rfl) g2
  obtain ⟨d3, l3, rfl, g3, hh3⟩ := Zr hh2
  obtain ⟨c3, rfl, k3⟩ := Zam (k := .i64) (by kernel_rfl) g3
  obtain ⟨d4, l4, rfl, g4, hh4⟩ := Zr hh3
  obtain ⟨c4, rfl, k4⟩ := Zam (k := .i64) (by kernel_rfl) g4
  obtain rfl := Za0 hh4
  exact ⟨c0, c1, c2, c3, c4, rfl, k0, k1, k2, k3, k4, trivial⟩
theorem types : lawTys Try.prog [206, 314, 9, 317, 142, 298, 335, 212, 321, 214] = true := by kernel_rfl
set_option maxRecDepth 100000 in
theorem lifted (os : Os) (started : os.Started) (H : Type) (enc : TypeId × Value → H) :
    ReturnsInHanded {} Try.checked os 3 .any (Rows.fnExactRunningSpec.pre6 enc Try.prog Try.f3 Rows.fnExactRunningRow.domain false) (Rows.fnExactRunningSpec.post enc Try.prog Try.f3 false true false false) := by
  refine returnsInHanded_of_change_sized (C := Try.checked) own started (by kernel_rfl) Try.func3
    (ChangeSpec.witness6 (enc := enc) (C := Try.checked) false ⟨#[], #[.agg #[.int .i64 0, .int .i64 0, .int .i64 0, .slice none 0 0, .slice none 0 0, .slice none 0 0, .slice none 0 0], .int .i64 0], []⟩ 8 (by kernel_rfl) (by kernel_rfl) (by kernel_rfl) (by kernel_rfl)) ?_
  intro W base args ds gs before hval0 hW hcnd hsz0 _
  have hval : ∀ (j : Nat) t v, Try.f3.params[j]? = some t → args[j]? = some v → Value.okWide Try.prog W .any base t v := hval0
  have hW' := hW
  obtain ⟨p, q, hA0, hV, rfl, hfz, hnd⟩ := hW
  have hA : DataW.TrodAll enc Try.prog W 0 (fun _ => true) true Try.f3.params.toList args.toList ds p := hA0
  have hpar : Try.f3.params = #[27, 3] := by kernel_rfl
  rw [hpar] at hA hval
  obtain ⟨v0, vs0, d0, ds0, p0, q0, hargs, rfl, rfl, h0, r0⟩ := trodAll_cons hA
  obtain ⟨v1, vs1, d1, ds1, p1, q1, rfl, rfl, rfl, h1, r1⟩ := trodAll_cons r0
  obtain ⟨rfl, rfl, rfl⟩ := trodAll_nil r1
  obtain rfl : args = #[v0, v1] := by cases args; simp_all
  obtain ⟨rfl, rfl⟩ := trodVars_none hV
  have k0 := h0
  have lt0 : ∀ x ∈ p0, x.block < W.heap.size := by obtain ⟨m, hm⟩ := k0; exact DataW.trod_lt m _ _ _ hm
  obtain ⟨cs0, xs0, rfl, hl0, hc0, hg0⟩ := open_agg types (by kernel_rfl) (by kernel_rfl) (hval 0 27 v0 rfl rfl) h0
  have hj0 := hg0.open (show Zy Try.prog 6 27 = [3, 3, 3, 22, 23, 24, 25] from by kernel_rfl)
  obtain ⟨ea0_0, la0_0, rfl, wa0_0, hj0_0⟩ := Zr hj0
  obtain ⟨a0_0, rfl, ka0_0⟩ := Zam (k := .i64) (by kernel_rfl) wa0_0
  obtain ⟨ea0_1, la0_1, rfl, wa0_1, hj0_1⟩ := Zr hj0_0
  obtain ⟨a0_1, rfl, ka0_1⟩ := Zam (k := .i64) (by kernel_rfl) wa0_1
  obtain ⟨ea0_2, la0_2, rfl, wa0_2, hj0_2⟩ := Zr hj0_1
  obtain ⟨a0_2, rfl, ka0_2⟩ := Zam (k := .i64) (by kernel_rfl) wa0_2
  obtain ⟨ea0_3, la0_3, rfl, wa0_3, hj0_3⟩ := Zr hj0_2
  obtain ⟨a0_3, rfl, ka0_3, ma0_3⟩ := ZaH (e := 206) (by kernel_rfl) wa0_3
  obtain ⟨ea0_4, la0_4, rfl, wa0_4, hj0_4⟩ := Zr hj0_3
  obtain ⟨a0_4, rfl, ka0_4, ma0_4⟩ := ZaH (e := 212) (by kernel_rfl) wa0_4
  obtain ⟨ea0_5, la0_5, rfl, wa0_5, hj0_5⟩ := Zr hj0_4
  obtain ⟨a0_5, rfl, ka0_5, ma0_5⟩ := ZaH (e := 214) (by kernel_rfl) wa0_5
  obtain ⟨ea0_6, la0_6, rfl, wa0_6, hj0_6⟩ := Zr hj0_5
  obtain ⟨a0_6, rfl, ka0_6, ma0_6⟩ := ZaH (e := 9) (by kernel_rfl) wa0_6
  obtain rfl := Za0 hj0_6
  have k1 := h1
  have lt1 : ∀ x ∈ p1, x.block < W.heap.size := by obtain ⟨m, hm⟩ := k1; exact DataW.trod_lt m _ _ _ hm
  obtain ⟨sv1, rfl, _⟩ := open_int (k := .i64) (by kernel_rfl) (hval 1 3 v1 rfl rfl) h1
  obtain ⟨ea1, hd1, wa1⟩ := open_cell types (by kernel_rfl) rfl (by kernel_rfl) h1
  obtain ⟨a1, rfl, ka1⟩ := Zam (k := .i64) (by kernel_rfl) wa1
  clear hA0 hval0 hsz0
  obtain ⟨kb, hkb⟩ : ∃ k, lv 1 ≤ k := ⟨_, Nat.le_refl _⟩
  obtain ⟨z, rfl, hz⟩ := laws_FnExactRunning.T ka0_0 ka0_1 ka0_2 ⟨ka0_3, fun r hr => Yi (ma0_3 r hr)⟩ ⟨ka0_4, fun r hr => goodSLSSELSEIII_212 (ma0_4 r hr)⟩ ⟨ka0_5, fun r hr => goodISIII_214 (ma0_5 r hr)⟩ ⟨ka0_6, fun r hr => Yl (ma0_6 r hr)⟩ ka1
  refine (law_calls (laws_FnExactRunning.ok kb) rfl rfl (by kernel_rfl) (aa := laws_FnExactRunning.as a0_0 a0_1 a0_2 a0_3 a0_4 a0_5 a0_6 a1) (vs := [.agg cs0.toArray, .int _ sv1]) ?_ ⟨(), ?_⟩).mono fun e W' ⟨he, bel⟩ => ?_
  · exact (Zab.cons' ⟨rfl, cs0, rfl, hl0, hc0⟩ (Zab.cons' ⟨rfl, hd1⟩ Zab.nil'))
  · show laws_FnExactRunning.f kb a0_0 a0_1 a0_2 a0_3 a0_4 a0_5 a0_6 a1 (laws_FnExactRunning.kt a0_0 a0_1 a0_2 a0_3 a0_4 a0_5 a0_6 a1 _) = some ()
    rw [laws_FnExactRunning.f_of (hz kb hkb)]
    rfl
  · subst he
    exact ⟨_, rfl, _, _, _, [], _, [], hW', trodAll_mk1 (shut_bool (by kernel_rfl) _), (trodAll_cons_mk (Below.trod laidOut (by kernel_rfl) (of_decide_eq_true (by kernel_rfl)) k0 bel lt0) (trodAll_cons_mk (Below.trod laidOut (by kernel_rfl) (of_decide_eq_true (by kernel_rfl)) k1 bel lt1) trodAll_mk0)), rfl, bel.frame _, fun h => by cases h⟩
theorem facts1 : joined1 Try.prog 3 Try.f3 Rows.fnExactRunningSpec Rows.fnExactRunningRow = true := by kernel_rfl
theorem facts2 : joined2 Try.prog 3 Try.f3 Rows.fnExactRunningSpec Rows.fnExactRunningRow = true := by kernel_rfl
theorem facts3 : joined3 Try.prog 3 Try.f3 Rows.fnExactRunningSpec Rows.fnExactRunningRow = true := by kernel_rfl
theorem facts4 : joined4 Try.prog 3 Try.f3 Rows.fnExactRunningSpec Rows.fnExactRunningRow = true := by kernel_rfl
theorem facts5 : joined5 Try.prog 3 Try.f3 Rows.fnExactRunningSpec Rows.fnExactRunningRow = true := by kernel_rfl
theorem facts6 : joined6 Try.prog 3 Try.f3 Rows.fnExactRunningSpec Rows.fnExactRunningRow = true := by kernel_rfl
theorem facts7 : joined7 Try.prog 3 Try.f3 Rows.fnExactRunningSpec Rows.fnExactRunningRow = true := by kernel_rfl
theorem facts8 : joined8 Try.prog 3 Try.f3 Rows.fnExactRunningSpec Rows.fnExactRunningRow = true := by kernel_rfl
theorem over : Rows.fnExactRunningRow.holds Try.pinned (OpenSpec.ofChange Rows.fnExactRunningSpec) :=
  OpenClaim.holds_of_wide 3 Try.f3 rfl rfl rfl rfl rfl rfl rfl ⟨rfl, rfl, rfl, rfl, rfl⟩ rfl rfl rfl rfl rfl (by kernel_rfl) Try.func3 (joined_of facts1 facts2 facts3 facts4 facts5 facts6 facts7 facts8)
    (of_decide_eq_true (by kernel_rfl)) (by unfold Func.isWrapper; first | (rw [if_pos (by decide +kernel)]; kernel_rfl) | (rw [if_neg (by decide +kernel)]; exact ⟨rfl, rfl⟩))
    (fun os started H enc _ => lifted os started H enc)
theorem fnExactRunning_holds : Rows.FnExactRunningSaid := over
end Go.Proofs.Ytljkbknnnpjmgaa
