/- FnExactTake: the program's function answers as the reference's, for every input. No condition. -/
import Derived.Test.YtljkbknnnpjmgaaRows
import Derived.Test.YtljkbknnnpjmgaaYETake0
import Derived.KernelRfl
import Derived.WalkKit
import Derived.ProofKit
import Derived.OpenShut
import Derived.ShutString
import Derived.ChangeOld
import Derived.Below
import Derived.SizedLaws
set_option linter.unusedVariables false
set_option linter.unusedSimpArgs false
namespace Go.Proofs.Ytljkbknnnpjmgaa
open Go Go.T Go.Proofs
theorem laws_FnExactTake.f_of {β : Type} {k : Nat} {a0_0 : List (List D)} {a0_1 : List (List D)} {a0_2 : List (List D)} {a0_3 : Int} {z0 : Bool} (h : laws_FnExactTake.t k a0_0 a0_1 a0_2 a0_3 = some z0) (K : Bool → Option β) : laws_FnExactTake.f k a0_0 a0_1 a0_2 a0_3 K = K z0 := by
  unfold laws_FnExactTake.f
  rw [h]
theorem laws_FnExactTake.tm {ι α : Type} {ok : ι → Prop} {ψ : α → Prop} {p : ι → Nat} {B : Nat} (hp : ∀ i, ok i → B ≤ p i) {a0_0 : List (List D)} {a0_1 : List (List D)} {a0_2 : List (List D)} {a0_3 : Int} {φ : Bool → Prop} (h : Tm (fun k => B ≤ k) (fun k => laws_FnExactTake.t k a0_0 a0_1 a0_2 a0_3) φ) {G : ι → Bool → Option α} (hG : ∀ z0, φ z0 → Tm ok (fun ι0 => G ι0 z0) ψ) : Tm ok (fun ι0 => laws_FnExactTake.f (p ι0) a0_0 a0_1 a0_2 a0_3 (G ι0)) ψ := by
  obtain ⟨z0, h1, h2⟩ := h
  exact (hG z0 h1).congr fun i0 hi0 => laws_FnExactTake.f_of (h2 (p i0) (hp i0 hi0)) _
theorem laws_FnExactTake.T {a0_0 : List (List D)} {a0_1 : List (List D)} {a0_2 : List (List D)} {a0_3 : Int} (ga0_0 : Zm Ya maxLen a0_0) (ga0_1 : Zm Ya maxLen a0_1) (ga0_2 : Zm RS maxLen a0_2) (ga0_3 : (Lit.int .i64 a0_3).wf = true) : Tm Zar (fun k => laws_FnExactTake.t k a0_0 a0_1 a0_2 a0_3) (fun r => r = true) := by
  unfold laws_FnExactTake.t laws_FnExactTake.g
  have hm := Za
  have hlim : lim = 1048576 := rfl
  refine laws_szQueue.tm (fun i hi => hi) (laws_szQueue.T (by first | assumption | omega) (by first | assumption | omega) (by first | assumption | omega) (by first | assumption | omega) (by first | assumption | omega)) (fun y2 hy1 => ?_)
  rcases hy1 with hy1 | ⟨p7, p8, q3, q4, q5, q6, _⟩
  · exact Tm.ite (fun _ => Tm.ret (by rfl)) (fun h => by simp at h; omega)
  refine Tm.ite (fun h9 => ?_) (fun h9 => ?_)
  · try simp only [bz0, bz1, bz2, bz3, bz4, bz5, bz6, bz7, bz8, bz9, bza] at h9
    exact Tm.ret (by first | rfl | (exfalso; omega) | (exfalso; simp [Zi] at *))
  · try simp only [bz0, bz1, bz2, bz3, bz4, bz5, bz6, bz7, bz8, bz9, bza] at h9
    refine laws_toQueue.tm (fun i hi => hi) (laws_toQueue.T (by first | assumption | omega) (by first | assumption | omega) (by first | assumption | omega)) (fun y11 y12 y13 y14 hy10 => ?_)
    try simp only [] at hy10
    obtain ⟨rfl, rfl, rfl, rfl, _⟩ := hy10
    try simp only [ZF]
    refine spec_Take.tm (fun i hi => hi) (Tm.self (spec_Take.T (by first | assumption | omega) (by first | assumption | omega) (by first | assumption | omega) (by first | assumption | omega))) (fun y16 y17 y18 y19 y20 y21 hy15 => ?_)
    have hf22 := hy15.1
    try simp only [] at hf22
    obtain ⟨q23, q24, q25, q26, q27, q28, q29, _⟩ := hf22
    refine laws_toQueue.tm (fun i hi => hi) (laws_toQueue.T (by first | assumption | omega) (by first | assumption | omega) (by first | assumption | omega)) (fun y31 y32 y33 y34 hy30 => ?_)
    try simp only [] at hy30
    obtain ⟨rfl, rfl, rfl, rfl, _⟩ := hy30
    try simp only [ZF]
    refine impl_Take.tm (fun i hi => hi) (Tm.at (ok := Zar) (v := (Zs (C.immRows y16), Zs (C.immRows y17), Zs (C.immRows y18), y19, y20, y21)) (fun k hk => impl_Take.same (by first | assumption | omega) (by first | assumption | omega) (by first | assumption | omega) (by first | assumption | omega) hk ((hy15.2) k hk))) (fun y36 y37 y38 y39 y40 y41 hy35 => ?_)
    simp only [Prod.mk.injEq] at hy35; obtain ⟨hy35e0, hy35e1, hy35e2, hy35e3, hy35e4, hy35e5⟩ := hy35; subst y36 y37 y38 y39 y40 y41
    try simp only [ZF]
    refine laws_eqQueue.tm (fun i hi => hi) (laws_eqQueue.T (by first | assumption | omega) (by first | assumption | omega) (by first | assumption | omega) (by first | assumption | omega)) (fun y43 hy42 => ?_)
    subst hy42
    refine Tm.ite (fun h44 => ?_) (fun h44 => ?_)
    · try simp only [bz0, bz1, bz2, bz3, bz4, bz5, bz6, bz7, bz8, bz9, bza] at h44
      exact Tm.ret (by first | rfl | (exfalso; omega) | (exfalso; simp [Zi] at *))
    · try simp only [bz0, bz1, bz2, bz3, bz4, bz5, bz6, bz7, bz8, bz9, bza] at h44
      refine Tm.ite (fun h45 => ?_) (fun h45 => ?_)
      · try simp only [bz0, bz1, bz2, bz3, bz4, bz5, bz6, bz7, bz8, bz9, bza] at h45
        exact Tm.ret (by first | rfl | (exfalso; omega) | (exfalso; simp [Zi] at *))
      · try simp only [bz0, bz1, bz2, bz3, bz4, bz5, bz6, bz7, bz8, bz9, bza] at h45
        refine Tm.ite (fun h46 => ?_) (fun h46 => ?_)
        · try simp only [bz0, bz1, bz2, bz3, bz4, bz5, bz6, bz7, bz8, bz9, bza] at h46
          exact Tm.ret (by first | rfl | (exfalso; omega) | (exfalso; simp [Zi] at *))
        · try simp only [bz0, bz1, bz2, bz3, bz4, bz5, bz6, bz7, bz8, bz9, bza] at h46
          refine laws_toQueue.tm (fun i hi => hi) (laws_toQueue.T (by first | assumption | omega) (by first | assumption | omega) (by first | assumption | omega)) (fun y48 y49 y50 y51 hy47 => ?_)
          try simp only [] at hy47
          obtain ⟨rfl, rfl, rfl, rfl, _⟩ := hy47
          try simp only [ZF]
          refine laws_eqQueue.tm (fun i hi => hi) (laws_eqQueue.T (by first | assumption | omega) (by first | assumption | omega) (by first | assumption | omega) (by first | assumption | omega)) (fun y53 hy52 => ?_)
          subst hy52
          refine Tm.ite (fun h54 => ?_) (fun h54 => ?_)
          · try simp only [bz0, bz1, bz2, bz3, bz4, bz5, bz6, bz7, bz8, bz9, bza] at h54
            exact Tm.ret (by first | rfl | (exfalso; omega) | (exfalso; simp [Zi] at *))
          · try simp only [bz0, bz1, bz2, bz3, bz4, bz5, bz6, bz7, bz8, bz9, bza] at h54
            refine laws_markQueue.tm (fun i hi => hi) (laws_markQueue.T (B := 2097152) (by decide) (by first | assumption | exact Ya.wide (by assumption)) (by first | assumption | exact Ya.wide (by assumption)) (by first | assumption | exact RS.wide (by assumption)) (by omega) (by omega)) (fun y56 y57 y58 y59 hy55 => ?_)
            obtain ⟨ys61, ys62, ys63, en70, et64, et65, et66, el67, el68, el69, hh60⟩ := hy55
            simp only [] at en70 et64 et65 et66 hh60
            subst en70 et64 et65 et66
            refine Tm.guard (by first | omega | (simp only [deepRows_length]; assumption) | (simp only [lim, Za, Z6] at *; omega) | (simp only [lim, Z6] at *; refine ⟨?_, ?_, ?_, ?_⟩ <;> omega)) ?_
            refine Tm.guard (by first | omega | (simp only [deepRows_length]; assumption) | (simp only [lim, Za, Z6] at *; omega) | (simp only [lim, Z6] at *; refine ⟨?_, ?_, ?_, ?_⟩ <;> omega)) ?_
            refine Tm.guard (by first | omega | (simp only [deepRows_length]; assumption) | (simp only [lim, Za, Z6] at *; omega) | (simp only [lim, Z6] at *; refine ⟨?_, ?_, ?_, ?_⟩ <;> omega)) ?_
            refine Tm.ite (fun h71 => ?_) (fun h71 => ?_)
            · try simp only [bz0, bz1, bz2, bz3, bz4, bz5, bz6, bz7, bz8, bz9, bza] at h71
              exact Tm.ret (by first | rfl | (exfalso; omega) | (exfalso; simp [Zi] at *))
            · try simp only [bz0, bz1, bz2, bz3, bz4, bz5, bz6, bz7, bz8, bz9, bza] at h71
              refine laws_eqQueue.tm (fun i hi => hi) (laws_eqQueue.T (by first | assumption | omega) (by first | assumption | omega) (by first | assumption | omega) (by first | assumption | omega)) (fun y73 hy72 => ?_)
              subst hy72
              refine Tm.ite (fun h74 => ?_) (fun h74 => ?_)
              · try simp only [bz0, bz1, bz2, bz3, bz4, bz5, bz6, bz7, bz8, bz9, bza] at h74
                exact Tm.ret (by first | rfl | (exfalso; omega) | (exfalso; simp [Zi] at *))
              · try simp only [bz0, bz1, bz2, bz3, bz4, bz5, bz6, bz7, bz8, bz9, bza] at h74
                refine Tm.ite (fun h75 => ?_) (fun h75 => ?_)
                · try simp only [bz0, bz1, bz2, bz3, bz4, bz5, bz6, bz7, bz8, bz9, bza] at h75
                  exact Tm.ret (by first | rfl | (exfalso; omega) | (exfalso; simp [Zi] at *))
                · try simp only [bz0, bz1, bz2, bz3, bz4, bz5, bz6, bz7, bz8, bz9, bza] at h75
                  refine Tm.ite (fun h76 => ?_) (fun h76 => ?_)
                  · try simp only [bz0, bz1, bz2, bz3, bz4, bz5, bz6, bz7, bz8, bz9, bza] at h76
                    exact Tm.ret (by first | rfl | (exfalso; omega) | (exfalso; simp [Zi] at *))
                  · try simp only [bz0, bz1, bz2, bz3, bz4, bz5, bz6, bz7, bz8, bz9, bza] at h76
                    refine laws_markQueue.tm (fun i hi => hi) (laws_markQueue.T (B := 2097152) (by decide) (by first | assumption | exact Ya.wide (by assumption)) (by first | assumption | exact Ya.wide (by assumption)) (by first | assumption | exact RS.wide (by assumption)) (by omega) (by omega)) (fun y78 y79 y80 y81 hy77 => ?_)
                    obtain ⟨ys83, ys84, ys85, en92, et86, et87, et88, el89, el90, el91, hh82⟩ := hy77
                    simp only [] at en92 et86 et87 et88 hh82
                    subst en92 et86 et87 et88
                    refine Tm.guard (by first | omega | (simp only [deepRows_length]; assumption) | (simp only [lim, Za, Z6] at *; omega) | (simp only [lim, Z6] at *; refine ⟨?_, ?_, ?_, ?_⟩ <;> omega)) ?_
                    refine Tm.guard (by first | omega | (simp only [deepRows_length]; assumption) | (simp only [lim, Za, Z6] at *; omega) | (simp only [lim, Z6] at *; refine ⟨?_, ?_, ?_, ?_⟩ <;> omega)) ?_
                    refine Tm.guard (by first | omega | (simp only [deepRows_length]; assumption) | (simp only [lim, Za, Z6] at *; omega) | (simp only [lim, Z6] at *; refine ⟨?_, ?_, ?_, ?_⟩ <;> omega)) ?_
                    try simp only [ZF]
                    refine laws_heldQueue.tm (fun i hi => hi) (Tm.at (ok := Zar) (fun k hk => hh82 k hk)) (fun y94 hy93 => ?_)
                    subst hy93
                    refine Tm.ite (fun h95 => ?_) (fun h95 => ?_)
                    · try simp only [bz0, bz1, bz2, bz3, bz4, bz5, bz6, bz7, bz8, bz9, bza] at h95
                      exact Tm.ret (by first | rfl | (exfalso; omega) | (exfalso; simp [Zi] at *))
                    · try simp only [bz0, bz1, bz2, bz3, bz4, bz5, bz6, bz7, bz8, bz9, bza] at h95
                      refine Tm.ite (fun h96 => ?_) (fun h96 => ?_)
                      · try simp only [bz0, bz1, bz2, bz3, bz4, bz5, bz6, bz7, bz8, bz9, bza] at h96
                        exact Tm.ret (by first | rfl | (exfalso; omega) | (exfalso; simp [Zi] at *))
                      · try simp only [bz0, bz1, bz2, bz3, bz4, bz5, bz6, bz7, bz8, bz9, bza] at h96
                        refine laws_toQueue.tm (fun i hi => hi) (laws_toQueue.T (by first | assumption | omega) (by first | assumption | omega) (by first | assumption | omega)) (fun y98 y99 y100 y101 hy97 => ?_)
                        try simp only [] at hy97
                        obtain ⟨rfl, rfl, rfl, rfl, _⟩ := hy97
                        try simp only [ZF]
                        refine impl_Take.tm (fun i hi => hi) (Tm.at (ok := Zar) (v := (Zs (C.immRows y16), Zs (C.immRows y17), Zs (C.immRows y18), y19, y20, y21)) (fun k hk => impl_Take.same (by first | assumption | omega) (by first | assumption | omega) (by first | assumption | omega) (by first | assumption | omega) hk ((hy15.2) k hk))) (fun y103 y104 y105 y106 y107 y108 hy102 => ?_)
                        simp only [Prod.mk.injEq] at hy102; obtain ⟨hy102e0, hy102e1, hy102e2, hy102e3, hy102e4, hy102e5⟩ := hy102; subst y103 y104 y105 y106 y107 y108
                        try simp only [ZF]
                        refine laws_eqQueue.tm (fun i hi => hi) (laws_eqQueue.T (by first | assumption | omega) (by first | assumption | omega) (by first | assumption | omega) (by first | assumption | omega)) (fun y110 hy109 => ?_)
                        subst hy109
                        refine Tm.ite (fun h111 => ?_) (fun h111 => ?_)
                        · try simp only [bz0, bz1, bz2, bz3, bz4, bz5, bz6, bz7, bz8, bz9, bza] at h111
                          exact Tm.ret (by first | rfl | (exfalso; omega) | (exfalso; simp [Zi] at *))
                        · try simp only [bz0, bz1, bz2, bz3, bz4, bz5, bz6, bz7, bz8, bz9, bza] at h111
                          refine Tm.ite (fun h112 => ?_) (fun h112 => ?_)
                          · try simp only [bz0, bz1, bz2, bz3, bz4, bz5, bz6, bz7, bz8, bz9, bza] at h112
                            exact Tm.ret (by first | rfl | (exfalso; omega) | (exfalso; simp [Zi] at *))
                          · try simp only [bz0, bz1, bz2, bz3, bz4, bz5, bz6, bz7, bz8, bz9, bza] at h112
                            refine Tm.ite (fun h113 => ?_) (fun h113 => ?_)
                            · try simp only [bz0, bz1, bz2, bz3, bz4, bz5, bz6, bz7, bz8, bz9, bza] at h113
                              exact Tm.ret (by first | rfl | (exfalso; omega) | (exfalso; simp [Zi] at *))
                            · try simp only [bz0, bz1, bz2, bz3, bz4, bz5, bz6, bz7, bz8, bz9, bza] at h113
                              try simp only [ZF]
                              refine laws_heldQueue.tm (fun i hi => hi) (Tm.at (ok := Zar) (fun k hk => hh82 k hk)) (fun y115 hy114 => ?_)
                              subst hy114
                              refine Tm.ite (fun h116 => ?_) (fun h116 => ?_)
                              · try simp only [bz0, bz1, bz2, bz3, bz4, bz5, bz6, bz7, bz8, bz9, bza] at h116
                                exact Tm.ret (by first | rfl | (exfalso; omega) | (exfalso; simp [Zi] at *))
                              · try simp only [bz0, bz1, bz2, bz3, bz4, bz5, bz6, bz7, bz8, bz9, bza] at h116
                                refine Tm.ite (fun h117 => ?_) (fun h117 => ?_)
                                · try simp only [bz0, bz1, bz2, bz3, bz4, bz5, bz6, bz7, bz8, bz9, bza] at h117
                                  exact Tm.ret (by first | rfl | (exfalso; omega) | (exfalso; simp [Zi] at *))
                                · try simp only [bz0, bz1, bz2, bz3, bz4, bz5, bz6, bz7, bz8, bz9, bza] at h117
                                  exact Tm.ret (by first | rfl | (exfalso; omega) | (exfalso; simp [Zi] at *))
open Go.ChangeShapes Go.WideShapes Go.ChangeAt Go.RowKit
open Go.ChangeMaps (open_string shut_string)
theorem own : ownKnob Try.prog.godebug = none := by kernel_rfl
theorem laidOut : laidOutB Try.prog = true := by kernel_rfl
theorem goodSII_234 {r : List D} (h : RowS Try.prog maxLen 234 r) : Ya maxLen r := by
  have hh := h.open (show Zy Try.prog 6 234 = [9, 3, 3] from by kernel_rfl)
  obtain ⟨d0, l0, rfl, g0, hh0⟩ := Zr hh
  obtain ⟨c0, rfl, k0⟩ := Zbb (by kernel_rfl) g0
  obtain ⟨d1, l1, rfl, g1, hh1⟩ := Zr hh0
  obtain ⟨c1, rfl, k1⟩ := Zam (k := .i64) (by kernel_rfl) g1
  obtain ⟨d2, l2, rfl, g2, hh2⟩ := Zr hh1
  obtain ⟨c2, rfl, k2⟩ := Zam (k := .i64) (by kernel_rfl) g2
  obtain rfl := Za0 hh2
  exact ⟨c0, c1, c2, rfl, k0, k1, k2, trivial⟩
theorem goodS_9 {r : List D} (h : RowS Try.prog maxLen 9 r) : RS maxLen r := by
  have hh := h.open (show Zy Try.prog 6 9 = [9] from by kernel_rfl)
  obtain ⟨d0, l0, rfl, g0, hh0⟩ := Zr hh
  obtain ⟨c0, rfl, k0⟩ := Zbb (by kernel_rfl) g0
  obtain rfl := Za0 hh0
  exact ⟨c0, rfl, k0, trivial⟩
theorem types : lawTys Try.prog [234, 9] = true := by kernel_rfl
set_option maxRecDepth 100000 in
theorem lifted (os : Os) (started : os.Started) (H : Type) (enc : TypeId × Value → H) :
    ReturnsInHanded {} Try.checked os 7 .any (Rows.fnExactTakeSpec.pre6 enc Try.prog Try.f7 Rows.fnExactTakeRow.domain false) (Rows.fnExactTakeSpec.post enc Try.prog Try.f7 false true false false) := by
  refine returnsInHanded_of_change_sized (C := Try.checked) own started (by kernel_rfl) Try.func7
    (ChangeSpec.witness6 (enc := enc) (C := Try.checked) false ⟨#[], #[.agg #[.slice none 0 0, .slice none 0 0, .slice none 0 0, .int .i64 0]], []⟩ 8 (by kernel_rfl) (by kernel_rfl) (by kernel_rfl) (by kernel_rfl)) ?_
  intro W base args ds gs before hval0 hW hcnd hsz0 _
  have hval : ∀ (j : Nat) t v, Try.f7.params[j]? = some t → args[j]? = some v → Value.okWide Try.prog W .any base t v := hval0
  have hW' := hW
  obtain ⟨p, q, hA0, hV, rfl, hfz, hnd⟩ := hW
  have hA : DataW.TrodAll enc Try.prog W 0 (fun _ => true) true Try.f7.params.toList args.toList ds p := hA0
  have hpar : Try.f7.params = #[40] := by kernel_rfl
  rw [hpar] at hA hval
  obtain ⟨v0, vs0, d0, ds0, p0, q0, hargs, rfl, rfl, h0, r0⟩ := trodAll_cons hA
  obtain ⟨rfl, rfl, rfl⟩ := trodAll_nil r0
  obtain rfl : args = #[v0] := by cases args; simp_all
  obtain ⟨rfl, rfl⟩ := trodVars_none hV
  have k0 := h0
  have lt0 : ∀ x ∈ p0, x.block < W.heap.size := by obtain ⟨m, hm⟩ := k0; exact DataW.trod_lt m _ _ _ hm
  obtain ⟨cs0, xs0, rfl, hl0, hc0, hg0⟩ := open_agg types (by kernel_rfl) (by kernel_rfl) (hval 0 40 v0 rfl rfl) h0
  have hj0 := hg0.open (show Zy Try.prog 6 40 = [38, 38, 25, 3] from by kernel_rfl)
  obtain ⟨ea0_0, la0_0, rfl, wa0_0, hj0_0⟩ := Zr hj0
  obtain ⟨a0_0, rfl, ka0_0, ma0_0⟩ := ZaH (e := 234) (by kernel_rfl) wa0_0
  obtain ⟨ea0_1, la0_1, rfl, wa0_1, hj0_1⟩ := Zr hj0_0
  obtain ⟨a0_1, rfl, ka0_1, ma0_1⟩ := ZaH (e := 234) (by kernel_rfl) wa0_1
  obtain ⟨ea0_2, la0_2, rfl, wa0_2, hj0_2⟩ := Zr hj0_1
  obtain ⟨a0_2, rfl, ka0_2, ma0_2⟩ := ZaH (e := 9) (by kernel_rfl) wa0_2
  obtain ⟨ea0_3, la0_3, rfl, wa0_3, hj0_3⟩ := Zr hj0_2
  obtain ⟨a0_3, rfl, ka0_3⟩ := Zam (k := .i64) (by kernel_rfl) wa0_3
  obtain rfl := Za0 hj0_3
  clear hA0 hval0 hsz0
  obtain ⟨kb, hkb⟩ : ∃ k, big ≤ k := ⟨_, Nat.le_refl _⟩
  obtain ⟨z, rfl, hz⟩ := laws_FnExactTake.T ⟨ka0_0, fun r hr => goodSII_234 (ma0_0 r hr)⟩ ⟨ka0_1, fun r hr => goodSII_234 (ma0_1 r hr)⟩ ⟨ka0_2, fun r hr => goodS_9 (ma0_2 r hr)⟩ ka0_3
  refine (law_calls (laws_FnExactTake.ok kb) rfl rfl (by kernel_rfl) (aa := laws_FnExactTake.as a0_0 a0_1 a0_2 a0_3) (vs := [.agg cs0.toArray]) ?_ ⟨(), ?_⟩).mono fun e W' ⟨he, bel⟩ => ?_
  · exact (Zab.cons' ⟨rfl, cs0, rfl, hl0, hc0⟩ Zab.nil')
  · show laws_FnExactTake.f kb a0_0 a0_1 a0_2 a0_3 (laws_FnExactTake.kt a0_0 a0_1 a0_2 a0_3 _) = some ()
    rw [laws_FnExactTake.f_of (hz kb hkb)]
    rfl
  · subst he
    exact ⟨_, rfl, _, _, _, [], _, [], hW', trodAll_mk1 (shut_bool (by kernel_rfl) _), (trodAll_cons_mk (Below.trod laidOut (by kernel_rfl) (of_decide_eq_true (by kernel_rfl)) k0 bel lt0) trodAll_mk0), rfl, bel.frame _, fun h => by cases h⟩
theorem facts1 : joined1 Try.prog 7 Try.f7 Rows.fnExactTakeSpec Rows.fnExactTakeRow = true := by kernel_rfl
theorem facts2 : joined2 Try.prog 7 Try.f7 Rows.fnExactTakeSpec Rows.fnExactTakeRow = true := by kernel_rfl
theorem facts3 : joined3 Try.prog 7 Try.f7 Rows.fnExactTakeSpec Rows.fnExactTakeRow = true := by kernel_rfl
theorem facts4 : joined4 Try.prog 7 Try.f7 Rows.fnExactTakeSpec Rows.fnExactTakeRow = true := by kernel_rfl
theorem facts5 : joined5 Try.prog 7 Try.f7 Rows.fnExactTakeSpec Rows.fnExactTakeRow = true := by kernel_rfl
theorem facts6 : joined6 Try.prog 7 Try.f7 Rows.fnExactTakeSpec Rows.fnExactTakeRow = true := by kernel_rfl
theorem facts7 : joined7 Try.prog 7 Try.f7 Rows.fnExactTakeSpec Rows.fnExactTakeRow = true := by kernel_rfl
theorem facts8 : joined8 Try.prog 7 Try.f7 Rows.fnExactTakeSpec Rows.fnExactTakeRow = true := by kernel_rfl
theorem over : Rows.fnExactTakeRow.holds Try.pinned (OpenSpec.ofChange Rows.fnExactTakeSpec) :=
  OpenClaim.holds_of_wide 7 Try.f7 rfl rfl rfl rfl rfl rfl rfl ⟨rfl, rfl, rfl, rfl, rfl⟩ rfl rfl rfl rfl rfl (by kernel_rfl) Try.func7 (joined_of facts1 facts2 facts3 facts4 facts5 facts6 facts7 facts8)
    (of_decide_eq_true (by kernel_rfl)) (by unfold Func.isWrapper; first | (rw [if_pos (by decide +kernel)]; kernel_rfl) | (rw [if_neg (by decide +kernel)]; exact ⟨rfl, rfl⟩))
    (fun os started H enc _ => lifted os started H enc)
theorem fnExactTake_holds : Rows.FnExactTakeSaid := over
end Go.Proofs.Ytljkbknnnpjmgaa
