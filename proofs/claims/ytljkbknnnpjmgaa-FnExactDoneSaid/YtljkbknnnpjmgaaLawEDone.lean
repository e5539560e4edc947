/- FnExactDone: the program's function answers as the reference's, for every input. No condition. -/
import Derived.Test.YtljkbknnnpjmgaaRows
import Derived.Test.YtljkbknnnpjmgaaYEDone0
import Derived.KernelRfl
import Derived.WalkKit
import Derived.ProofKit
import Derived.OpenShut
import Derived.ShutString
import Derived.ChangeOld
import Derived.Below
import Derived.SizedLaws
set_option linter.unusedVariables false
set_option linter.unusedSimpArgs false
namespace Go.Proofs.Ytljkbknnnpjmgaa
open Go Go.T Go.Proofs
theorem laws_FnExactDone.f_of {β : Type} {k : Nat} {a0_0 : List (List D)} {a0_1 : List (List D)} {a0_2 : List (List D)} {a0_3 : Int} {a1 : ByteArray} {a2 : Bool} {z0 : Bool} (h : laws_FnExactDone.t k a0_0 a0_1 a0_2 a0_3 a1 a2 = some z0) (K : Bool → Option β) : laws_FnExactDone.f k a0_0 a0_1 a0_2 a0_3 a1 a2 K = K z0 := by
  unfold laws_FnExactDone.f
  rw [h]
theorem laws_FnExactDone.tm {ι α : Type} {ok : ι → Prop} {ψ : α → Prop} {p : ι → Nat} {B : Nat} (hp : ∀ i, ok i → B ≤ p i) {a0_0 : List (List D)} {a0_1 : List (List D)} {a0_2 : List (List D)} {a0_3 : Int} {a1 : ByteArray} {a2 : Bool} {φ : Bool → Prop} (h : Tm (fun k => B ≤ k) (fun k => laws_FnExactDone.t k a0_0 a0_1 a0_2 a0_3 a1 a2) φ) {G : ι → Bool → Option α} (hG : ∀ z0, φ z0 → Tm ok (fun ι0 => G ι0 z0) ψ) : Tm ok (fun ι0 => laws_FnExactDone.f (p ι0) a0_0 a0_1 a0_2 a0_3 a1 a2 (G ι0)) ψ := by
  obtain ⟨z0, h1, h2⟩ := h
  exact (hG z0 h1).congr fun i0 hi0 => laws_FnExactDone.f_of (h2 (p i0) (hp i0 hi0)) _
theorem laws_FnExactDone.T {a0_0 : List (List D)} {a0_1 : List (List D)} {a0_2 : List (List D)} {a0_3 : Int} {a1 : ByteArray} {a2 : Bool} (ga0_0 : Zm Ya maxLen a0_0) (ga0_1 : Zm Ya maxLen a0_1) (ga0_2 : Zm RS maxLen a0_2) (ga0_3 : (Lit.int .i64 a0_3).wf = true) (ga1 : a1.size ≤ maxLen) : Tm Zar (fun k => laws_FnExactDone.t k a0_0 a0_1 a0_2 a0_3 a1 a2) (fun r => r = true) := by
  unfold laws_FnExactDone.t laws_FnExactDone.g
  have hm := Za
  have hlim : lim = 1048576 := rfl
  refine Tm.ite (fun h1 => ?_) (fun h1 => ?_)
  · try simp only [bz0, bz1, bz2, bz3, bz4, bz5, bz6, bz7, bz8, bz9, bza] at h1
    exact Tm.ret (by first | rfl | (exfalso; omega) | (exfalso; simp [Zi] at *))
  · try simp only [bz0, bz1, bz2, bz3, bz4, bz5, bz6, bz7, bz8, bz9, bza] at h1
    refine laws_szQueue.tm (fun i hi => hi) (laws_szQueue.T (by first | assumption | omega) (by first | assumption | omega) (by first | assumption | omega) (by first | assumption | omega) (by first | assumption | omega)) (fun y3 hy2 => ?_)
    rcases hy2 with hy2 | ⟨p8, p9, q4, q5, q6, q7, _⟩
    · exact Tm.ite (fun _ => Tm.ret (by rfl)) (fun h => by simp at h; omega)
    refine Tm.ite (fun h10 => ?_) (fun h10 => ?_)
    · try simp only [bz0, bz1, bz2, bz3, bz4, bz5, bz6, bz7, bz8, bz9, bza] at h10
      exact Tm.ret (by first | rfl | (exfalso; omega) | (exfalso; simp [Zi] at *))
    · try simp only [bz0, bz1, bz2, bz3, bz4, bz5, bz6, bz7, bz8, bz9, bza] at h10
      refine laws_toQueue.tm (fun i hi => hi) (laws_toQueue.T (by first | assumption | omega) (by first | assumption | omega) (by first | assumption | omega)) (fun y12 y13 y14 y15 hy11 => ?_)
      try simp only [] at hy11
      obtain ⟨rfl, rfl, rfl, rfl, _⟩ := hy11
      try simp only [ZF]
      refine spec_Done.tm (fun i hi => hi) (Tm.self (spec_Done.T (by first | assumption | omega) (by first | assumption | omega) (by first | assumption | omega) (by first | assumption | omega) (by first | assumption | omega))) (fun y17 y18 y19 y20 y21 hy16 => ?_)
      have hf22 := hy16.1
      try simp only [] at hf22
      obtain ⟨q23, q24, q25, q26, q27, q28, _⟩ := hf22
      refine laws_toQueue.tm (fun i hi => hi) (laws_toQueue.T (by first | assumption | omega) (by first | assumption | omega) (by first | assumption | omega)) (fun y30 y31 y32 y33 hy29 => ?_)
      try simp only [] at hy29
      obtain ⟨rfl, rfl, rfl, rfl, _⟩ := hy29
      try simp only [ZF]
      refine impl_Done.tm (fun i hi => hi) (Tm.at (ok := Zar) (v := (Zs (C.immRows y17), Zs (C.immRows y18), Zs (C.immRows y19), y20, y21)) (fun k hk => impl_Done.same (by first | assumption | omega) (by first | assumption | omega) (by first | assumption | omega) (by first | assumption | omega) (by first | assumption | omega) hk ((hy16.2) k hk))) (fun y35 y36 y37 y38 y39 hy34 => ?_)
      simp only [Prod.mk.injEq] at hy34; obtain ⟨hy34e0, hy34e1, hy34e2, hy34e3, hy34e4⟩ := hy34; subst y35 y36 y37 y38 y39
      try simp only [ZF]
      refine laws_eqQueue.tm (fun i hi => hi) (laws_eqQueue.T (by first | assumption | omega) (by first | assumption | omega) (by first | assumption | omega) (by first | assumption | omega)) (fun y41 hy40 => ?_)
      subst hy40
      refine Tm.ite (fun h42 => ?_) (fun h42 => ?_)
      · try simp only [bz0, bz1, bz2, bz3, bz4, bz5, bz6, bz7, bz8, bz9, bza] at h42
        exact Tm.ret (by first | rfl | (exfalso; omega) | (exfalso; simp [Zi] at *))
      · try simp only [bz0, bz1, bz2, bz3, bz4, bz5, bz6, bz7, bz8, bz9, bza] at h42
        refine Tm.ite (fun h43 => ?_) (fun h43 => ?_)
        · try simp only [bz0, bz1, bz2, bz3, bz4, bz5, bz6, bz7, bz8, bz9, bza] at h43
          exact Tm.ret (by first | rfl | (exfalso; omega) | (exfalso; simp [Zi] at *))
        · try simp only [bz0, bz1, bz2, bz3, bz4, bz5, bz6, bz7, bz8, bz9, bza] at h43
          refine laws_toQueue.tm (fun i hi => hi) (laws_toQueue.T (by first | assumption | omega) (by first | assumption | omega) (by first | assumption | omega)) (fun y45 y46 y47 y48 hy44 => ?_)
          try simp only [] at hy44
          obtain ⟨rfl, rfl, rfl, rfl, _⟩ := hy44
          try simp only [ZF]
          refine laws_eqQueue.tm (fun i hi => hi) (laws_eqQueue.T (by first | assumption | omega) (by first | assumption | omega) (by first | assumption | omega) (by first | assumption | omega)) (fun y50 hy49 => ?_)
          subst hy49
          refine Tm.ite (fun h51 => ?_) (fun h51 => ?_)
          · try simp only [bz0, bz1, bz2, bz3, bz4, bz5, bz6, bz7, bz8, bz9, bza] at h51
            exact Tm.ret (by first | rfl | (exfalso; omega) | (exfalso; simp [Zi] at *))
          · try simp only [bz0, bz1, bz2, bz3, bz4, bz5, bz6, bz7, bz8, bz9, bza] at h51
            refine laws_markQueue.tm (fun i hi => hi) (laws_markQueue.T (B := 2097152) (by decide) (by first | assumption | exact Ya.wide (by assumption)) (by first | assumption | exact Ya.wide (by assumption)) (by first | assumption | exact RS.wide (by assumption)) (by omega) (by omega)) (fun y53 y54 y55 y56 hy52 => ?_)
            obtain ⟨ys58, ys59, ys60, en67, et61, et62, et63, el64, el65, el66, hh57⟩ := hy52
            simp only [] at en67 et61 et62 et63 hh57
            subst en67 et61 et62 et63
            refine Tm.guard (by first | omega | (simp only [deepRows_length]; assumption) | (simp only [lim, Za, Z6] at *; omega) | (simp only [lim, Z6] at *; refine ⟨?_, ?_, ?_, ?_⟩ <;> omega)) ?_
            refine Tm.guard (by first | omega | (simp only [deepRows_length]; assumption) | (simp only [lim, Za, Z6] at *; omega) | (simp only [lim, Z6] at *; refine ⟨?_, ?_, ?_, ?_⟩ <;> omega)) ?_
            refine Tm.guard (by first | omega | (simp only [deepRows_length]; assumption) | (simp only [lim, Za, Z6] at *; omega) | (simp only [lim, Z6] at *; refine ⟨?_, ?_, ?_, ?_⟩ <;> omega)) ?_
            refine Tm.ite (fun h68 => ?_) (fun h68 => ?_)
            · try simp only [bz0, bz1, bz2, bz3, bz4, bz5, bz6, bz7, bz8, bz9, bza] at h68
              exact Tm.ret (by first | rfl | (exfalso; omega) | (exfalso; simp [Zi] at *))
            · try simp only [bz0, bz1, bz2, bz3, bz4, bz5, bz6, bz7, bz8, bz9, bza] at h68
              refine laws_eqQueue.tm (fun i hi => hi) (laws_eqQueue.T (by first | assumption | omega) (by first | assumption | omega) (by first | assumption | omega) (by first | assumption | omega)) (fun y70 hy69 => ?_)
              subst hy69
              refine Tm.ite (fun h71 => ?_) (fun h71 => ?_)
              · try simp only [bz0, bz1, bz2, bz3, bz4, bz5, bz6, bz7, bz8, bz9, bza] at h71
                exact Tm.ret (by first | rfl | (exfalso; omega) | (exfalso; simp [Zi] at *))
              · try simp only [bz0, bz1, bz2, bz3, bz4, bz5, bz6, bz7, bz8, bz9, bza] at h71
                refine Tm.ite (fun h72 => ?_) (fun h72 => ?_)
                · try simp only [bz0, bz1, bz2, bz3, bz4, bz5, bz6, bz7, bz8, bz9, bza] at h72
                  exact Tm.ret (by first | rfl | (exfalso; omega) | (exfalso; simp [Zi] at *))
                · try simp only [bz0, bz1, bz2, bz3, bz4, bz5, bz6, bz7, bz8, bz9, bza] at h72
                  refine laws_markQueue.tm (fun i hi => hi) (laws_markQueue.T (B := 2097152) (by decide) (by first | assumption | exact Ya.wide (by assumption)) (by first | assumption | exact Ya.wide (by assumption)) (by first | assumption | exact RS.wide (by assumption)) (by omega) (by omega)) (fun y74 y75 y76 y77 hy73 => ?_)
                  obtain ⟨ys79, ys80, ys81, en88, et82, et83, et84, el85, el86, el87, hh78⟩ := hy73
                  simp only [] at en88 et82 et83 et84 hh78
                  subst en88 et82 et83 et84
                  refine Tm.guard (by first | omega | (simp only [deepRows_length]; assumption) | (simp only [lim, Za, Z6] at *; omega) | (simp only [lim, Z6] at *; refine ⟨?_, ?_, ?_, ?_⟩ <;> omega)) ?_
                  refine Tm.guard (by first | omega | (simp only [deepRows_length]; assumption) | (simp only [lim, Za, Z6] at *; omega) | (simp only [lim, Z6] at *; refine ⟨?_, ?_, ?_, ?_⟩ <;> omega)) ?_
                  refine Tm.guard (by first | omega | (simp only [deepRows_length]; assumption) | (simp only [lim, Za, Z6] at *; omega) | (simp only [lim, Z6] at *; refine ⟨?_, ?_, ?_, ?_⟩ <;> omega)) ?_
                  try simp only [ZF]
                  refine laws_heldQueue.tm (fun i hi => hi) (Tm.at (ok := Zar) (fun k hk => hh78 k hk)) (fun y90 hy89 => ?_)
                  subst hy89
                  refine Tm.ite (fun h91 => ?_) (fun h91 => ?_)
                  · try simp only [bz0, bz1, bz2, bz3, bz4, bz5, bz6, bz7, bz8, bz9, bza] at h91
                    exact Tm.ret (by first | rfl | (exfalso; omega) | (exfalso; simp [Zi] at *))
                  · try simp only [bz0, bz1, bz2, bz3, bz4, bz5, bz6, bz7, bz8, bz9, bza] at h91
                    refine Tm.ite (fun h92 => ?_) (fun h92 => ?_)
                    · try simp only [bz0, bz1, bz2, bz3, bz4, bz5, bz6, bz7, bz8, bz9, bza] at h92
                      exact Tm.ret (by first | rfl | (exfalso; omega) | (exfalso; simp [Zi] at *))
                    · try simp only [bz0, bz1, bz2, bz3, bz4, bz5, bz6, bz7, bz8, bz9, bza] at h92
                      refine laws_toQueue.tm (fun i hi => hi) (laws_toQueue.T (by first | assumption | omega) (by first | assumption | omega) (by first | assumption | omega)) (fun y94 y95 y96 y97 hy93 => ?_)
                      try simp only [] at hy93
                      obtain ⟨rfl, rfl, rfl, rfl, _⟩ := hy93
                      try simp only [ZF]
                      refine impl_Done.tm (fun i hi => hi) (Tm.at (ok := Zar) (v := (Zs (C.immRows y17), Zs (C.immRows y18), Zs (C.immRows y19), y20, y21)) (fun k hk => impl_Done.same (by first | assumption | omega) (by first | assumption | omega) (by first | assumption | omega) (by first | assumption | omega) (by first | assumption | omega) hk ((hy16.2) k hk))) (fun y99 y100 y101 y102 y103 hy98 => ?_)
                      simp only [Prod.mk.injEq] at hy98; obtain ⟨hy98e0, hy98e1, hy98e2, hy98e3, hy98e4⟩ := hy98; subst y99 y100 y101 y102 y103
                      try simp only [ZF]
                      refine laws_eqQueue.tm (fun i hi => hi) (laws_eqQueue.T (by first | assumption | omega) (by first | assumption | omega) (by first | assumption | omega) (by first | assumption | omega)) (fun y105 hy104 => ?_)
                      subst hy104
                      refine Tm.ite (fun h106 => ?_) (fun h106 => ?_)
                      · try simp only [bz0, bz1, bz2, bz3, bz4, bz5, bz6, bz7, bz8, bz9, bza] at h106
                        exact Tm.ret (by first | rfl | (exfalso; omega) | (exfalso; simp [Zi] at *))
                      · try simp only [bz0, bz1, bz2, bz3, bz4, bz5, bz6, bz7, bz8, bz9, bza] at h106
                        refine Tm.ite (fun h107 => ?_) (fun h107 => ?_)
                        · try simp only [bz0, bz1, bz2, bz3, bz4, bz5, bz6, bz7, bz8, bz9, bza] at h107
                          exact Tm.ret (by first | rfl | (exfalso; omega) | (exfalso; simp [Zi] at *))
                        · try simp only [bz0, bz1, bz2, bz3, bz4, bz5, bz6, bz7, bz8, bz9, bza] at h107
                          try simp only [ZF]
                          refine laws_heldQueue.tm (fun i hi => hi) (Tm.at (ok := Zar) (fun k hk => hh78 k hk)) (fun y109 hy108 => ?_)
                          subst hy108
                          refine Tm.ite (fun h110 => ?_) (fun h110 => ?_)
                          · try simp only [bz0, bz1, bz2, bz3, bz4, bz5, bz6, bz7, bz8, bz9, bza] at h110
                            exact Tm.ret (by first | rfl | (exfalso; omega) | (exfalso; simp [Zi] at *))
                          · try simp only [bz0, bz1, bz2, bz3, bz4, bz5, bz6, bz7, bz8, bz9, bza] at h110
                            refine Tm.ite (fun h111 => ?_) (fun h111 => ?_)
                            · try simp only [bz0, bz1, bz2, bz3, bz4, bz5, bz6, bz7, bz8, bz9, bza] at h111
                              exact Tm.ret (by first | rfl | (exfalso; omega) | (exfalso; simp [Zi] at *))
                            · try simp only [bz0, bz1, bz2, bz3, bz4, bz5, bz6, bz7, bz8, bz9, bza] at h111
                              exact Tm.ret (by first | rfl | (exfalso; omega) | (exfalso; simp [Zi] at *))
open Go.ChangeShapes Go.WideShapes Go.ChangeAt Go.RowKit
open Go.ChangeMaps (open_string shut_string)
theorem own : ownKnob Try.prog.godebug = none := by kernel_rfl
theorem laidOut : laidOutB Try.prog = true := by kernel_rfl
theorem goodSII_234 {r : List D} (h : RowS Try.prog maxLen 234 r) : Ya maxLen r := by
  have hh := h.open (show Zy Try.prog 6 234 = [9, 3, 3] from by kernel_rfl)
  obtain ⟨d0, l0, rfl, g0, hh0⟩ := Zr hh
  obtain ⟨c0, rfl, k0⟩ := Zbb (by kernel_rfl) g0
  obtain ⟨d1, l1, rfl, g1, hh1⟩ := Zr hh0
  obtain ⟨c1, rfl, k1⟩ := Zam (k := .i64) (by kernel_rfl) g1
  obtain ⟨d2, l2, rfl, g2, hh2⟩ := Zr hh1
  obtain ⟨c2, rfl, k2⟩ := Zam (k := .i64) (by kernel_rfl) g2
  obtain rfl := Za0 hh2
  exact ⟨c0, c1, c2, rfl, k0, k1, k2, trivial⟩
theorem goodS_9 {r : List D} (h : RowS Try.prog maxLen 9 r) : RS maxLen r := by
  have hh := h.open (show Zy Try.prog 6 9 = [9] from by kernel_rfl)
  obtain ⟨d0, l0, rfl, g0, hh0⟩ := Zr hh
  obtain ⟨c0, rfl, k0⟩ := Zbb (by kernel_rfl) g0
  obtain rfl := Za0 hh0
  exact ⟨c0, rfl, k0, trivial⟩
theorem types : lawTys Try.prog [234, 9] = true := by kernel_rfl
set_option maxRecDepth 100000 in
theorem lifted (os : Os) (started : os.Started) (H : Type) (enc : TypeId × Value → H) :
    ReturnsInHanded {} Try.checked os 8 .any (Rows.fnExactDoneSpec.pre6 enc Try.prog Try.f8 Rows.fnExactDoneRow.domain false) (Rows.fnExactDoneSpec.post enc Try.prog Try.f8 false true false false) := by
  refine returnsInHanded_of_change_sized (C := Try.checked) own started (by kernel_rfl) Try.func8
    (ChangeSpec.witness6 (enc := enc) (C := Try.checked) false ⟨#[], #[.agg #[.slice none 0 0, .slice none 0 0, .slice none 0 0, .int .i64 0], .string ByteArray.empty, .bool false], []⟩ 8 (by kernel_rfl) (by kernel_rfl) (by kernel_rfl) (by kernel_rfl)) ?_
  intro W base args ds gs before hval0 hW hcnd hsz0 _
  have hval : ∀ (j : Nat) t v, Try.f8.params[j]? = some t → args[j]? = some v → Value.okWide Try.prog W .any base t v := hval0
  have hW' := hW
  obtain ⟨p, q, hA0, hV, rfl, hfz, hnd⟩ := hW
  have hA : DataW.TrodAll enc Try.prog W 0 (fun _ => true) true Try.f8.params.toList args.toList ds p := hA0
  have hpar : Try.f8.params = #[40, 9, 4] := by kernel_rfl
  rw [hpar] at hA hval
  obtain ⟨v0, vs0, d0, ds0, p0, q0, hargs, rfl, rfl, h0, r0⟩ := trodAll_cons hA
  obtain ⟨v1, vs1, d1, ds1, p1, q1, rfl, rfl, rfl, h1, r1⟩ := trodAll_cons r0
  obtain ⟨v2, vs2, d2, ds2, p2, q2, rfl, rfl, rfl, h2, r2⟩ := trodAll_cons r1
  obtain ⟨rfl, rfl, rfl⟩ := trodAll_nil r2
  obtain rfl : args = #[v0, v1, v2] := by cases args; simp_all
  obtain ⟨rfl, rfl⟩ := trodVars_none hV
  have k0 := h0
  have lt0 : ∀ x ∈ p0, x.block < W.heap.size := by obtain ⟨m, hm⟩ := k0; exact DataW.trod_lt m _ _ _ hm
  obtain ⟨cs0, xs0, rfl, hl0, hc0, hg0⟩ := open_agg types (by kernel_rfl) (by kernel_rfl) (hval 0 40 v0 rfl rfl) h0
  have hj0 := hg0.open (show Zy Try.prog 6 40 = [38, 38, 25, 3] from by kernel_rfl)
  obtain ⟨ea0_0, la0_0, rfl, wa0_0, hj0_0⟩ := Zr hj0
  obtain ⟨a0_0, rfl, ka0_0, ma0_0⟩ := ZaH (e := 234) (by kernel_rfl) wa0_0
  obtain ⟨ea0_1, la0_1, rfl, wa0_1, hj0_1⟩ := Zr hj0_0
  obtain ⟨a0_1, rfl, ka0_1, ma0_1⟩ := ZaH (e := 234) (by kernel_rfl) wa0_1
  obtain ⟨ea0_2, la0_2, rfl, wa0_2, hj0_2⟩ := Zr hj0_1
  obtain ⟨a0_2, rfl, ka0_2, ma0_2⟩ := ZaH (e := 9) (by kernel_rfl) wa0_2
  obtain ⟨ea0_3, la0_3, rfl, wa0_3, hj0_3⟩ := Zr hj0_2
  obtain ⟨a0_3, rfl, ka0_3⟩ := Zam (k := .i64) (by kernel_rfl) wa0_3
  obtain rfl := Za0 hj0_3
  have k1 := h1
  have lt1 : ∀ x ∈ p1, x.block < W.heap.size := by obtain ⟨m, hm⟩ := k1; exact DataW.trod_lt m _ _ _ hm
  obtain ⟨sv1, rfl, _⟩ := open_string (by kernel_rfl) (hval 1 9 v1 rfl rfl) h1
  obtain ⟨ea1, hd1, wa1⟩ := open_cell types (by kernel_rfl) rfl (by kernel_rfl) h1
  obtain ⟨a1, rfl, ka1⟩ := Zbb (by kernel_rfl) wa1
  have k2 := h2
  have lt2 : ∀ x ∈ p2, x.block < W.heap.size := by obtain ⟨m, hm⟩ := k2; exact DataW.trod_lt m _ _ _ hm
  obtain ⟨sv2, rfl, _⟩ := open_bool (by kernel_rfl) (hval 2 4 v2 rfl rfl) h2
  obtain ⟨ea2, hd2, wa2⟩ := open_cell types (by kernel_rfl) rfl (by kernel_rfl) h2
  obtain ⟨a2, rfl⟩ := good_bool (by kernel_rfl) wa2
  clear hA0 hval0 hsz0
  obtain ⟨kb, hkb⟩ : ∃ k, big ≤ k := ⟨_, Nat.le_refl _⟩
  obtain ⟨z, rfl, hz⟩ := laws_FnExactDone.T ⟨ka0_0, fun r hr => goodSII_234 (ma0_0 r hr)⟩ ⟨ka0_1, fun r hr => goodSII_234 (ma0_1 r hr)⟩ ⟨ka0_2, fun r hr => goodS_9 (ma0_2 r hr)⟩ ka0_3 ka1
  refine (law_calls (laws_FnExactDone.ok kb) rfl rfl (by kernel_rfl) (aa := laws_FnExactDone.as a0_0 a0_1 a0_2 a0_3 a1 a2) (vs := [.agg cs0.toArray, .string sv1, .bool sv2]) ?_ ⟨(), ?_⟩).mono fun e W' ⟨he, bel⟩ => ?_
  · exact (Zab.cons' ⟨rfl, cs0, rfl, hl0, hc0⟩ (Zab.cons' ⟨rfl, hd1⟩ (Zab.cons' ⟨rfl, hd2⟩ Zab.nil')))
  · show laws_FnExactDone.f kb a0_0 a0_1 a0_2 a0_3 a1 a2 (laws_FnExactDone.kt a0_0 a0_1 a0_2 a0_3 a1 a2 _) = some ()
    rw [laws_FnExactDone.f_of (hz kb hkb)]
    rfl
  · subst he
    exact ⟨_, rfl, _, _, _, [], _, [], hW', trodAll_mk1 (shut_bool (by kernel_rfl) _), (trodAll_cons_mk (Below.trod laidOut (by kernel_rfl) (of_decide_eq_true (by kernel_rfl)) k0 bel lt0) (trodAll_cons_mk (Below.trod laidOut (by kernel_rfl) (of_decide_eq_true (by kernel_rfl)) k1 bel lt1) (trodAll_cons_mk (Below.trod laidOut (by kernel_rfl) (of_decide_eq_true (by kernel_rfl)) k2 bel lt2) trodAll_mk0))), rfl, bel.frame _, fun h => by cases h⟩
theorem facts1 : joined1 Try.prog 8 Try.f8 Rows.fnExactDoneSpec Rows.fnExactDoneRow = true := by kernel_rfl
theorem facts2 : joined2 Try.prog 8 Try.f8 Rows.fnExactDoneSpec Rows.fnExactDoneRow = true := by kernel_rfl
theorem facts3 : joined3 Try.prog 8 Try.f8 Rows.fnExactDoneSpec Rows.fnExactDoneRow = true := by kernel_rfl
theorem facts4 : joined4 Try.prog 8 Try.f8 Rows.fnExactDoneSpec Rows.fnExactDoneRow = true := by kernel_rfl
theorem facts5 : joined5 Try.prog 8 Try.f8 Rows.fnExactDoneSpec Rows.fnExactDoneRow = true := by kernel_rfl
theorem facts6 : joined6 Try.prog 8 Try.f8 Rows.fnExactDoneSpec Rows.fnExactDoneRow = true := by kernel_rfl
theorem facts7 : joined7 Try.prog 8 Try.f8 Rows.fnExactDoneSpec Rows.fnExactDoneRow = true := by kernel_rfl
theorem facts8 : joined8 Try.prog 8 Try.f8 Rows.fnExactDoneSpec Rows.fnExactDoneRow = true := by kernel_rfl
theorem over : Rows.fnExactDoneRow.holds Try.pinned (OpenSpec.ofChange Rows.fnExactDoneSpec) :=
  OpenClaim.holds_of_wide 8 Try.f8 rfl rfl rfl rfl rfl rfl rfl ⟨rfl, rfl, rfl, rfl, rfl⟩ rfl rfl rfl rfl rfl (by kernel_rfl) Try.func8 (joined_of facts1 facts2 facts3 facts4 facts5 facts6 facts7 facts8)
    (of_decide_eq_true (by kernel_rfl)) (by unfold Func.isWrapper; first | (rw [if_pos (by decide +kernel)]; kernel_rfl) | (rw [if_neg (by decide +kernel)]; exact ⟨rfl, rfl⟩))
    (fun os started H enc _ => lifted os started H enc)
theorem fnExactDone_holds : Rows.FnExactDoneSaid := over
end Go.Proofs.Ytljkbknnnpjmgaa
