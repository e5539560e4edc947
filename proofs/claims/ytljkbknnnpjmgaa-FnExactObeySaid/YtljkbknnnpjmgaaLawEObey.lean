/- FnExactObey: the program's function answers as the reference's, for every input. No condition. -/
import Derived.Test.YtljkbknnnpjmgaaRows
import Derived.Test.YtljkbknnnpjmgaaYEObey0
import Derived.KernelRfl
import Derived.WalkKit
import Derived.ProofKit
import Derived.OpenShut
import Derived.ShutString
import Derived.ChangeOld
import Derived.Below
import Derived.SizedLaws
set_option linter.unusedVariables false
set_option linter.unusedSimpArgs false
namespace Go.Proofs.Ytljkbknnnpjmgaa
open Go Go.T Go.Proofs
theorem laws_FnExactObey.f_of {β : Type} {k : Nat} {a0_0 : ByteArray} {a0_1 : Int} {a0_2 : Int} {a0_3 : List (List D)} {a0_4 : List (List D)} {a1 : Int} {a2 : List (List D)} {z0 : Bool} (h : laws_FnExactObey.t k a0_0 a0_1 a0_2 a0_3 a0_4 a1 a2 = some z0) (K : Bool → Option β) : laws_FnExactObey.f k a0_0 a0_1 a0_2 a0_3 a0_4 a1 a2 K = K z0 := by
  unfold laws_FnExactObey.f
  rw [h]
theorem laws_FnExactObey.tm {ι α : Type} {ok : ι → Prop} {ψ : α → Prop} {p : ι → Nat} {B : Nat} (hp : ∀ i, ok i → B ≤ p i) {a0_0 : ByteArray} {a0_1 : Int} {a0_2 : Int} {a0_3 : List (List D)} {a0_4 : List (List D)} {a1 : Int} {a2 : List (List D)} {φ : Bool → Prop} (h : Tm (fun k => B ≤ k) (fun k => laws_FnExactObey.t k a0_0 a0_1 a0_2 a0_3 a0_4 a1 a2) φ) {G : ι → Bool → Option α} (hG : ∀ z0, φ z0 → Tm ok (fun ι0 => G ι0 z0) ψ) : Tm ok (fun ι0 => laws_FnExactObey.f (p ι0) a0_0 a0_1 a0_2 a0_3 a0_4 a1 a2 (G ι0)) ψ := by
  obtain ⟨z0, h1, h2⟩ := h
  exact (hG z0 h1).congr fun i0 hi0 => laws_FnExactObey.f_of (h2 (p i0) (hp i0 hi0)) _
theorem laws_FnExactObey.T {a0_0 : ByteArray} {a0_1 : Int} {a0_2 : Int} {a0_3 : List (List D)} {a0_4 : List (List D)} {a1 : Int} {a2 : List (List D)} (ga0_0 : a0_0.size ≤ maxLen) (ga0_1 : (Lit.int .i64 a0_1).wf = true) (ga0_2 : (Lit.int .i64 a0_2).wf = true) (ga0_3 : Zm Ya maxLen a0_3) (ga0_4 : Zm RII maxLen a0_4) (ga1 : (Lit.int .i64 a1).wf = true) (ga2 : Zm Ya maxLen a2) : Tm (Zay 1) (fun k => laws_FnExactObey.t k a0_0 a0_1 a0_2 a0_3 a0_4 a1 a2) (fun r => r = true) := by
  unfold laws_FnExactObey.t laws_FnExactObey.g
  have hm := Za
  have hlim : lim = 1048576 := rfl
  refine laws_szIsle.tm (fun i hi => hi) (laws_szIsle.T (by first | assumption | omega) (by first | assumption | omega) (by first | assumption | omega) (by first | assumption | omega) (by first | assumption | omega)) (fun y2 hy1 => ?_)
  rcases hy1 with hy1 | ⟨p7, p8, q3, q4, q5, q6, _⟩
  · exact Tm.ite (fun _ => Tm.ret (by rfl)) (fun h => by simp at h; omega)
  refine Tm.ite (fun h9 => ?_) (fun h9 => ?_)
  · try simp only [bz0, bz1, bz2, bz3, bz4, bz5, bz6, bz7, bz8, bz9, bza] at h9
    exact Tm.ret (by first | rfl | (exfalso; omega) | (exfalso; simp at *))
  · try simp only [bz0, bz1, bz2, bz3, bz4, bz5, bz6, bz7, bz8, bz9, bza] at h9
    refine laws_szWorkS.tm (fun i hi => hi) (laws_szWorkS.T (by first | assumption | omega) (by first | assumption | omega) (by first | assumption | omega)) (fun y11 hy10 => ?_)
    rcases hy10 with hy10 | ⟨p14, p15, q12, q13, _⟩
    · exact Tm.ite (fun _ => Tm.ret (by rfl)) (fun h => by simp at h; omega)
    refine Tm.ite (fun h16 => ?_) (fun h16 => ?_)
    · try simp only [bz0, bz1, bz2, bz3, bz4, bz5, bz6, bz7, bz8, bz9, bza] at h16
      exact Tm.ret (by first | rfl | (exfalso; omega) | (exfalso; simp at *))
    · try simp only [bz0, bz1, bz2, bz3, bz4, bz5, bz6, bz7, bz8, bz9, bza] at h16
      refine laws_toIsle.tm (fun i hi => hi) (laws_toIsle.T (by first | assumption | omega) (by first | assumption | omega) (by first | assumption | omega)) (fun y18 y19 y20 y21 y22 hy17 => ?_)
      try simp only [] at hy17
      obtain ⟨rfl, rfl, rfl, rfl, rfl, _⟩ := hy17
      try simp only [ZF]
      refine laws_toWorkS.tm (fun i hi => hi) (laws_toWorkS.T (by first | assumption | omega)) (fun y24 hy23 => ?_)
      try simp only [] at hy23
      obtain ⟨rfl, _⟩ := hy23
      try simp only [ZF]
      refine spec_Obey.tm (fun i hi => hi) (Tm.self (spec_Obey.T (by first | assumption | omega) (by first | assumption | omega) (by first | assumption | omega) (by first | assumption | omega) (by first | assumption | omega) (by first | assumption | omega) (by first | assumption | omega) (by first | assumption | omega) (by first | assumption | omega))) (fun y26 y27 y28 y29 y30 y31 hy25 => ?_)
      have hf32 := hy25.1
      try simp only [] at hf32
      obtain ⟨q33, q34, q35, q36, q37, _⟩ := hf32
      refine laws_toIsle.tm (fun i hi => hi) (laws_toIsle.T (by first | assumption | omega) (by first | assumption | omega) (by first | assumption | omega)) (fun y39 y40 y41 y42 y43 hy38 => ?_)
      try simp only [] at hy38
      obtain ⟨rfl, rfl, rfl, rfl, rfl, _⟩ := hy38
      try simp only [ZF]
      refine laws_toWorkS.tm (fun i hi => hi) (laws_toWorkS.T (by first | assumption | omega)) (fun y45 hy44 => ?_)
      try simp only [] at hy44
      obtain ⟨rfl, _⟩ := hy44
      try simp only [ZF]
      refine impl_Obey.tm (fun i hi => hi) (Tm.at (ok := (Zay 1)) (v := (y26, y27, y28, Zs (C.immRows y29), Zs (C.immRows y30), y31)) (fun k hk => impl_Obey.same (by first | assumption | omega) (by first | assumption | omega) (by first | assumption | omega) (by first | assumption | omega) (by first | assumption | omega) (by first | assumption | omega) (by first | assumption | omega) (by first | assumption | omega) (by first | assumption | omega) hk ((hy25.2) k hk))) (fun y47 y48 y49 y50 y51 y52 hy46 => ?_)
      simp only [Prod.mk.injEq] at hy46; obtain ⟨hy46e0, hy46e1, hy46e2, hy46e3, hy46e4, hy46e5⟩ := hy46; subst y47 y48 y49 y50 y51 y52
      try simp only [ZF]
      refine laws_eqIsle.tm (fun i hi => hi) (laws_eqIsle.T (by first | assumption | omega) (by first | assumption | omega) (by first | assumption | omega) (by first | assumption | omega)) (fun y54 hy53 => ?_)
      subst hy53
      refine Tm.ite (fun h55 => ?_) (fun h55 => ?_)
      · try simp only [bz0, bz1, bz2, bz3, bz4, bz5, bz6, bz7, bz8, bz9, bza] at h55
        exact Tm.ret (by first | rfl | (exfalso; omega) | (exfalso; simp at *))
      · try simp only [bz0, bz1, bz2, bz3, bz4, bz5, bz6, bz7, bz8, bz9, bza] at h55
        refine Tm.ite (fun h56 => ?_) (fun h56 => ?_)
        · try simp only [bz0, bz1, bz2, bz3, bz4, bz5, bz6, bz7, bz8, bz9, bza] at h56
          exact Tm.ret (by first | rfl | (exfalso; omega) | (exfalso; simp at *))
        · try simp only [bz0, bz1, bz2, bz3, bz4, bz5, bz6, bz7, bz8, bz9, bza] at h56
          refine laws_toIsle.tm (fun i hi => hi) (laws_toIsle.T (by first | assumption | omega) (by first | assumption | omega) (by first | assumption | omega)) (fun y58 y59 y60 y61 y62 hy57 => ?_)
          try simp only [] at hy57
          obtain ⟨rfl, rfl, rfl, rfl, rfl, _⟩ := hy57
          try simp only [ZF]
          refine laws_eqIsle.tm (fun i hi => hi) (laws_eqIsle.T (by first | assumption | omega) (by first | assumption | omega) (by first | assumption | omega) (by first | assumption | omega)) (fun y64 hy63 => ?_)
          subst hy63
          refine Tm.ite (fun h65 => ?_) (fun h65 => ?_)
          · try simp only [bz0, bz1, bz2, bz3, bz4, bz5, bz6, bz7, bz8, bz9, bza] at h65
            exact Tm.ret (by first | rfl | (exfalso; omega) | (exfalso; simp at *))
          · try simp only [bz0, bz1, bz2, bz3, bz4, bz5, bz6, bz7, bz8, bz9, bza] at h65
            refine laws_toWorkS.tm (fun i hi => hi) (laws_toWorkS.T (by first | assumption | omega)) (fun y67 hy66 => ?_)
            try simp only [] at hy66
            obtain ⟨rfl, _⟩ := hy66
            try simp only [ZF]
            refine laws_eqWorkS.tm (fun i hi => hi) (laws_eqWorkS.T (by first | assumption | omega) (by first | assumption | omega)) (fun y69 hy68 => ?_)
            subst hy68
            refine Tm.ite (fun h70 => ?_) (fun h70 => ?_)
            · try simp only [bz0, bz1, bz2, bz3, bz4, bz5, bz6, bz7, bz8, bz9, bza] at h70
              exact Tm.ret (by first | rfl | (exfalso; omega) | (exfalso; simp at *))
            · try simp only [bz0, bz1, bz2, bz3, bz4, bz5, bz6, bz7, bz8, bz9, bza] at h70
              refine laws_markIsle.tm (fun i hi => hi) (laws_markIsle.T (B := 2097152) (by decide) (by first | assumption | exact Ya.wide (by assumption)) (by first | assumption | exact RII.wide (by assumption)) (by omega) (by omega)) (fun y72 y73 y74 hy71 => ?_)
              obtain ⟨ys76, ys77, en82, et78, et79, el80, el81, hh75⟩ := hy71
              simp only [] at en82 et78 et79 hh75
              subst en82 et78 et79
              refine Tm.guard (by first | omega | (simp only [deepRows_length]; assumption) | (simp only [lim, Za, Z6] at *; omega) | (simp only [lim, Z6] at *; refine ⟨?_, ?_, ?_, ?_⟩ <;> omega)) ?_
              refine Tm.guard (by first | omega | (simp only [deepRows_length]; assumption) | (simp only [lim, Za, Z6] at *; omega) | (simp only [lim, Z6] at *; refine ⟨?_, ?_, ?_, ?_⟩ <;> omega)) ?_
              refine laws_markWorkS.tm (fun i hi => hi) (laws_markWorkS.T (B := 2097152) (by decide) (by first | assumption | exact Ya.wide (by assumption)) (by omega) (by omega)) (fun y84 y85 hy83 => ?_)
              obtain ⟨ys87, et88, el89, en90, hh86⟩ := hy83
              simp only [] at en90 et88 hh86
              subst en90 et88
              refine Tm.guard (by first | omega | (simp only [deepRows_length]; assumption) | (simp only [lim, Za, Z6] at *; omega) | (simp only [lim, Z6] at *; refine ⟨?_, ?_, ?_, ?_⟩ <;> omega)) ?_
              refine Tm.ite (fun h91 => ?_) (fun h91 => ?_)
              · try simp only [bz0, bz1, bz2, bz3, bz4, bz5, bz6, bz7, bz8, bz9, bza] at h91
                exact Tm.ret (by first | rfl | (exfalso; omega) | (exfalso; simp at *))
              · try simp only [bz0, bz1, bz2, bz3, bz4, bz5, bz6, bz7, bz8, bz9, bza] at h91
                refine laws_eqIsle.tm (fun i hi => hi) (laws_eqIsle.T (by first | assumption | omega) (by first | assumption | omega) (by first | assumption | omega) (by first | assumption | omega)) (fun y93 hy92 => ?_)
                subst hy92
                refine Tm.ite (fun h94 => ?_) (fun h94 => ?_)
                · try simp only [bz0, bz1, bz2, bz3, bz4, bz5, bz6, bz7, bz8, bz9, bza] at h94
                  exact Tm.ret (by first | rfl | (exfalso; omega) | (exfalso; simp at *))
                · try simp only [bz0, bz1, bz2, bz3, bz4, bz5, bz6, bz7, bz8, bz9, bza] at h94
                  refine Tm.ite (fun h95 => ?_) (fun h95 => ?_)
                  · try simp only [bz0, bz1, bz2, bz3, bz4, bz5, bz6, bz7, bz8, bz9, bza] at h95
                    exact Tm.ret (by first | rfl | (exfalso; omega) | (exfalso; simp at *))
                  · try simp only [bz0, bz1, bz2, bz3, bz4, bz5, bz6, bz7, bz8, bz9, bza] at h95
                    refine laws_markIsle.tm (fun i hi => hi) (laws_markIsle.T (B := 2097152) (by decide) (by first | assumption | exact Ya.wide (by assumption)) (by first | assumption | exact RII.wide (by assumption)) (by omega) (by omega)) (fun y97 y98 y99 hy96 => ?_)
                    obtain ⟨ys101, ys102, en107, et103, et104, el105, el106, hh100⟩ := hy96
                    simp only [] at en107 et103 et104 hh100
                    subst en107 et103 et104
                    refine Tm.guard (by first | omega | (simp only [deepRows_length]; assumption) | (simp only [lim, Za, Z6] at *; omega) | (simp only [lim, Z6] at *; refine ⟨?_, ?_, ?_, ?_⟩ <;> omega)) ?_
                    refine Tm.guard (by first | omega | (simp only [deepRows_length]; assumption) | (simp only [lim, Za, Z6] at *; omega) | (simp only [lim, Z6] at *; refine ⟨?_, ?_, ?_, ?_⟩ <;> omega)) ?_
                    try simp only [ZF]
                    refine laws_heldIsle.tm (fun i hi => hi) (Tm.at (ok := (Zay 1)) (fun k hk => hh100 k hk)) (fun y109 hy108 => ?_)
                    subst hy108
                    refine Tm.ite (fun h110 => ?_) (fun h110 => ?_)
                    · try simp only [bz0, bz1, bz2, bz3, bz4, bz5, bz6, bz7, bz8, bz9, bza] at h110
                      exact Tm.ret (by first | rfl | (exfalso; omega) | (exfalso; simp at *))
                    · try simp only [bz0, bz1, bz2, bz3, bz4, bz5, bz6, bz7, bz8, bz9, bza] at h110
                      refine Tm.ite (fun h111 => ?_) (fun h111 => ?_)
                      · try simp only [bz0, bz1, bz2, bz3, bz4, bz5, bz6, bz7, bz8, bz9, bza] at h111
                        exact Tm.ret (by first | rfl | (exfalso; omega) | (exfalso; simp at *))
                      · try simp only [bz0, bz1, bz2, bz3, bz4, bz5, bz6, bz7, bz8, bz9, bza] at h111
                        refine laws_toIsle.tm (fun i hi => hi) (laws_toIsle.T (by first | assumption | omega) (by first | assumption | omega) (by first | assumption | omega)) (fun y113 y114 y115 y116 y117 hy112 => ?_)
                        try simp only [] at hy112
                        obtain ⟨rfl, rfl, rfl, rfl, rfl, _⟩ := hy112
                        try simp only [ZF]
                        refine laws_toWorkS.tm (fun i hi => hi) (laws_toWorkS.T (by first | assumption | omega)) (fun y119 hy118 => ?_)
                        try simp only [] at hy118
                        obtain ⟨rfl, _⟩ := hy118
                        try simp only [ZF]
                        refine impl_Obey.tm (fun i hi => hi) (Tm.at (ok := (Zay 1)) (v := (y26, y27, y28, Zs (C.immRows y29), Zs (C.immRows y30), y31)) (fun k hk => impl_Obey.same (by first | assumption | omega) (by first | assumption | omega) (by first | assumption | omega) (by first | assumption | omega) (by first | assumption | omega) (by first | assumption | omega) (by first | assumption | omega) (by first | assumption | omega) (by first | assumption | omega) hk ((hy25.2) k hk))) (fun y121 y122 y123 y124 y125 y126 hy120 => ?_)
                        simp only [Prod.mk.injEq] at hy120; obtain ⟨hy120e0, hy120e1, hy120e2, hy120e3, hy120e4, hy120e5⟩ := hy120; subst y121 y122 y123 y124 y125 y126
                        try simp only [ZF]
                        refine laws_eqIsle.tm (fun i hi => hi) (laws_eqIsle.T (by first | assumption | omega) (by first | assumption | omega) (by first | assumption | omega) (by first | assumption | omega)) (fun y128 hy127 => ?_)
                        subst hy127
                        refine Tm.ite (fun h129 => ?_) (fun h129 => ?_)
                        · try simp only [bz0, bz1, bz2, bz3, bz4, bz5, bz6, bz7, bz8, bz9, bza] at h129
                          exact Tm.ret (by first | rfl | (exfalso; omega) | (exfalso; simp at *))
                        · try simp only [bz0, bz1, bz2, bz3, bz4, bz5, bz6, bz7, bz8, bz9, bza] at h129
                          refine Tm.ite (fun h130 => ?_) (fun h130 => ?_)
                          · try simp only [bz0, bz1, bz2, bz3, bz4, bz5, bz6, bz7, bz8, bz9, bza] at h130
                            exact Tm.ret (by first | rfl | (exfalso; omega) | (exfalso; simp at *))
                          · try simp only [bz0, bz1, bz2, bz3, bz4, bz5, bz6, bz7, bz8, bz9, bza] at h130
                            try simp only [ZF]
                            refine laws_heldIsle.tm (fun i hi => hi) (Tm.at (ok := (Zay 1)) (fun k hk => hh100 k hk)) (fun y132 hy131 => ?_)
                            subst hy131
                            refine Tm.ite (fun h133 => ?_) (fun h133 => ?_)
                            · try simp only [bz0, bz1, bz2, bz3, bz4, bz5, bz6, bz7, bz8, bz9, bza] at h133
                              exact Tm.ret (by first | rfl | (exfalso; omega) | (exfalso; simp at *))
                            · try simp only [bz0, bz1, bz2, bz3, bz4, bz5, bz6, bz7, bz8, bz9, bza] at h133
                              refine Tm.ite (fun h134 => ?_) (fun h134 => ?_)
                              · try simp only [bz0, bz1, bz2, bz3, bz4, bz5, bz6, bz7, bz8, bz9, bza] at h134
                                exact Tm.ret (by first | rfl | (exfalso; omega) | (exfalso; simp at *))
                              · try simp only [bz0, bz1, bz2, bz3, bz4, bz5, bz6, bz7, bz8, bz9, bza] at h134
                                exact Tm.ret (by first | rfl | (exfalso; omega) | (exfalso; simp at *))
open Go.ChangeShapes Go.WideShapes Go.ChangeAt Go.RowKit
open Go.ChangeMaps (open_string shut_string)
theorem own : ownKnob Try.prog.godebug = none := by kernel_rfl
theorem laidOut : laidOutB Try.prog = true := by kernel_rfl
theorem goodS_9 {r : List D} (h : RowS Try.prog maxLen 9 r) : RS maxLen r := by
  have hh := h.open (show Zy Try.prog 6 9 = [9] from by kernel_rfl)
  obtain ⟨d0, l0, rfl, g0, hh0⟩ := Zr hh
  obtain ⟨c0, rfl, k0⟩ := Zbb (by kernel_rfl) g0
  obtain rfl := Za0 hh0
  exact ⟨c0, rfl, k0, trivial⟩
theorem goodISILSELXE_142_n (n : Nat) : ∀ r : List D, SizeOf.sizeOf r = n → RowS Try.prog maxLen 142 r → ∃ h, Yc maxLen h r := by
  induction n using Nat.strongRecOn with
  | ind n ih =>
  intro r hn h
  have hh := h.open (show Zy Try.prog 6 142 = [3, 9, 3, 25, 140] from by kernel_rfl)
  obtain ⟨d0, l0, rfl, g0, hh0⟩ := Zr hh
  obtain ⟨c0, rfl, k0⟩ := Zam (k := .i64) (by kernel_rfl) g0
  obtain ⟨d1, l1, rfl, g1, hh1⟩ := Zr hh0
  obtain ⟨c1, rfl, k1⟩ := Zbb (by kernel_rfl) g1
  obtain ⟨d2, l2, rfl, g2, hh2⟩ := Zr hh1
  obtain ⟨c2, rfl, k2⟩ := Zam (k := .i64) (by kernel_rfl) g2
  obtain ⟨d3, l3, rfl, g3, hh3⟩ := Zr hh2
  obtain ⟨c3, rfl, k3, m3⟩ := ZaH (e := 9) (by kernel_rfl) g3
  obtain ⟨d4, l4, rfl, g4, hh4⟩ := Zr hh3
  obtain ⟨c4, rfl, k4, m4⟩ := ZaH (e := 142) (by kernel_rfl) g4
  obtain rfl := Za0 hh4
  have hs : ∀ r' ∈ c4, SizeOf.sizeOf r' < n := fun r' hr => by have := List.sizeOf_lt_of_mem hr; simp at hn; omega
  obtain ⟨hq, q4⟩ := common (Q := Yc maxLen) (fun _ _ _ => Yc.mono) c4 fun r' hr => ih _ (hs r' hr) r' rfl (m4 r' hr)
  exact ⟨hq + 1, .mk c0 c1 c2 c3 c4 k0 k1 k2 ⟨k3, fun r hr => goodS_9 (m3 r hr)⟩ k4 q4⟩
theorem goodISILSELXE_142 {r : List D} (h : RowS Try.prog maxLen 142 r) : Yb maxLen r := by
  obtain ⟨h1, h2⟩ := goodISILSELXE_142_n _ r rfl h
  exact ⟨h1, fun hb => absurd (show (9223372036854775807 : Nat) ≤ 1099511627776 from hb) (by decide), h2⟩
theorem Ye {r : List D} (h : RowS Try.prog maxLen 144 r) : Ya maxLen r := by
  have hh := h.open (show Zy Try.prog 6 144 = [3, 3, 3, 9, 3, 25, 140] from by kernel_rfl)
  obtain ⟨d0, l0, rfl, g0, hh0⟩ := Zr hh
  obtain ⟨c0, rfl, k0⟩ := Zam (k := .i64) (by kernel_rfl) g0
  obtain ⟨d1, l1, rfl, g1, hh1⟩ := Zr hh0
  obtain ⟨c1, rfl, k1⟩ := Zam (k := .i64) (by kernel_rfl) g1
  obtain ⟨d2, l2, rfl, g2, hh2⟩ := Zr hh1
  obtain ⟨c2, rfl, k2⟩ := Zam (k := .i64) (by kernel_rfl) g2
  obtain ⟨d3, l3, rfl, g3, hh3⟩ := Zr hh2
  obtain ⟨c3, rfl, k3⟩ := Zbb (by kernel_rfl) g3
  obtain ⟨d4, l4, rfl, g4, hh4⟩ := Zr hh3
  obtain ⟨c4, rfl, k4⟩ := Zam (k := .i64) (by kernel_rfl) g4
  obtain ⟨d5, l5, rfl, g5, hh5⟩ := Zr hh4
  obtain ⟨c5, rfl, k5, m5⟩ := ZaH (e := 9) (by kernel_rfl) g5
  obtain ⟨d6, l6, rfl, g6, hh6⟩ := Zr hh5
  obtain ⟨c6, rfl, k6, m6⟩ := ZaH (e := 142) (by kernel_rfl) g6
  obtain rfl := Za0 hh6
  exact ⟨c0, c1, c2, c3, c4, c5, c6, rfl, k0, k1, k2, k3, k4, ⟨k5, fun r hr => goodS_9 (m5 r hr)⟩, ⟨k6, fun r hr => goodISILSELXE_142 (m6 r hr)⟩, trivial⟩
theorem goodII_245 {r : List D} (h : RowS Try.prog maxLen 245 r) : RII maxLen r := by
  have hh := h.open (show Zy Try.prog 6 245 = [3, 3] from by kernel_rfl)
  obtain ⟨d0, l0, rfl, g0, hh0⟩ := Zr hh
  obtain ⟨c0, rfl, k0⟩ := Zam (k := .i64) (by kernel_rfl) g0
  obtain ⟨d1, l1, rfl, g1, hh1⟩ := Zr hh0
  obtain ⟨c1, rfl, k1⟩ := Zam (k := .i64) (by kernel_rfl) g1
  obtain rfl := Za0 hh1
  exact ⟨c0, c1, rfl, k0, k1, trivial⟩
theorem types : lawTys Try.prog [144, 9, 142, 245] = true := by kernel_rfl
set_option maxRecDepth 100000 in
theorem lifted (os : Os) (started : os.Started) (H : Type) (enc : TypeId × Value → H) :
    ReturnsInHanded {} Try.checked os 6 .any (Rows.fnExactObeySpec.pre6 enc Try.prog Try.f6 Rows.fnExactObeyRow.domain false) (Rows.fnExactObeySpec.post enc Try.prog Try.f6 false true false false) := by
  refine returnsInHanded_of_change_sized (C := Try.checked) own started (by kernel_rfl) Try.func6
    (ChangeSpec.witness6 (enc := enc) (C := Try.checked) false ⟨#[], #[.agg #[.string ByteArray.empty, .int .i64 0, .int .i64 0, .slice none 0 0, .slice none 0 0], .int .i64 0, .slice none 0 0], []⟩ 8 (by kernel_rfl) (by kernel_rfl) (by kernel_rfl) (by kernel_rfl)) ?_
  intro W base args ds gs before hval0 hW hcnd hsz0 _
  have hval : ∀ (j : Nat) t v, Try.f6.params[j]? = some t → args[j]? = some v → Value.okWide Try.prog W .any base t v := hval0
  have hW' := hW
  obtain ⟨p, q, hA0, hV, rfl, hfz, hnd⟩ := hW
  have hA : DataW.TrodAll enc Try.prog W 0 (fun _ => true) true Try.f6.params.toList args.toList ds p := hA0
  have hpar : Try.f6.params = #[56, 3, 53] := by kernel_rfl
  rw [hpar] at hA hval
  obtain ⟨v0, vs0, d0, ds0, p0, q0, hargs, rfl, rfl, h0, r0⟩ := trodAll_cons hA
  obtain ⟨v1, vs1, d1, ds1, p1, q1, rfl, rfl, rfl, h1, r1⟩ := trodAll_cons r0
  obtain ⟨v2, vs2, d2, ds2, p2, q2, rfl, rfl, rfl, h2, r2⟩ := trodAll_cons r1
  obtain ⟨rfl, rfl, rfl⟩ := trodAll_nil r2
  obtain rfl : args = #[v0, v1, v2] := by cases args; simp_all
  obtain ⟨rfl, rfl⟩ := trodVars_none hV
  have k0 := h0
  have lt0 : ∀ x ∈ p0, x.block < W.heap.size := by obtain ⟨m, hm⟩ := k0; exact DataW.trod_lt m _ _ _ hm
  obtain ⟨cs0, xs0, rfl, hl0, hc0, hg0⟩ := open_agg types (by kernel_rfl) (by kernel_rfl) (hval 0 56 v0 rfl rfl) h0
  have hj0 := hg0.open (show Zy Try.prog 6 56 = [9, 3, 3, 53, 54] from by kernel_rfl)
  obtain ⟨ea0_0, la0_0, rfl, wa0_0, hj0_0⟩ := Zr hj0
  obtain ⟨a0_0, rfl, ka0_0⟩ := Zbb (by kernel_rfl) wa0_0
  obtain ⟨ea0_1, la0_1, rfl, wa0_1, hj0_1⟩ := Zr hj0_0
  obtain ⟨a0_1, rfl, ka0_1⟩ := Zam (k := .i64) (by kernel_rfl) wa0_1
  obtain ⟨ea0_2, la0_2, rfl, wa0_2, hj0_2⟩ := Zr hj0_1
  obtain ⟨a0_2, rfl, ka0_2⟩ := Zam (k := .i64) (by kernel_rfl) wa0_2
  obtain ⟨ea0_3, la0_3, rfl, wa0_3, hj0_3⟩ := Zr hj0_2
  obtain ⟨a0_3, rfl, ka0_3, ma0_3⟩ := ZaH (e := 144) (by kernel_rfl) wa0_3
  obtain ⟨ea0_4, la0_4, rfl, wa0_4, hj0_4⟩ := Zr hj0_3
  obtain ⟨a0_4, rfl, ka0_4, ma0_4⟩ := ZaH (e := 245) (by kernel_rfl) wa0_4
  obtain rfl := Za0 hj0_4
  have k1 := h1
  have lt1 : ∀ x ∈ p1, x.block < W.heap.size := by obtain ⟨m, hm⟩ := k1; exact DataW.trod_lt m _ _ _ hm
  obtain ⟨sv1, rfl, _⟩ := open_int (k := .i64) (by kernel_rfl) (hval 1 3 v1 rfl rfl) h1
  obtain ⟨ea1, hd1, wa1⟩ := open_cell types (by kernel_rfl) rfl (by kernel_rfl) h1
  obtain ⟨a1, rfl, ka1⟩ := Zam (k := .i64) (by kernel_rfl) wa1
  have k2 := h2
  have lt2 : ∀ x ∈ p2, x.block < W.heap.size := by obtain ⟨m, hm⟩ := k2; exact DataW.trod_lt m _ _ _ hm
  obtain ⟨sa2, sn2, sc2, rfl⟩ := okWide_slice (e := 144) (by kernel_rfl) (hval 2 53 v2 rfl rfl)
  obtain ⟨ea2, hd2, wa2⟩ := open_cell types (by kernel_rfl) rfl (by kernel_rfl) h2
  obtain ⟨a2, rfl, ka2, ma2⟩ := ZaH (e := 144) (by kernel_rfl) wa2
  clear hA0 hval0 hsz0
  obtain ⟨kb, hkb⟩ : ∃ k, lv 1 ≤ k := ⟨_, Nat.le_refl _⟩
  obtain ⟨z, rfl, hz⟩ := laws_FnExactObey.T ka0_0 ka0_1 ka0_2 ⟨ka0_3, fun r hr => Ye (ma0_3 r hr)⟩ ⟨ka0_4, fun r hr => goodII_245 (ma0_4 r hr)⟩ ka1 ⟨ka2, fun r hr => Ye (ma2 r hr)⟩
  refine (law_calls (laws_FnExactObey.ok kb) rfl rfl (by kernel_rfl) (aa := laws_FnExactObey.as a0_0 a0_1 a0_2 a0_3 a0_4 a1 a2) (vs := [.agg cs0.toArray, .int _ sv1, .slice sa2 sn2 sc2]) ?_ ⟨(), ?_⟩).mono fun e W' ⟨he, bel⟩ => ?_
  · exact (Zab.cons' ⟨rfl, cs0, rfl, hl0, hc0⟩ (Zab.cons' ⟨rfl, hd1⟩ (Zab.cons' ⟨rfl, hd2⟩ Zab.nil')))
  · show laws_FnExactObey.f kb a0_0 a0_1 a0_2 a0_3 a0_4 a1 a2 (laws_FnExactObey.kt a0_0 a0_1 a0_2 a0_3 a0_4 a1 a2 _) = some ()
    rw [laws_FnExactObey.f_of (hz kb hkb)]
    rfl
  · subst he
    exact ⟨_, rfl, _, _, _, [], _, [], hW', trodAll_mk1 (shut_bool (by kernel_rfl) _), (trodAll_cons_mk (Below.trod laidOut (by kernel_rfl) (of_decide_eq_true (by kernel_rfl)) k0 bel lt0) (trodAll_cons_mk (Below.trod laidOut (by kernel_rfl) (of_decide_eq_true (by kernel_rfl)) k1 bel lt1) (trodAll_cons_mk (Below.trod laidOut (by kernel_rfl) (of_decide_eq_true (by kernel_rfl)) k2 bel lt2) trodAll_mk0))), rfl, bel.frame _, fun h => by cases h⟩
theorem facts1 : joined1 Try.prog 6 Try.f6 Rows.fnExactObeySpec Rows.fnExactObeyRow = true := by kernel_rfl
theorem facts2 : joined2 Try.prog 6 Try.f6 Rows.fnExactObeySpec Rows.fnExactObeyRow = true := by kernel_rfl
theorem facts3 : joined3 Try.prog 6 Try.f6 Rows.fnExactObeySpec Rows.fnExactObeyRow = true := by kernel_rfl
theorem facts4 : joined4 Try.prog 6 Try.f6 Rows.fnExactObeySpec Rows.fnExactObeyRow = true := by kernel_rfl
theorem facts5 : joined5 Try.prog 6 Try.f6 Rows.fnExactObeySpec Rows.fnExactObeyRow = true := by kernel_rfl
theorem facts6 : joined6 Try.prog 6 Try.f6 Rows.fnExactObeySpec Rows.fnExactObeyRow = true := by kernel_rfl
theorem facts7 : joined7 Try.prog 6 Try.f6 Rows.fnExactObeySpec Rows.fnExactObeyRow = true := by kernel_rfl
theorem facts8 : joined8 Try.prog 6 Try.f6 Rows.fnExactObeySpec Rows.fnExactObeyRow = true := by kernel_rfl
theorem over : Rows.fnExactObeyRow.holds Try.pinned (OpenSpec.ofChange Rows.fnExactObeySpec) :=
  OpenClaim.holds_of_wide 6 Try.f6 rfl rfl rfl rfl rfl rfl rfl ⟨rfl, rfl, rfl, rfl, rfl⟩ rfl rfl rfl rfl rfl (by kernel_rfl) Try.func6 (joined_of facts1 facts2 facts3 facts4 facts5 facts6 facts7 facts8)
    (of_decide_eq_true (by kernel_rfl)) (by unfold Func.isWrapper; first | (rw [if_pos (by decide +kernel)]; kernel_rfl) | (rw [if_neg (by decide +kernel)]; exact ⟨rfl, rfl⟩))
    (fun os started H enc _ => lifted os started H enc)
theorem fnExactObey_holds : Rows.FnExactObeySaid := over
end Go.Proofs.Ytljkbknnnpjmgaa
