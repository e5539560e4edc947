/- FnExactSince: the program's function answers as the reference's, for every input. No condition. -/
import Derived.Test.YtppfencdbabmeaaRows
import Derived.Test.YtppfencdbabmeaaYESince1
import Derived.KernelRfl
import Derived.WalkKit
import Derived.ProofKit
import Derived.OpenShut
import Derived.ShutString
import Derived.ChangeOld
import Derived.Below
import Derived.SizedLaws
set_option linter.unusedVariables false
set_option linter.unusedSimpArgs false
namespace Go.Proofs.Ytppfencdbabmeaa
open Go Go.T Go.Proofs
set_option maxRecDepth 100000 in
set_option maxHeartbeats 8000000 in
theorem YI.T {B : Nat} (hB : B ≤ 1099511627776) {xs : List (List D)} {n : Int} (g : Zi Yb B xs) (h0 : 0 ≤ n) (h1 : n + Zp xs ≤ 4611686018427387904) : Tm (ZF 1) (fun k => YI.t k (Zb xs) n) (fun z => ∃ ys, z.2 = Zb ys ∧ ys.length = xs.length ∧ z.1 = n + Zp xs ∧ ∀ k, (ZF 1) k → (ZF 1) k) := by
  have hb : big = 2 ^ 64 := rfl
  have hl := g.1
  have key : Tm (ZF 1) (fun k => YI.t k (Zb xs) n) (fun z => ∃ ys, z.2 = Zb ys ∧ ys.length = xs.length ∧ z.1 = n + Zp xs ∧ ZbX (fun _ _ _ => True) n ys z.1) := by
    unfold YI.t YI.g
    refine Tm.loop (okk := (ZF 1)) (p := fun k => k) (fun i hi => up0 hi) (b := fun k => YI.l0 k (fun z0 z1 => some (z0, z1))) (fun v => match v with | (u, i, tab) => ((xs.length : Int) - i).toNat) (fun v => match v with | (u, i, tab) => 0 ≤ i ∧ i ≤ xs.length ∧ ∃ done : List (List D), done.length = i.toNat ∧ tab = Zb done ++ Zb (xs.drop i.toNat) ∧ u = n + Zp (xs.take i.toNat) ∧ ZbX (fun _ _ _ => True) n done u) ?_ ?_ ?_
    · rintro ⟨u, i, tab⟩ hI
      simp only [] at hI ⊢
      omega
    · exact ⟨by omega, by omega, [], rfl, by simp [Zb], by simp [Zp], .nil⟩
    · rintro ⟨u, i, tab⟩ hI L hL
      simp only [] at hI
      obtain ⟨i0, i1, done, hd, rfl, hu, hH⟩ := hI
      have hA : (Zb done).length = i.toNat := by rw [Zw, hd]
      have hT : (Zb done ++ Zb (xs.drop i.toNat)).length = xs.length := by rw [List.length_append, hA, Zw, List.length_drop]; omega
      simp only [YI.l0]
      refine Tm.ite (fun h4 => ?_) (fun h4 => ?_)
      · simp only [decide_eq_true_eq, hT] at h4
        have hx := gR_at i0 h4
        obtain ⟨c0, c1, c2, c3, c4, c5, c6, c7, c8, c9, c10, c11, c12, c13, c14, c15, c16, e, k0, k1, k2, k3, k4, k6, k7, k8, k9, k10, k11, k12, k13, k14, k15, k16, _⟩ := (g.2 _ (gR_mem i0 h4)).open
        rw [e] at hx
        have hdr := drop_at i0 hx
        have hw := wt_take i0 hx
        simp only [ZbG, wtD] at hw
        have hs := wt_split xs (i + 1).toNat
        rw [hdr] at hT ⊢
        simp only [Zb, ZZ, ZbW] at hT ⊢
        have hT2 := hT
        simp only [List.length_append, List.length_cons] at hT2
        refine Tm.guard (by first | decide | (simp only [List.length_modify, List.length_append, List.length_cons]; omega)) ?_
        refine Tm.guard (by first | decide | (simp only [List.length_modify, List.length_append, List.length_cons]; omega)) ?_
        try simp (disch := omega) only [Zj]
        refine Ye.tm (fun i hi => up0 hi.1) (Tm.at (ok := Z3) (v := Ye.v _) (fun k hk => Ye.tv (by omega) hk)) (fun y hy => ?_)
        subst hy
        refine Tm.guard (by first | decide | (simp only [List.length_modify, List.length_append, List.length_cons]; omega)) ?_
        refine Tm.guard (by first | decide | (simp only [List.length_modify, List.length_append, List.length_cons]; omega)) ?_
        refine Tm.guard (by first | decide | (simp only [List.length_modify, List.length_append, List.length_cons]; omega)) ?_
        refine Tm.guard (by first | decide | (simp only [List.length_modify, List.length_append, List.length_cons]; omega)) ?_
        refine Tm.guard (by first | decide | (simp only [List.length_modify, List.length_append, List.length_cons]; omega)) ?_
        refine Tm.guard (by first | decide | (simp only [List.length_modify, List.length_append, List.length_cons]; omega)) ?_
        refine Tm.guard (by first | decide | (simp only [List.length_modify, List.length_append, List.length_cons]; omega)) ?_
        refine Tm.guard (by first | decide | (simp only [List.length_modify, List.length_append, List.length_cons]; omega)) ?_
        refine Tm.guard (by first | decide | (simp only [List.length_modify, List.length_append, List.length_cons]; omega)) ?_
        refine Tm.guard (by first | decide | (simp only [List.length_modify, List.length_append, List.length_cons]; omega)) ?_
        refine Tm.guard (by first | decide | (simp only [List.length_modify, List.length_append, List.length_cons]; omega)) ?_
        refine Tm.guard (by first | decide | (simp only [List.length_modify, List.length_append, List.length_cons]; omega)) ?_
        try simp only [Zaf hA, ZaV hA, Zq, List.take_zero, List.take_succ_cons, List.drop_succ_cons, List.drop_zero, List.nil_append, List.cons_append, List.length_cons, List.length_nil, Nat.zero_add, Nat.reduceAdd, List.set_cons_succ, List.set_cons_zero]
        refine Tm.uncons ?_
        refine Tm.cOwn ?_
        try simp (disch := omega) only [Zj]
        refine Yj.tm (fun i hi => up0 hi.1) (Yj.T hB k6 (by omega) (by omega)) (fun y6 t6 hy => ?_)
        obtain ⟨ys6, et6, el6, en6, hh6⟩ := hy
        simp only [] at et6 en6 hh6
        subst et6 en6
        refine Tm.guard (by first | decide | (simp only [List.length_modify, List.length_append, List.length_cons]; omega)) ?_
        refine Tm.guard (by first | decide | (simp only [List.length_modify, List.length_append, List.length_cons]; omega)) ?_
        try simp (disch := omega) only [Zj]
        refine Ye.tm (fun i hi => up0 hi.1) (Tm.at (ok := Z3) (v := Ye.v _) (fun k hk => Ye.tv (by omega) hk)) (fun y hy => ?_)
        subst hy
        refine Tm.guard (by first | decide | (simp only [List.length_modify, List.length_append, List.length_cons]; omega)) ?_
        refine Tm.guard (by first | decide | (simp only [List.length_modify, List.length_append, List.length_cons]; omega)) ?_
        refine Tm.guard (by first | decide | (simp only [List.length_modify, List.length_append, List.length_cons]; omega)) ?_
        refine Tm.guard (by first | decide | (simp only [List.length_modify, List.length_append, List.length_cons]; omega)) ?_
        refine Tm.guard (by first | decide | (simp only [List.length_modify, List.length_append, List.length_cons]; omega)) ?_
        try simp only [Zaf hA, ZaV hA, Zq, List.take_zero, List.take_succ_cons, List.drop_succ_cons, List.drop_zero, List.nil_append, List.cons_append, List.length_cons, List.length_nil, Nat.zero_add, Nat.reduceAdd, List.set_cons_succ, List.set_cons_zero]
        refine Tm.uncons ?_
        refine Tm.cOwn ?_
        try simp (disch := omega) only [Zj]
        refine Yj.tm (fun i hi => up0 hi.1) (Yj.T hB k10 (by omega) (by omega)) (fun y10 t10 hy => ?_)
        obtain ⟨ys10, et10, el10, en10, hh10⟩ := hy
        simp only [] at et10 en10 hh10
        subst et10 en10
        refine Tm.guard (by first | decide | (simp only [List.length_modify, List.length_append, List.length_cons]; omega)) ?_
        try simp only [Zaf hA, ZaV hA, Zq, List.take_zero, List.take_succ_cons, List.drop_succ_cons, List.drop_zero, List.nil_append, List.cons_append, List.length_cons, List.length_nil, Nat.zero_add, Nat.reduceAdd, List.set_cons_succ, List.set_cons_zero]
        refine Tm.uncons ?_
        refine Tm.cOwn ?_
        try simp (disch := omega) only [Zj]
        refine Yg.tm (fun i hi => hi.1) (Yg.T hB k11 (by omega) (by omega)) (fun y11 t11 hy => ?_)
        obtain ⟨ys11, et11, el11, en11, hh11⟩ := hy
        simp only [] at et11 en11 hh11
        subst et11 en11
        refine Tm.guard (by first | decide | (simp only [List.length_modify, List.length_append, List.length_cons]; omega)) ?_
        refine Tm.guard (by first | decide | (simp only [List.length_modify, List.length_append, List.length_cons]; omega)) ?_
        try simp (disch := omega) only [Zj]
        refine Ye.tm (fun i hi => up0 hi.1) (Tm.at (ok := Z3) (v := Ye.v _) (fun k hk => Ye.tv (by omega) hk)) (fun y hy => ?_)
        subst hy
        refine Tm.guard (by first | decide | (simp only [List.length_modify, List.length_append, List.length_cons]; omega)) ?_
        refine Tm.guard (by first | decide | (simp only [List.length_modify, List.length_append, List.length_cons]; omega)) ?_
        refine Tm.guard (by first | decide | (simp only [List.length_modify, List.length_append, List.length_cons]; omega)) ?_
        refine Tm.guard (by first | decide | (simp only [List.length_modify, List.length_append, List.length_cons]; omega)) ?_
        refine Tm.guard (by first | decide | (simp only [List.length_modify, List.length_append, List.length_cons]; omega)) ?_
        try simp only [Zaf hA, ZaV hA, Zq, List.take_zero, List.take_succ_cons, List.drop_succ_cons, List.drop_zero, List.nil_append, List.cons_append, List.length_cons, List.length_nil, Nat.zero_add, Nat.reduceAdd, List.set_cons_succ, List.set_cons_zero]
        refine Tm.uncons ?_
        refine Tm.cOwn ?_
        try simp (disch := omega) only [Zj]
        refine Yj.tm (fun i hi => up0 hi.1) (Yj.T hB k15 (by omega) (by omega)) (fun y15 t15 hy => ?_)
        obtain ⟨ys15, et15, el15, en15, hh15⟩ := hy
        simp only [] at et15 en15 hh15
        subst et15 en15
        refine Tm.guard (by first | decide | (simp only [List.length_modify, List.length_append, List.length_cons]; omega)) ?_
        try simp only [Zaf hA, ZaV hA, Zq, List.take_zero, List.take_succ_cons, List.drop_succ_cons, List.drop_zero, List.nil_append, List.cons_append, List.length_cons, List.length_nil, Nat.zero_add, Nat.reduceAdd, List.set_cons_succ, List.set_cons_zero]
        refine Tm.uncons ?_
        refine Tm.cOwn ?_
        try simp (disch := omega) only [Zj]
        refine Yg.tm (fun i hi => hi.1) (Yg.T hB k16 (by omega) (by omega)) (fun y16 t16 hy => ?_)
        obtain ⟨ys16, et16, el16, en16, hh16⟩ := hy
        simp only [] at et16 en16 hh16
        subst et16 en16
        try simp (disch := omega) only [Zj]
        try simp only [Zaf hA, Zq, List.take_zero, List.take_succ_cons, List.drop_succ_cons, List.drop_zero, List.nil_append, List.cons_append, List.length_cons, List.length_nil, Nat.zero_add, Nat.reduceAdd, List.set_cons_succ, List.set_cons_zero]
        refine hL (_, _, _) ⟨by omega, by omega, done ++ [[.int .i64 (u), .str (Ye.v (u + 1)), .int .i64 (u + 1 + 1), .int .i64 (u + 1 + 1 + 1), .int .i64 (u + 1 + 1 + 1 + 1), .bool (Int.tmod (u + 1 + 1 + 1 + 1 + 1) 3 == 0), .sl ys6, .int .i64 (u + 1 + 1 + 1 + 1 + 1 + 1 + (Zp c6 : Int)), .str (Ye.v (u + 1 + 1 + 1 + 1 + 1 + 1 + (Zp c6 : Int) + 1)), .int .i64 (u + 1 + 1 + 1 + 1 + 1 + 1 + (Zp c6 : Int) + 1 + 1), .sl ys10, .sl ys11, .int .i64 (u + 1 + 1 + 1 + 1 + 1 + 1 + (Zp c6 : Int) + 1 + 1 + 1 + (Zp c10 : Int) + (Zp c11 : Int)), .str (Ye.v (u + 1 + 1 + 1 + 1 + 1 + 1 + (Zp c6 : Int) + 1 + 1 + 1 + (Zp c10 : Int) + (Zp c11 : Int) + 1)), .int .i64 (u + 1 + 1 + 1 + 1 + 1 + 1 + (Zp c6 : Int) + 1 + 1 + 1 + (Zp c10 : Int) + (Zp c11 : Int) + 1 + 1), .sl ys15, .sl ys16]], by simp only [List.length_append, List.length_cons, List.length_nil]; omega, ?_, by omega, ZbX.snoc hH trivial⟩ (by simp only []; omega)
        rw [Zai]
        simp only [Zb, ZZ, ZbW, List.append_assoc, List.cons_append, List.nil_append]
      · simp only [decide_eq_false_iff_not, hT] at h4
        refine Tm.ret ⟨done, ?_, by omega, ?_, hH⟩
        · rw [List.drop_eq_nil_of_le (by omega)]
          simp only [Zb, List.append_nil]
        · rw [List.take_of_length_le (by omega)] at hu
          exact hu
  obtain ⟨v, ⟨ys, e1, e2, e3, hH⟩, h2⟩ := key
  exact ⟨v, ⟨ys, e1, e2, e3, fun k hk => hk⟩, h2⟩
set_option maxRecDepth 100000 in
set_option maxHeartbeats 8000000 in
theorem Yaa.T {B : Nat} (hB : B ≤ 1099511627776) {c1 c2 : Int} {a0 a3 : List (List D)} {n : Int} (g0 : Zi Yb B a0) (g3 : Zi Ya B a3) (h0 : 0 ≤ n) (h1 : n + Zp a0 + Zp a3 ≤ 4611686018427387904) : Tm (ZF 1) (fun k => Yaa.t k (Zb a0) c1 c2 (Zb a3) n) (fun z => ∃ ys0 ys3, z.1 = n + Zp a0 + Zp a3 ∧ z.2.1 = Zb ys0 ∧ z.2.2 = Zb ys3 ∧ ys0.length = a0.length ∧ ys3.length = a3.length ∧ ∀ k, (ZF 1) k → (ZF 1) k) := by
  unfold Yaa.t Yaa.g
  refine YI.tm (fun i hi => hi) (YI.T hB g0 (by omega) (by omega)) (fun y0 t0 hy => ?_)
  obtain ⟨ys0, et0, el0, en0, hh0⟩ := hy
  simp only [] at et0 en0 hh0
  subst et0 en0
  try refine Tm.guard (by rw [Zw, Zw]; exact el0) ?_
  refine Yu.tm (fun i hi => hi) (Yu.T hB g3 (by omega) (by omega)) (fun y3 t3 hy => ?_)
  obtain ⟨ys3, et3, el3, en3, hh3⟩ := hy
  simp only [] at et3 en3 hh3
  subst et3 en3
  try refine Tm.guard (by rw [Zw, Zw]; exact el3) ?_
  exact Tm.ret ⟨ys0, ys3, rfl, rfl, rfl, el0, el3, fun k hk => hk⟩
theorem Yaf.T {aC : List (List D)} {aB aD : Int} {aA : List (List D)} {a1 : Int} (ga0_0 : Zi Yb maxLen aC) (ga0_1 : (Lit.int .i64 aB).wf = true) (ga0_2 : (Lit.int .i64 aD).wf = true) (ga0_3 : Zi Ya maxLen aA) (ga1 : (Lit.int .i64 a1).wf = true) : Tm (ZF 1) (fun k => Yaf.t k aC aB aD aA a1) (fun r => r = true) := by
  unfold Yaf.t Yaf.g
  have hm := Zy
  have hlim : lim = 1048576 := rfl
  refine Yal.tm (fun i hi => hi) (Yal.T (by first | assumption | omega) (by first | assumption | omega) (by first | assumption | omega) (by first | assumption | omega)) (fun y2 hy1 => ?_)
  rcases hy1 with hy1 | ⟨p6, p7, q3, q4, q5, _⟩
  · exact Tm.ite (fun _ => Tm.ret (by rfl)) (fun h => by simp at h; omega)
  refine Tm.ite (fun h8 => ?_) (fun h8 => ?_)
  · try simp only [bz0, bz1, bz2, bz3, bz4, bz5, bz6, bz7, bz8, bz9, bza] at h8
    exact Tm.ret (by first | rfl | (exfalso; omega) | (exfalso; simp [Zu] at *))
  · try simp only [bz0, bz1, bz2, bz3, bz4, bz5, bz6, bz7, bz8, bz9, bza] at h8
    refine Y3.tm (fun i hi => hi) (Y3.T (by first | assumption | omega) (by first | assumption | omega)) (fun y10 y11 y12 y13 hy9 => ?_)
    try simp only [] at hy9
    obtain ⟨rfl, rfl, rfl, rfl, _⟩ := hy9
    try simp only [ZO]
    refine Y0.tm (fun i hi => hi) (Tm.self (Y0.T (by first | assumption | omega) (by first | assumption | omega) (by first | assumption | omega) (by first | assumption | omega) (by first | assumption | omega) (by first | assumption | omega) (by first | assumption | omega))) (fun y15 y16 hy14 => ?_)
    have hf17 := hy14.1
    try simp only [] at hf17
    obtain ⟨q18, q19, _⟩ := hf17
    refine Y3.tm (fun i hi => hi) (Y3.T (by first | assumption | omega) (by first | assumption | omega)) (fun y21 y22 y23 y24 hy20 => ?_)
    try simp only [] at hy20
    obtain ⟨rfl, rfl, rfl, rfl, _⟩ := hy20
    try simp only [ZO]
    refine Yai.tm (fun i hi => hi) (Tm.at (ok := (ZF 1)) (v := (Zb (C.immRows y15), y16)) (fun k hk => Yai.same (by first | assumption | omega) (by first | assumption | omega) (by first | assumption | omega) (by first | assumption | omega) (by first | assumption | omega) (by first | assumption | omega) (by first | assumption | omega) hk ((hy14.2) k hk))) (fun y26 y27 hy25 => ?_)
    simp only [Prod.mk.injEq] at hy25; obtain ⟨hy25e0, hy25e1⟩ := hy25; subst y26 y27
    try simp only [ZO]
    refine Yx.tm (fun i hi => hi) (Yx.T (by first | assumption | omega) (by first | assumption | omega)) (fun y29 hy28 => ?_)
    subst hy28
    refine Tm.ite (fun h30 => ?_) (fun h30 => ?_)
    · try simp only [bz0, bz1, bz2, bz3, bz4, bz5, bz6, bz7, bz8, bz9, bza] at h30
      exact Tm.ret (by first | rfl | (exfalso; omega) | (exfalso; simp [Zu] at *))
    · try simp only [bz0, bz1, bz2, bz3, bz4, bz5, bz6, bz7, bz8, bz9, bza] at h30
      refine Tm.ite (fun h31 => ?_) (fun h31 => ?_)
      · try simp only [bz0, bz1, bz2, bz3, bz4, bz5, bz6, bz7, bz8, bz9, bza] at h31
        exact Tm.ret (by first | rfl | (exfalso; omega) | (exfalso; simp [Zu] at *))
      · try simp only [bz0, bz1, bz2, bz3, bz4, bz5, bz6, bz7, bz8, bz9, bza] at h31
        refine Y3.tm (fun i hi => hi) (Y3.T (by first | assumption | omega) (by first | assumption | omega)) (fun y33 y34 y35 y36 hy32 => ?_)
        try simp only [] at hy32
        obtain ⟨rfl, rfl, rfl, rfl, _⟩ := hy32
        try simp only [ZO]
        refine Yam.tm (fun i hi => hi) (Yam.T (by first | assumption | omega) (by first | assumption | omega) (by first | assumption | omega)) (fun y38 hy37 => ?_)
        subst hy37
        refine Tm.ite (fun h39 => ?_) (fun h39 => ?_)
        · try simp only [bz0, bz1, bz2, bz3, bz4, bz5, bz6, bz7, bz8, bz9, bza] at h39
          exact Tm.ret (by first | rfl | (exfalso; omega) | (exfalso; simp [Zu] at *))
        · try simp only [bz0, bz1, bz2, bz3, bz4, bz5, bz6, bz7, bz8, bz9, bza] at h39
          refine Yaa.tm (fun i hi => hi) (Yaa.T (B := 2097152) (by decide) (by first | assumption | exact Yb.wide (by assumption)) (by first | assumption | exact Ya.wide (by assumption)) (by omega) (by omega)) (fun y41 y42 y43 hy40 => ?_)
          obtain ⟨ys45, ys46, en51, et47, et48, el49, el50, hh44⟩ := hy40
          simp only [] at en51 et47 et48 hh44
          subst en51 et47 et48
          refine Tm.guard (by first | omega | (simp only [Zw]; assumption) | (simp only [lim, Zy, ZN] at *; omega) | (simp only [lim, ZN] at *; refine ⟨?_, ?_, ?_, ?_⟩ <;> omega)) ?_
          refine Tm.guard (by first | omega | (simp only [Zw]; assumption) | (simp only [lim, Zy, ZN] at *; omega) | (simp only [lim, ZN] at *; refine ⟨?_, ?_, ?_, ?_⟩ <;> omega)) ?_
          refine Tm.ite (fun h52 => ?_) (fun h52 => ?_)
          · try simp only [bz0, bz1, bz2, bz3, bz4, bz5, bz6, bz7, bz8, bz9, bza] at h52
            exact Tm.ret (by first | rfl | (exfalso; omega) | (exfalso; simp [Zu] at *))
          · try simp only [bz0, bz1, bz2, bz3, bz4, bz5, bz6, bz7, bz8, bz9, bza] at h52
            refine Yx.tm (fun i hi => hi) (Yx.T (by first | assumption | omega) (by first | assumption | omega)) (fun y54 hy53 => ?_)
            subst hy53
            refine Tm.ite (fun h55 => ?_) (fun h55 => ?_)
            · try simp only [bz0, bz1, bz2, bz3, bz4, bz5, bz6, bz7, bz8, bz9, bza] at h55
              exact Tm.ret (by first | rfl | (exfalso; omega) | (exfalso; simp [Zu] at *))
            · try simp only [bz0, bz1, bz2, bz3, bz4, bz5, bz6, bz7, bz8, bz9, bza] at h55
              refine Tm.ite (fun h56 => ?_) (fun h56 => ?_)
              · try simp only [bz0, bz1, bz2, bz3, bz4, bz5, bz6, bz7, bz8, bz9, bza] at h56
                exact Tm.ret (by first | rfl | (exfalso; omega) | (exfalso; simp [Zu] at *))
              · try simp only [bz0, bz1, bz2, bz3, bz4, bz5, bz6, bz7, bz8, bz9, bza] at h56
                refine Yu.tm (fun i hi => hi) (Yu.T (B := 2097152) (by decide) (by first | assumption | exact Ya.wide (by assumption)) (by omega) (by omega)) (fun y58 y59 hy57 => ?_)
                obtain ⟨ys61, et62, el63, en64, hh60⟩ := hy57
                simp only [] at en64 et62 hh60
                subst en64 et62
                refine Tm.guard (by first | omega | (simp only [Zw]; assumption) | (simp only [lim, Zy, ZN] at *; omega) | (simp only [lim, ZN] at *; refine ⟨?_, ?_, ?_, ?_⟩ <;> omega)) ?_
                try simp only [ZO]
                refine Yv.tm (fun i hi => hi) (Tm.at (ok := (ZF 1)) (fun k hk => hh60 k hk)) (fun y66 hy65 => ?_)
                subst hy65
                refine Tm.ite (fun h67 => ?_) (fun h67 => ?_)
                · try simp only [bz0, bz1, bz2, bz3, bz4, bz5, bz6, bz7, bz8, bz9, bza] at h67
                  exact Tm.ret (by first | rfl | (exfalso; omega) | (exfalso; simp [Zu] at *))
                · try simp only [bz0, bz1, bz2, bz3, bz4, bz5, bz6, bz7, bz8, bz9, bza] at h67
                  refine Tm.ite (fun h68 => ?_) (fun h68 => ?_)
                  · try simp only [bz0, bz1, bz2, bz3, bz4, bz5, bz6, bz7, bz8, bz9, bza] at h68
                    exact Tm.ret (by first | rfl | (exfalso; omega) | (exfalso; simp [Zu] at *))
                  · try simp only [bz0, bz1, bz2, bz3, bz4, bz5, bz6, bz7, bz8, bz9, bza] at h68
                    refine Y3.tm (fun i hi => hi) (Y3.T (by first | assumption | omega) (by first | assumption | omega)) (fun y70 y71 y72 y73 hy69 => ?_)
                    try simp only [] at hy69
                    obtain ⟨rfl, rfl, rfl, rfl, _⟩ := hy69
                    try simp only [ZO]
                    refine Yai.tm (fun i hi => hi) (Tm.at (ok := (ZF 1)) (v := (Zb (C.immRows y15), y16)) (fun k hk => Yai.same (by first | assumption | omega) (by first | assumption | omega) (by first | assumption | omega) (by first | assumption | omega) (by first | assumption | omega) (by first | assumption | omega) (by first | assumption | omega) hk ((hy14.2) k hk))) (fun y75 y76 hy74 => ?_)
                    simp only [Prod.mk.injEq] at hy74; obtain ⟨hy74e0, hy74e1⟩ := hy74; subst y75 y76
                    try simp only [ZO]
                    refine Yx.tm (fun i hi => hi) (Yx.T (by first | assumption | omega) (by first | assumption | omega)) (fun y78 hy77 => ?_)
                    subst hy77
                    refine Tm.ite (fun h79 => ?_) (fun h79 => ?_)
                    · try simp only [bz0, bz1, bz2, bz3, bz4, bz5, bz6, bz7, bz8, bz9, bza] at h79
                      exact Tm.ret (by first | rfl | (exfalso; omega) | (exfalso; simp [Zu] at *))
                    · try simp only [bz0, bz1, bz2, bz3, bz4, bz5, bz6, bz7, bz8, bz9, bza] at h79
                      refine Tm.ite (fun h80 => ?_) (fun h80 => ?_)
                      · try simp only [bz0, bz1, bz2, bz3, bz4, bz5, bz6, bz7, bz8, bz9, bza] at h80
                        exact Tm.ret (by first | rfl | (exfalso; omega) | (exfalso; simp [Zu] at *))
                      · try simp only [bz0, bz1, bz2, bz3, bz4, bz5, bz6, bz7, bz8, bz9, bza] at h80
                        try simp only [ZO]
                        refine Yv.tm (fun i hi => hi) (Tm.at (ok := (ZF 1)) (fun k hk => hh60 k hk)) (fun y82 hy81 => ?_)
                        subst hy81
                        refine Tm.ite (fun h83 => ?_) (fun h83 => ?_)
                        · try simp only [bz0, bz1, bz2, bz3, bz4, bz5, bz6, bz7, bz8, bz9, bza] at h83
                          exact Tm.ret (by first | rfl | (exfalso; omega) | (exfalso; simp [Zu] at *))
                        · try simp only [bz0, bz1, bz2, bz3, bz4, bz5, bz6, bz7, bz8, bz9, bza] at h83
                          refine Tm.ite (fun h84 => ?_) (fun h84 => ?_)
                          · try simp only [bz0, bz1, bz2, bz3, bz4, bz5, bz6, bz7, bz8, bz9, bza] at h84
                            exact Tm.ret (by first | rfl | (exfalso; omega) | (exfalso; simp [Zu] at *))
                          · try simp only [bz0, bz1, bz2, bz3, bz4, bz5, bz6, bz7, bz8, bz9, bza] at h84
                            exact Tm.ret (by first | rfl | (exfalso; omega) | (exfalso; simp [Zu] at *))
open Go.ChangeShapes Go.WideShapes Go.ChangeAt Go.RowKit
open Go.ChangeMaps (open_string shut_string)
theorem own : ownKnob Try.prog.godebug = none := by kernel_rfl
theorem laidOut : laidOutB Try.prog = true := by kernel_rfl
theorem goodS_9 {r : List D} (h : RowS Try.prog maxLen 9 r) : RS maxLen r := by
  have hh := h.open (show ZC Try.prog 6 9 = [9] from by kernel_rfl)
  obtain ⟨d0, l0, rfl, g0, hh0⟩ := goodR_cons hh
  obtain ⟨c0, rfl, k0⟩ := good_str (by kernel_rfl) g0
  obtain rfl := goodR_nil hh0
  exact ⟨c0, rfl, k0, trivial⟩
theorem goodISILSELXE_140_n (n : Nat) : ∀ r : List D, SizeOf.sizeOf r = n → RowS Try.prog maxLen 140 r → ∃ h, YW maxLen h r := by
  induction n using Nat.strongRecOn with
  | ind n ih =>
  intro r hn h
  have hh := h.open (show ZC Try.prog 6 140 = [3, 9, 3, 74, 138] from by kernel_rfl)
  obtain ⟨d0, l0, rfl, g0, hh0⟩ := goodR_cons hh
  obtain ⟨c0, rfl, k0⟩ := good_int (k := .i64) (by kernel_rfl) g0
  obtain ⟨d1, l1, rfl, g1, hh1⟩ := goodR_cons hh0
  obtain ⟨c1, rfl, k1⟩ := good_str (by kernel_rfl) g1
  obtain ⟨d2, l2, rfl, g2, hh2⟩ := goodR_cons hh1
  obtain ⟨c2, rfl, k2⟩ := good_int (k := .i64) (by kernel_rfl) g2
  obtain ⟨d3, l3, rfl, g3, hh3⟩ := goodR_cons hh2
  obtain ⟨c3, rfl, k3, m3⟩ := good_sl (e := 9) (by kernel_rfl) g3
  obtain ⟨d4, l4, rfl, g4, hh4⟩ := goodR_cons hh3
  obtain ⟨c4, rfl, k4, m4⟩ := good_sl (e := 140) (by kernel_rfl) g4
  obtain rfl := goodR_nil hh4
  have hs : ∀ r' ∈ c4, SizeOf.sizeOf r' < n := fun r' hr => by have := List.sizeOf_lt_of_mem hr; simp at hn; omega
  obtain ⟨hq, q4⟩ := common (Q := YW maxLen) (fun _ _ _ => YW.mono) c4 fun r' hr => ih _ (hs r' hr) r' rfl (m4 r' hr)
  exact ⟨hq + 1, .mk c0 c1 c2 c3 c4 k0 k1 k2 ⟨k3, fun r hr => goodS_9 (m3 r hr)⟩ k4 q4⟩
theorem Yau {r : List D} (h : RowS Try.prog maxLen 140 r) : Yp maxLen r := by
  obtain ⟨h1, h2⟩ := goodISILSELXE_140_n _ r rfl h
  exact ⟨h1, fun hb => absurd (show (9223372036854775807 : Nat) ≤ 1099511627776 from hb) (by decide), h2⟩
theorem Yat {r : List D} (h : RowS Try.prog maxLen 142 r) : Yb maxLen r := by
  have hh := h.open (show ZC Try.prog 6 142 = [3, 9, 3, 3, 3, 4, 74, 3, 9, 3, 74, 138, 3, 9, 3, 74, 138] from by kernel_rfl)
  obtain ⟨d0, l0, rfl, g0, hh0⟩ := goodR_cons hh
  obtain ⟨c0, rfl, k0⟩ := good_int (k := .i64) (by kernel_rfl) g0
  obtain ⟨d1, l1, rfl, g1, hh1⟩ := goodR_cons hh0
  obtain ⟨c1, rfl, k1⟩ := good_str (by kernel_rfl) g1
  obtain ⟨d2, l2, rfl, g2, hh2⟩ := goodR_cons hh1
  obtain ⟨c2, rfl, k2⟩ := good_int (k := .i64) (by kernel_rfl) g2
  obtain ⟨d3, l3, rfl, g3, hh3⟩ := goodR_cons hh2
  obtain ⟨c3, rfl, k3⟩ := good_int (k := .i64) (by kernel_rfl) g3
  obtain ⟨d4, l4, rfl, g4, hh4⟩ := goodR_cons hh3
  obtain ⟨c4, rfl, k4⟩ := good_int (k := .i64) (by kernel_rfl) g4
  obtain ⟨d5, l5, rfl, g5, hh5⟩ := goodR_cons hh4
  obtain ⟨c5, rfl⟩ := good_bool (by kernel_rfl) g5
  obtain ⟨d6, l6, rfl, g6, hh6⟩ := goodR_cons hh5
  obtain ⟨c6, rfl, k6, m6⟩ := good_sl (e := 9) (by kernel_rfl) g6
  obtain ⟨d7, l7, rfl, g7, hh7⟩ := goodR_cons hh6
  obtain ⟨c7, rfl, k7⟩ := good_int (k := .i64) (by kernel_rfl) g7
  obtain ⟨d8, l8, rfl, g8, hh8⟩ := goodR_cons hh7
  obtain ⟨c8, rfl, k8⟩ := good_str (by kernel_rfl) g8
  obtain ⟨d9, l9, rfl, g9, hh9⟩ := goodR_cons hh8
  obtain ⟨c9, rfl, k9⟩ := good_int (k := .i64) (by kernel_rfl) g9
  obtain ⟨d10, l10, rfl, g10, hh10⟩ := goodR_cons hh9
  obtain ⟨c10, rfl, k10, m10⟩ := good_sl (e := 9) (by kernel_rfl) g10
  obtain ⟨d11, l11, rfl, g11, hh11⟩ := goodR_cons hh10
  obtain ⟨c11, rfl, k11, m11⟩ := good_sl (e := 140) (by kernel_rfl) g11
  obtain ⟨d12, l12, rfl, g12, hh12⟩ := goodR_cons hh11
  obtain ⟨c12, rfl, k12⟩ := good_int (k := .i64) (by kernel_rfl) g12
  obtain ⟨d13, l13, rfl, g13, hh13⟩ := goodR_cons hh12
  obtain ⟨c13, rfl, k13⟩ := good_str (by kernel_rfl) g13
  obtain ⟨d14, l14, rfl, g14, hh14⟩ := goodR_cons hh13
  obtain ⟨c14, rfl, k14⟩ := good_int (k := .i64) (by kernel_rfl) g14
  obtain ⟨d15, l15, rfl, g15, hh15⟩ := goodR_cons hh14
  obtain ⟨c15, rfl, k15, m15⟩ := good_sl (e := 9) (by kernel_rfl) g15
  obtain ⟨d16, l16, rfl, g16, hh16⟩ := goodR_cons hh15
  obtain ⟨c16, rfl, k16, m16⟩ := good_sl (e := 140) (by kernel_rfl) g16
  obtain rfl := goodR_nil hh16
  exact ⟨c0, c1, c2, c3, c4, c5, c6, c7, c8, c9, c10, c11, c12, c13, c14, c15, c16, rfl, k0, k1, k2, k3, k4, ⟨k6, fun r hr => goodS_9 (m6 r hr)⟩, k7, k8, k9, ⟨k10, fun r hr => goodS_9 (m10 r hr)⟩, ⟨k11, fun r hr => Yau (m11 r hr)⟩, k12, k13, k14, ⟨k15, fun r hr => goodS_9 (m15 r hr)⟩, ⟨k16, fun r hr => Yau (m16 r hr)⟩, trivial⟩
theorem Yas {r : List D} (h : RowS Try.prog maxLen 144 r) : Ya maxLen r := by
  have hh := h.open (show ZC Try.prog 6 144 = [3, 4, 3, 9, 3, 3, 3, 4, 74, 3, 9, 3, 74, 138, 3, 9, 3, 74, 138] from by kernel_rfl)
  obtain ⟨d0, l0, rfl, g0, hh0⟩ := goodR_cons hh
  obtain ⟨c0, rfl, k0⟩ := good_int (k := .i64) (by kernel_rfl) g0
  obtain ⟨d1, l1, rfl, g1, hh1⟩ := goodR_cons hh0
  obtain ⟨c1, rfl⟩ := good_bool (by kernel_rfl) g1
  obtain ⟨d2, l2, rfl, g2, hh2⟩ := goodR_cons hh1
  obtain ⟨c2, rfl, k2⟩ := good_int (k := .i64) (by kernel_rfl) g2
  obtain ⟨d3, l3, rfl, g3, hh3⟩ := goodR_cons hh2
  obtain ⟨c3, rfl, k3⟩ := good_str (by kernel_rfl) g3
  obtain ⟨d4, l4, rfl, g4, hh4⟩ := goodR_cons hh3
  obtain ⟨c4, rfl, k4⟩ := good_int (k := .i64) (by kernel_rfl) g4
  obtain ⟨d5, l5, rfl, g5, hh5⟩ := goodR_cons hh4
  obtain ⟨c5, rfl, k5⟩ := good_int (k := .i64) (by kernel_rfl) g5
  obtain ⟨d6, l6, rfl, g6, hh6⟩ := goodR_cons hh5
  obtain ⟨c6, rfl, k6⟩ := good_int (k := .i64) (by kernel_rfl) g6
  obtain ⟨d7, l7, rfl, g7, hh7⟩ := goodR_cons hh6
  obtain ⟨c7, rfl⟩ := good_bool (by kernel_rfl) g7
  obtain ⟨d8, l8, rfl, g8, hh8⟩ := goodR_cons hh7
  obtain ⟨c8, rfl, k8, m8⟩ := good_sl (e := 9) (by kernel_rfl) g8
  obtain ⟨d9, l9, rfl, g9, hh9⟩ := goodR_cons hh8
  obtain ⟨c9, rfl, k9⟩ := good_int (k := .i64) (by kernel_rfl) g9
  obtain ⟨d10, l10, rfl, g10, hh10⟩ := goodR_cons hh9
  obtain ⟨c10, rfl, k10⟩ := good_str (by kernel_rfl) g10
  obtain ⟨d11, l11, rfl, g11, hh11⟩ := goodR_cons hh10
  obtain ⟨c11, rfl, k11⟩ := good_int (k := .i64) (by kernel_rfl) g11
  obtain ⟨d12, l12, rfl, g12, hh12⟩ := goodR_cons hh11
  obtain ⟨c12, rfl, k12, m12⟩ := good_sl (e := 9) (by kernel_rfl) g12
  obtain ⟨d13, l13, rfl, g13, hh13⟩ := goodR_cons hh12
  obtain ⟨c13, rfl, k13, m13⟩ := good_sl (e := 140) (by kernel_rfl) g13
  obtain ⟨d14, l14, rfl, g14, hh14⟩ := goodR_cons hh13
  obtain ⟨c14, rfl, k14⟩ := good_int (k := .i64) (by kernel_rfl) g14
  obtain ⟨d15, l15, rfl, g15, hh15⟩ := goodR_cons hh14
  obtain ⟨c15, rfl, k15⟩ := good_str (by kernel_rfl) g15
  obtain ⟨d16, l16, rfl, g16, hh16⟩ := goodR_cons hh15
  obtain ⟨c16, rfl, k16⟩ := good_int (k := .i64) (by kernel_rfl) g16
  obtain ⟨d17, l17, rfl, g17, hh17⟩ := goodR_cons hh16
  obtain ⟨c17, rfl, k17, m17⟩ := good_sl (e := 9) (by kernel_rfl) g17
  obtain ⟨d18, l18, rfl, g18, hh18⟩ := goodR_cons hh17
  obtain ⟨c18, rfl, k18, m18⟩ := good_sl (e := 140) (by kernel_rfl) g18
  obtain rfl := goodR_nil hh18
  exact ⟨c0, c1, c2, c3, c4, c5, c6, c7, c8, c9, c10, c11, c12, c13, c14, c15, c16, c17, c18, rfl, k0, k2, k3, k4, k5, k6, ⟨k8, fun r hr => goodS_9 (m8 r hr)⟩, k9, k10, k11, ⟨k12, fun r hr => goodS_9 (m12 r hr)⟩, ⟨k13, fun r hr => Yau (m13 r hr)⟩, k14, k15, k16, ⟨k17, fun r hr => goodS_9 (m17 r hr)⟩, ⟨k18, fun r hr => Yau (m18 r hr)⟩, trivial⟩
theorem types : lawTys Try.prog [142, 9, 140, 144] = true := by kernel_rfl
set_option maxRecDepth 100000 in
theorem lifted (os : Os) (started : os.Started) (H : Type) (enc : TypeId × Value → H) :
    ReturnsInHanded {} Try.checked os 3 .any (Rows.fnExactSinceSpec.pre6 enc Try.prog Try.f3 Rows.fnExactSinceRow.domain false) (Rows.fnExactSinceSpec.post enc Try.prog Try.f3 false true false false) := by
  refine returnsInHanded_of_change_sized (C := Try.checked) own started (by kernel_rfl) Try.func3
    (ChangeSpec.witness6 (enc := enc) (C := Try.checked) false ⟨#[], #[.agg #[.slice none 0 0, .int .i64 0, .int .i64 0, .slice none 0 0], .int .i64 0], []⟩ 8 (by kernel_rfl) (by kernel_rfl) (by kernel_rfl) (by kernel_rfl)) ?_
  intro W base args ds gs before hval0 hW hcnd hsz0 _
  have hval : ∀ (j : Nat) t v, Try.f3.params[j]? = some t → args[j]? = some v → Value.okWide Try.prog W .any base t v := hval0
  have hW' := hW
  obtain ⟨p, q, hA0, hV, rfl, hfz, hnd⟩ := hW
  have hA : DataW.TrodAll enc Try.prog W 0 (fun _ => true) true Try.f3.params.toList args.toList ds p := hA0
  have hpar : Try.f3.params = #[25, 3] := by kernel_rfl
  rw [hpar] at hA hval
  obtain ⟨v0, vs0, d0, ds0, p0, q0, hargs, rfl, rfl, h0, r0⟩ := trodAll_cons hA
  obtain ⟨v1, vs1, d1, ds1, p1, q1, rfl, rfl, rfl, h1, r1⟩ := trodAll_cons r0
  obtain ⟨rfl, rfl, rfl⟩ := trodAll_nil r1
  obtain rfl : args = #[v0, v1] := by cases args; simp_all
  obtain ⟨rfl, rfl⟩ := trodVars_none hV
  have k0 := h0
  have lt0 : ∀ x ∈ p0, x.block < W.heap.size := by obtain ⟨m, hm⟩ := k0; exact DataW.trod_lt m _ _ _ hm
  obtain ⟨cs0, xs0, rfl, hl0, hc0, hg0⟩ := open_agg types (by kernel_rfl) (by kernel_rfl) (hval 0 25 v0 rfl rfl) h0
  have hj0 := hg0.open (show ZC Try.prog 6 25 = [22, 3, 3, 23] from by kernel_rfl)
  obtain ⟨ea0_0, la0_0, rfl, wa0_0, hj0_0⟩ := goodR_cons hj0
  obtain ⟨aC, rfl, ka0_0, ma0_0⟩ := good_sl (e := 142) (by kernel_rfl) wa0_0
  obtain ⟨ea0_1, la0_1, rfl, wa0_1, hj0_1⟩ := goodR_cons hj0_0
  obtain ⟨aB, rfl, ka0_1⟩ := good_int (k := .i64) (by kernel_rfl) wa0_1
  obtain ⟨ea0_2, la0_2, rfl, wa0_2, hj0_2⟩ := goodR_cons hj0_1
  obtain ⟨aD, rfl, ka0_2⟩ := good_int (k := .i64) (by kernel_rfl) wa0_2
  obtain ⟨ea0_3, la0_3, rfl, wa0_3, hj0_3⟩ := goodR_cons hj0_2
  obtain ⟨aA, rfl, ka0_3, ma0_3⟩ := good_sl (e := 144) (by kernel_rfl) wa0_3
  obtain rfl := goodR_nil hj0_3
  have k1 := h1
  have lt1 : ∀ x ∈ p1, x.block < W.heap.size := by obtain ⟨m, hm⟩ := k1; exact DataW.trod_lt m _ _ _ hm
  obtain ⟨sv1, rfl, _⟩ := open_int (k := .i64) (by kernel_rfl) (hval 1 3 v1 rfl rfl) h1
  obtain ⟨ea1, hd1, wa1⟩ := open_cell types (by kernel_rfl) rfl (by kernel_rfl) h1
  obtain ⟨a1, rfl, ka1⟩ := good_int (k := .i64) (by kernel_rfl) wa1
  clear hA0 hval0 hsz0
  obtain ⟨kb, hkb⟩ : ∃ k, lv 1 ≤ k := ⟨_, Nat.le_refl _⟩
  obtain ⟨z, rfl, hz⟩ := Yaf.T ⟨ka0_0, fun r hr => Yat (ma0_0 r hr)⟩ ka0_1 ka0_2 ⟨ka0_3, fun r hr => Yas (ma0_3 r hr)⟩ ka1
  refine (law_calls (Yaf.ok kb) rfl rfl (by kernel_rfl) (aa := [.agg [.sl aC, .int .i64 aB, .int .i64 aD, .sl aA], .d (.int .i64 a1)]) (vs := [.agg cs0.toArray, .int _ sv1]) ?_ ⟨(), ?_⟩).mono fun e W' ⟨he, bel⟩ => ?_
  · exact (ZU.cons' ⟨rfl, cs0, rfl, hl0, hc0⟩ (ZU.cons' ⟨rfl, hd1⟩ ZU.nil'))
  · exact (ent_run (Yaf.e kb) rfl (congrArg some (hz kb hkb)) rfl)
  · subst he
    exact ⟨_, rfl, _, _, _, [], _, [], hW', trodAll_mk1 (shut_bool (by kernel_rfl) _), (trodAll_cons_mk (Below.trod laidOut (by kernel_rfl) (of_decide_eq_true (by kernel_rfl)) k0 bel lt0) (trodAll_cons_mk (Below.trod laidOut (by kernel_rfl) (of_decide_eq_true (by kernel_rfl)) k1 bel lt1) trodAll_mk0)), rfl, bel.frame _, fun h => by cases h⟩
theorem facts1 : joined1 Try.prog 3 Try.f3 Rows.fnExactSinceSpec Rows.fnExactSinceRow = true := by kernel_rfl
theorem facts2 : joined2 Try.prog 3 Try.f3 Rows.fnExactSinceSpec Rows.fnExactSinceRow = true := by kernel_rfl
theorem facts3 : joined3 Try.prog 3 Try.f3 Rows.fnExactSinceSpec Rows.fnExactSinceRow = true := by kernel_rfl
theorem facts4 : joined4 Try.prog 3 Try.f3 Rows.fnExactSinceSpec Rows.fnExactSinceRow = true := by kernel_rfl
theorem facts5 : joined5 Try.prog 3 Try.f3 Rows.fnExactSinceSpec Rows.fnExactSinceRow = true := by kernel_rfl
theorem facts6 : joined6 Try.prog 3 Try.f3 Rows.fnExactSinceSpec Rows.fnExactSinceRow = true := by kernel_rfl
theorem facts7 : joined7 Try.prog 3 Try.f3 Rows.fnExactSinceSpec Rows.fnExactSinceRow = true := by kernel_rfl
theorem facts8 : joined8 Try.prog 3 Try.f3 Rows.fnExactSinceSpec Rows.fnExactSinceRow = true := by kernel_rfl
theorem over : Rows.fnExactSinceRow.holds Try.pinned (OpenSpec.ofChange Rows.fnExactSinceSpec) :=
  OpenClaim.holds_of_wide 3 Try.f3 rfl rfl rfl rfl rfl rfl rfl ⟨rfl, rfl, rfl, rfl, rfl⟩ rfl rfl rfl rfl rfl (by kernel_rfl) Try.func3 (joined_of facts1 facts2 facts3 facts4 facts5 facts6 facts7 facts8)
    (of_decide_eq_true (by kernel_rfl)) (by unfold Func.isWrapper; first | (rw [if_pos (by decide +kernel)]; kernel_rfl) | (rw [if_neg (by decide +kernel)]; exact ⟨rfl, rfl⟩))
    (fun os started H enc _ => lifted os started H enc)
theorem fnExactSince_holds : Rows.FnExactSinceSaid := over
end Go.Proofs.Ytppfencdbabmeaa
