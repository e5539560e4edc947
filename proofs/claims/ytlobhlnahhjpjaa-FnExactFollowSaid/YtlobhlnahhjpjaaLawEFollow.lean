/- FnExactFollow: the program's function answers as the reference's, for every input. No condition. -/
import Derived.Test.YtlobhlnahhjpjaaRows
import Derived.Test.YtlobhlnahhjpjaaYEFollow1
import Derived.KernelRfl
import Derived.WalkKit
import Derived.ProofKit
import Derived.OpenShut
import Derived.ShutString
import Derived.ChangeOld
import Derived.Below
import Derived.SizedLaws
set_option linter.unusedVariables false
set_option linter.unusedSimpArgs false
namespace Go.Proofs.Ytlobhlnahhjpjaa
open Go Go.T Go.Proofs
set_option maxRecDepth 100000 in
set_option maxHeartbeats 8000000 in
theorem Yx.T {B : Nat} (hB : B ≤ 1099511627776) {xs : LD} {n : Int} (g : Zi Yb B xs) (h0 : 0 ≤ n) (h1 : n + Zp xs ≤ 4611686018427387904) : Tm (ZF 1) (fun k => Yx.t k (Zb xs) n) (fun z => ∃ ys, z.2 = Zb ys ∧ ys.length = xs.length ∧ z.1 = n + Zp xs ∧ ∀ k, (ZF 1) k → (ZF 1) k) := by
 have hb : big = 2 ^ 64 := rfl
 have hl := g.1
 have key : Tm (ZF 1) (fun k => Yx.t k (Zb xs) n) (fun z => ∃ ys, z.2 = Zb ys ∧ ys.length = xs.length ∧ z.1 = n + Zp xs ∧ ZbX (fun _ _ _ => True) n ys z.1) := by
  unfold Yx.t Yx.g
  refine Tm.loop (okk := (ZF 1)) (p := fun k => k) (fun i hi => up0 hi) (b := fun k => Yx.l0 k (fun z0 z1 => some (z0, z1))) (fun v => match v with | (u, i, tab) => ((xs.length : Int) - i).toNat) (fun v => match v with | (u, i, tab) => 0 ≤ i ∧ i ≤ xs.length ∧ ∃ done : LD, done.length = i.toNat ∧ tab = Zb done ++ Zb (xs.drop i.toNat) ∧ u = n + Zp (xs.take i.toNat) ∧ ZbX (fun _ _ _ => True) n done u) ?_ ?_ ?_
  ·rintro ⟨u, i, tab⟩ hI
   simp only [] at hI ⊢
   omega
  ·exact ⟨by omega, by omega, [], rfl, by simp [Zb], by simp [Zp], .nil⟩
  ·rintro ⟨u, i, tab⟩ hI L hL
   simp only [] at hI
   obtain ⟨i0, i1, done, hd, rfl, hu, hH⟩ := hI
   have hA : (Zb done).length = i.toNat := by rw [Zw, hd]
   have hT : (Zb done ++ Zb (xs.drop i.toNat)).length = xs.length := by rw [List.length_append, hA, Zw, List.length_drop]; omega
   simp only [Yx.l0]
   refine Tm.ite (fun h4 => ?_) (fun h4 => ?_)
   ·simp only [decide_eq_true_eq, hT] at h4
    have hx := gR_at i0 h4
    obtain ⟨c0, c1, c2, c3, c4, c5, c6, c7, c8, c9, c10, c11, c12, c13, c14, c15, c16, c17, c18, e, k0, k2, k3, k4, k5, k6, k8, k9, k10, k11, k12, k13, k14, k15, k16, k17, k18, _⟩ := (g.2 _ (gR_mem i0 h4)).open
    rw [e] at hx
    have hdr := drop_at i0 hx
    have hw := wt_take i0 hx
    simp only [ZbG, wtD] at hw
    have hs := wt_split xs (i + 1).toNat
    rw [hdr] at hT ⊢
    simp only [Zb, ZZ, ZbW] at hT ⊢
    have hT2 := hT
    simp only [List.length_append, List.length_cons] at hT2
    refine Tm.guard (by first | decide | (simp only [List.length_modify, List.length_append, List.length_cons]; omega)) ?_
    refine Tm.guard (by first | decide | (simp only [List.length_modify, List.length_append, List.length_cons]; omega)) ?_
    refine Tm.guard (by first | decide | (simp only [List.length_modify, List.length_append, List.length_cons]; omega)) ?_
    refine Tm.guard (by first | decide | (simp only [List.length_modify, List.length_append, List.length_cons]; omega)) ?_
    refine Tm.guard (by first | decide | (simp only [List.length_modify, List.length_append, List.length_cons]; omega)) ?_
    refine Tm.guard (by first | decide | (simp only [List.length_modify, List.length_append, List.length_cons]; omega)) ?_
    refine Tm.guard (by first | decide | (simp only [List.length_modify, List.length_append, List.length_cons]; omega)) ?_
    try simp (disch := omega) only [Zj]
    refine Yf.tm (fun i hi => up0 hi.1) (Tm.at (ok := Z3) (v := Yf.v _) (fun k hk => Yf.tv (by omega) hk)) (fun y hy => ?_)
    subst hy
    refine Tm.guard (by first | decide | (simp only [List.length_modify, List.length_append, List.length_cons]; omega)) ?_
    refine Tm.guard (by first | decide | (simp only [List.length_modify, List.length_append, List.length_cons]; omega)) ?_
    refine Tm.guard (by first | decide | (simp only [List.length_modify, List.length_append, List.length_cons]; omega)) ?_
    refine Tm.guard (by first | decide | (simp only [List.length_modify, List.length_append, List.length_cons]; omega)) ?_
    refine Tm.guard (by first | decide | (simp only [List.length_modify, List.length_append, List.length_cons]; omega)) ?_
    refine Tm.guard (by first | decide | (simp only [List.length_modify, List.length_append, List.length_cons]; omega)) ?_
    refine Tm.guard (by first | decide | (simp only [List.length_modify, List.length_append, List.length_cons]; omega)) ?_
    refine Tm.guard (by first | decide | (simp only [List.length_modify, List.length_append, List.length_cons]; omega)) ?_
    refine Tm.guard (by first | decide | (simp only [List.length_modify, List.length_append, List.length_cons]; omega)) ?_
    refine Tm.guard (by first | decide | (simp only [List.length_modify, List.length_append, List.length_cons]; omega)) ?_
    refine Tm.guard (by first | decide | (simp only [List.length_modify, List.length_append, List.length_cons]; omega)) ?_
    refine Tm.guard (by first | decide | (simp only [List.length_modify, List.length_append, List.length_cons]; omega)) ?_
    try simp only [Zaf hA, ZaV hA, Zq, List.take_zero, List.take_succ_cons, List.drop_succ_cons, List.drop_zero, List.nil_append, List.cons_append, List.length_cons, List.length_nil, Nat.zero_add, Nat.reduceAdd, List.set_cons_succ, List.set_cons_zero]
    refine Tm.uncons ?_
    refine Tm.cOwn ?_
    try simp (disch := omega) only [Zj]
    refine Yj.tm (fun i hi => up0 hi.1) (Yj.T hB k8 (by omega) (by omega)) (fun y8 t8 hy => ?_)
    obtain ⟨ys8, et8, el8, en8, hh8⟩ := hy
    simp only [] at et8 en8 hh8
    subst et8 en8
    refine Tm.guard (by first | decide | (simp only [List.length_modify, List.length_append, List.length_cons]; omega)) ?_
    refine Tm.guard (by first | decide | (simp only [List.length_modify, List.length_append, List.length_cons]; omega)) ?_
    try simp (disch := omega) only [Zj]
    refine Yf.tm (fun i hi => up0 hi.1) (Tm.at (ok := Z3) (v := Yf.v _) (fun k hk => Yf.tv (by omega) hk)) (fun y hy => ?_)
    subst hy
    refine Tm.guard (by first | decide | (simp only [List.length_modify, List.length_append, List.length_cons]; omega)) ?_
    refine Tm.guard (by first | decide | (simp only [List.length_modify, List.length_append, List.length_cons]; omega)) ?_
    refine Tm.guard (by first | decide | (simp only [List.length_modify, List.length_append, List.length_cons]; omega)) ?_
    refine Tm.guard (by first | decide | (simp only [List.length_modify, List.length_append, List.length_cons]; omega)) ?_
    refine Tm.guard (by first | decide | (simp only [List.length_modify, List.length_append, List.length_cons]; omega)) ?_
    try simp only [Zaf hA, ZaV hA, Zq, List.take_zero, List.take_succ_cons, List.drop_succ_cons, List.drop_zero, List.nil_append, List.cons_append, List.length_cons, List.length_nil, Nat.zero_add, Nat.reduceAdd, List.set_cons_succ, List.set_cons_zero]
    refine Tm.uncons ?_
    refine Tm.cOwn ?_
    try simp (disch := omega) only [Zj]
    refine Yj.tm (fun i hi => up0 hi.1) (Yj.T hB k12 (by omega) (by omega)) (fun y12 t12 hy => ?_)
    obtain ⟨ys12, et12, el12, en12, hh12⟩ := hy
    simp only [] at et12 en12 hh12
    subst et12 en12
    refine Tm.guard (by first | decide | (simp only [List.length_modify, List.length_append, List.length_cons]; omega)) ?_
    try simp only [Zaf hA, ZaV hA, Zq, List.take_zero, List.take_succ_cons, List.drop_succ_cons, List.drop_zero, List.nil_append, List.cons_append, List.length_cons, List.length_nil, Nat.zero_add, Nat.reduceAdd, List.set_cons_succ, List.set_cons_zero]
    refine Tm.uncons ?_
    refine Tm.cOwn ?_
    try simp (disch := omega) only [Zj]
    refine Yg.tm (fun i hi => hi.1) (Yg.T hB k13 (by omega) (by omega)) (fun y13 t13 hy => ?_)
    obtain ⟨ys13, et13, el13, en13, hh13⟩ := hy
    simp only [] at et13 en13 hh13
    subst et13 en13
    refine Tm.guard (by first | decide | (simp only [List.length_modify, List.length_append, List.length_cons]; omega)) ?_
    refine Tm.guard (by first | decide | (simp only [List.length_modify, List.length_append, List.length_cons]; omega)) ?_
    try simp (disch := omega) only [Zj]
    refine Yf.tm (fun i hi => up0 hi.1) (Tm.at (ok := Z3) (v := Yf.v _) (fun k hk => Yf.tv (by omega) hk)) (fun y hy => ?_)
    subst hy
    refine Tm.guard (by first | decide | (simp only [List.length_modify, List.length_append, List.length_cons]; omega)) ?_
    refine Tm.guard (by first | decide | (simp only [List.length_modify, List.length_append, List.length_cons]; omega)) ?_
    refine Tm.guard (by first | decide | (simp only [List.length_modify, List.length_append, List.length_cons]; omega)) ?_
    refine Tm.guard (by first | decide | (simp only [List.length_modify, List.length_append, List.length_cons]; omega)) ?_
    refine Tm.guard (by first | decide | (simp only [List.length_modify, List.length_append, List.length_cons]; omega)) ?_
    try simp only [Zaf hA, ZaV hA, Zq, List.take_zero, List.take_succ_cons, List.drop_succ_cons, List.drop_zero, List.nil_append, List.cons_append, List.length_cons, List.length_nil, Nat.zero_add, Nat.reduceAdd, List.set_cons_succ, List.set_cons_zero]
    refine Tm.uncons ?_
    refine Tm.cOwn ?_
    try simp (disch := omega) only [Zj]
    refine Yj.tm (fun i hi => up0 hi.1) (Yj.T hB k17 (by omega) (by omega)) (fun y17 t17 hy => ?_)
    obtain ⟨ys17, et17, el17, en17, hh17⟩ := hy
    simp only [] at et17 en17 hh17
    subst et17 en17
    refine Tm.guard (by first | decide | (simp only [List.length_modify, List.length_append, List.length_cons]; omega)) ?_
    try simp only [Zaf hA, ZaV hA, Zq, List.take_zero, List.take_succ_cons, List.drop_succ_cons, List.drop_zero, List.nil_append, List.cons_append, List.length_cons, List.length_nil, Nat.zero_add, Nat.reduceAdd, List.set_cons_succ, List.set_cons_zero]
    refine Tm.uncons ?_
    refine Tm.cOwn ?_
    try simp (disch := omega) only [Zj]
    refine Yg.tm (fun i hi => hi.1) (Yg.T hB k18 (by omega) (by omega)) (fun y18 t18 hy => ?_)
    obtain ⟨ys18, et18, el18, en18, hh18⟩ := hy
    simp only [] at et18 en18 hh18
    subst et18 en18
    try simp (disch := omega) only [Zj]
    try simp only [Zaf hA, Zq, List.take_zero, List.take_succ_cons, List.drop_succ_cons, List.drop_zero, List.nil_append, List.cons_append, List.length_cons, List.length_nil, Nat.zero_add, Nat.reduceAdd, List.set_cons_succ, List.set_cons_zero]
    refine hL (_, _, _) ⟨by omega, by omega, done ++ [[.int .i64 (u), .bool (Int.tmod (u + 1) 3 == 0), .int .i64 (u + 1 + 1), .str (Yf.v (u + 1 + 1 + 1)), .int .i64 (u + 1 + 1 + 1 + 1), .int .i64 (u + 1 + 1 + 1 + 1 + 1), .int .i64 (u + 1 + 1 + 1 + 1 + 1 + 1), .bool (Int.tmod (u + 1 + 1 + 1 + 1 + 1 + 1 + 1) 3 == 0), .sl ys8, .int .i64 (u + 1 + 1 + 1 + 1 + 1 + 1 + 1 + 1 + (Zp c8 : Int)), .str (Yf.v (u + 1 + 1 + 1 + 1 + 1 + 1 + 1 + 1 + (Zp c8 : Int) + 1)), .int .i64 (u + 1 + 1 + 1 + 1 + 1 + 1 + 1 + 1 + (Zp c8 : Int) + 1 + 1), .sl ys12, .sl ys13, .int .i64 (u + 1 + 1 + 1 + 1 + 1 + 1 + 1 + 1 + (Zp c8 : Int) + 1 + 1 + 1 + (Zp c12 : Int) + (Zp c13 : Int)), .str (Yf.v (u + 1 + 1 + 1 + 1 + 1 + 1 + 1 + 1 + (Zp c8 : Int) + 1 + 1 + 1 + (Zp c12 : Int) + (Zp c13 : Int) + 1)), .int .i64 (u + 1 + 1 + 1 + 1 + 1 + 1 + 1 + 1 + (Zp c8 : Int) + 1 + 1 + 1 + (Zp c12 : Int) + (Zp c13 : Int) + 1 + 1), .sl ys17, .sl ys18]], by simp only [List.length_append, List.length_cons, List.length_nil]; omega, ?_, by omega, ZbX.snoc hH trivial⟩ (by simp only []; omega)
    rw [Zai]
    simp only [Zb, ZZ, ZbW, List.append_assoc, List.cons_append, List.nil_append]
   ·simp only [decide_eq_false_iff_not, hT] at h4
    refine Tm.ret ⟨done, ?_, by omega, ?_, hH⟩
    ·rw [List.drop_eq_nil_of_le (by omega)]
     simp only [Zb, List.append_nil]
    ·rw [List.take_of_length_le (by omega)] at hu
     exact hu
 obtain ⟨v, ⟨ys, e1, e2, e3, hH⟩, h2⟩ := key
 exact ⟨v, ⟨ys, e1, e2, e3, fun k hk => hk⟩, h2⟩
theorem Yap.T {aB : Int} {aA a1 : LD} (ga0_0 : (Lit.int .i64 aB).wf = true) (ga0_1 : Zi Ya maxLen aA) (ga1 : Zi Yb maxLen a1) : Tm (ZF 1) (fun k => Yap.t k aB aA a1) (fun r => r = true) := by
 unfold Yap.t Yap.g
 have hm := Zy
 have hlim : lim = 1048576 := rfl
 refine Yal.tm (fun i hi => hi) (Yal.T (by first | assumption | omega) (by first | assumption | omega) (by first | assumption | omega)) (fun y2 hy1 => ?_)
 rcases hy1 with hy1 | ⟨p5, p6, q3, q4, _⟩
 ·exact Tm.ite (fun _ => Tm.ret (by rfl)) (fun h => by simp at h; omega)
 refine Tm.ite (fun h7 => ?_) (fun h7 => ?_)
 ·try simp only [bz0, bz1, bz2, bz3, bz4, bz5, bz6, bz7, bz8, bz9, bza] at h7
  exact Tm.ret (by first | rfl | (exfalso; omega) | (exfalso; simp [Zu] at *))
 ·try simp only [bz0, bz1, bz2, bz3, bz4, bz5, bz6, bz7, bz8, bz9, bza] at h7
  refine YE.tm (fun i hi => hi) (YE.T (by first | assumption | omega) (by first | assumption | omega) (by first | assumption | omega)) (fun y9 hy8 => ?_)
  rcases hy8 with hy8 | ⟨p12, p13, q10, q11, _⟩
  ·exact Tm.ite (fun _ => Tm.ret (by rfl)) (fun h => by simp at h; omega)
  refine Tm.ite (fun h14 => ?_) (fun h14 => ?_)
  ·try simp only [bz0, bz1, bz2, bz3, bz4, bz5, bz6, bz7, bz8, bz9, bza] at h14
   exact Tm.ret (by first | rfl | (exfalso; omega) | (exfalso; simp [Zu] at *))
  ·try simp only [bz0, bz1, bz2, bz3, bz4, bz5, bz6, bz7, bz8, bz9, bza] at h14
   refine Y5.tm (fun i hi => hi) (Y5.T (by first | assumption | omega)) (fun y16 y17 hy15 => ?_)
   try simp only [] at hy15
   obtain ⟨rfl, rfl, _⟩ := hy15
   try simp only [ZO]
   refine Yv.tm (fun i hi => hi) (Yv.T (by first | assumption | omega)) (fun y19 hy18 => ?_)
   try simp only [] at hy18
   obtain ⟨rfl, _⟩ := hy18
   try simp only [ZO]
   refine YS.tm (fun i hi => hi) (Tm.self (YS.T (by first | assumption | omega) (by first | assumption | omega) (by first | assumption | omega) (by first | assumption | omega) (by first | assumption | omega))) (fun y21 y22 y23 hy20 => ?_)
   have hf24 := hy20.1
   try simp only [] at hf24
   obtain ⟨q25, q26, _⟩ := hf24
   refine Y5.tm (fun i hi => hi) (Y5.T (by first | assumption | omega)) (fun y28 y29 hy27 => ?_)
   try simp only [] at hy27
   obtain ⟨rfl, rfl, _⟩ := hy27
   try simp only [ZO]
   refine Yv.tm (fun i hi => hi) (Yv.T (by first | assumption | omega)) (fun y31 hy30 => ?_)
   try simp only [] at hy30
   obtain ⟨rfl, _⟩ := hy30
   try simp only [ZO]
   refine YR.tm (fun i hi => hi) (Tm.at (ok := (ZF 1)) (v := (y21, Zb y22, y23)) (fun k hk => YR.same (by first | assumption | omega) (by first | assumption | omega) (by first | assumption | omega) (by first | assumption | omega) (by first | assumption | omega) hk ((hy20.2) k hk))) (fun y33 y34 y35 hy32 => ?_)
   simp only [Prod.mk.injEq] at hy32; obtain ⟨hy32e0, hy32e1, hy32e2⟩ := hy32; subst y33 y34 y35
   try simp only [ZO]
   refine Y6.tm (fun i hi => hi) (Y6.T (by first | assumption | omega) (by first | assumption | omega)) (fun y37 hy36 => ?_)
   subst hy36
   refine Tm.ite (fun h38 => ?_) (fun h38 => ?_)
   ·try simp only [bz0, bz1, bz2, bz3, bz4, bz5, bz6, bz7, bz8, bz9, bza] at h38
    exact Tm.ret (by first | rfl | (exfalso; omega) | (exfalso; simp [Zu] at *))
   ·try simp only [bz0, bz1, bz2, bz3, bz4, bz5, bz6, bz7, bz8, bz9, bza] at h38
    refine Tm.ite (fun h39 => ?_) (fun h39 => ?_)
    ·try simp only [bz0, bz1, bz2, bz3, bz4, bz5, bz6, bz7, bz8, bz9, bza] at h39
     exact Tm.ret (by first | rfl | (exfalso; omega) | (exfalso; simp [Zu] at *))
    ·try simp only [bz0, bz1, bz2, bz3, bz4, bz5, bz6, bz7, bz8, bz9, bza] at h39
     refine Y5.tm (fun i hi => hi) (Y5.T (by first | assumption | omega)) (fun y41 y42 hy40 => ?_)
     try simp only [] at hy40
     obtain ⟨rfl, rfl, _⟩ := hy40
     try simp only [ZO]
     refine Y6.tm (fun i hi => hi) (Y6.T (by first | assumption | omega) (by first | assumption | omega)) (fun y44 hy43 => ?_)
     subst hy43
     refine Tm.ite (fun h45 => ?_) (fun h45 => ?_)
     ·try simp only [bz0, bz1, bz2, bz3, bz4, bz5, bz6, bz7, bz8, bz9, bza] at h45
      exact Tm.ret (by first | rfl | (exfalso; omega) | (exfalso; simp [Zu] at *))
     ·try simp only [bz0, bz1, bz2, bz3, bz4, bz5, bz6, bz7, bz8, bz9, bza] at h45
      refine Yv.tm (fun i hi => hi) (Yv.T (by first | assumption | omega)) (fun y47 hy46 => ?_)
      try simp only [] at hy46
      obtain ⟨rfl, _⟩ := hy46
      try simp only [ZO]
      refine YG.tm (fun i hi => hi) (YG.T (by first | assumption | omega) (by first | assumption | omega)) (fun y49 hy48 => ?_)
      subst hy48
      refine Tm.ite (fun h50 => ?_) (fun h50 => ?_)
      ·try simp only [bz0, bz1, bz2, bz3, bz4, bz5, bz6, bz7, bz8, bz9, bza] at h50
       exact Tm.ret (by first | rfl | (exfalso; omega) | (exfalso; simp [Zu] at *))
      ·try simp only [bz0, bz1, bz2, bz3, bz4, bz5, bz6, bz7, bz8, bz9, bza] at h50
       refine Y7.tm (fun i hi => hi) (Y7.T (B := 2097152) (by decide) (by first | assumption | exact Ya.wide (by assumption)) (by omega) (by omega)) (fun y52 y53 hy51 => ?_)
       obtain ⟨ys55, en58, et56, el57, hh54⟩ := hy51
       simp only [] at en58 et56 hh54
       subst en58 et56
       refine Tm.guard (by first | omega | (simp only [Zw]; assumption) | (simp only [lim, Zy, ZN] at *; omega) | (simp only [lim, ZN] at *; refine ⟨?_, ?_, ?_, ?_⟩ <;> omega)) ?_
       refine Yx.tm (fun i hi => hi) (Yx.T (B := 2097152) (by decide) (by first | assumption | exact Yb.wide (by assumption)) (by omega) (by omega)) (fun y60 y61 hy59 => ?_)
       obtain ⟨ys63, et64, el65, en66, hh62⟩ := hy59
       simp only [] at en66 et64 hh62
       subst en66 et64
       refine Tm.guard (by first | omega | (simp only [Zw]; assumption) | (simp only [lim, Zy, ZN] at *; omega) | (simp only [lim, ZN] at *; refine ⟨?_, ?_, ?_, ?_⟩ <;> omega)) ?_
       refine Tm.ite (fun h67 => ?_) (fun h67 => ?_)
       ·try simp only [bz0, bz1, bz2, bz3, bz4, bz5, bz6, bz7, bz8, bz9, bza] at h67
        exact Tm.ret (by first | rfl | (exfalso; omega) | (exfalso; simp [Zu] at *))
       ·try simp only [bz0, bz1, bz2, bz3, bz4, bz5, bz6, bz7, bz8, bz9, bza] at h67
        refine Y6.tm (fun i hi => hi) (Y6.T (by first | assumption | omega) (by first | assumption | omega)) (fun y69 hy68 => ?_)
        subst hy68
        refine Tm.ite (fun h70 => ?_) (fun h70 => ?_)
        ·try simp only [bz0, bz1, bz2, bz3, bz4, bz5, bz6, bz7, bz8, bz9, bza] at h70
         exact Tm.ret (by first | rfl | (exfalso; omega) | (exfalso; simp [Zu] at *))
        ·try simp only [bz0, bz1, bz2, bz3, bz4, bz5, bz6, bz7, bz8, bz9, bza] at h70
         refine Tm.ite (fun h71 => ?_) (fun h71 => ?_)
         ·try simp only [bz0, bz1, bz2, bz3, bz4, bz5, bz6, bz7, bz8, bz9, bza] at h71
          exact Tm.ret (by first | rfl | (exfalso; omega) | (exfalso; simp [Zu] at *))
         ·try simp only [bz0, bz1, bz2, bz3, bz4, bz5, bz6, bz7, bz8, bz9, bza] at h71
          refine Y7.tm (fun i hi => hi) (Y7.T (B := 2097152) (by decide) (by first | assumption | exact Ya.wide (by assumption)) (by omega) (by omega)) (fun y73 y74 hy72 => ?_)
          obtain ⟨ys76, en79, et77, el78, hh75⟩ := hy72
          simp only [] at en79 et77 hh75
          subst en79 et77
          refine Tm.guard (by first | omega | (simp only [Zw]; assumption) | (simp only [lim, Zy, ZN] at *; omega) | (simp only [lim, ZN] at *; refine ⟨?_, ?_, ?_, ?_⟩ <;> omega)) ?_
          try simp only [ZO]
          refine Yad.tm (fun i hi => hi) (Tm.at (ok := (ZF 1)) (fun k hk => hh75 k hk)) (fun y81 hy80 => ?_)
          subst hy80
          refine Tm.ite (fun h82 => ?_) (fun h82 => ?_)
          ·try simp only [bz0, bz1, bz2, bz3, bz4, bz5, bz6, bz7, bz8, bz9, bza] at h82
           exact Tm.ret (by first | rfl | (exfalso; omega) | (exfalso; simp [Zu] at *))
          ·try simp only [bz0, bz1, bz2, bz3, bz4, bz5, bz6, bz7, bz8, bz9, bza] at h82
           refine Tm.ite (fun h83 => ?_) (fun h83 => ?_)
           ·try simp only [bz0, bz1, bz2, bz3, bz4, bz5, bz6, bz7, bz8, bz9, bza] at h83
            exact Tm.ret (by first | rfl | (exfalso; omega) | (exfalso; simp [Zu] at *))
           ·try simp only [bz0, bz1, bz2, bz3, bz4, bz5, bz6, bz7, bz8, bz9, bza] at h83
            refine Y5.tm (fun i hi => hi) (Y5.T (by first | assumption | omega)) (fun y85 y86 hy84 => ?_)
            try simp only [] at hy84
            obtain ⟨rfl, rfl, _⟩ := hy84
            try simp only [ZO]
            refine Yv.tm (fun i hi => hi) (Yv.T (by first | assumption | omega)) (fun y88 hy87 => ?_)
            try simp only [] at hy87
            obtain ⟨rfl, _⟩ := hy87
            try simp only [ZO]
            refine YR.tm (fun i hi => hi) (Tm.at (ok := (ZF 1)) (v := (y21, Zb y22, y23)) (fun k hk => YR.same (by first | assumption | omega) (by first | assumption | omega) (by first | assumption | omega) (by first | assumption | omega) (by first | assumption | omega) hk ((hy20.2) k hk))) (fun y90 y91 y92 hy89 => ?_)
            simp only [Prod.mk.injEq] at hy89; obtain ⟨hy89e0, hy89e1, hy89e2⟩ := hy89; subst y90 y91 y92
            try simp only [ZO]
            refine Y6.tm (fun i hi => hi) (Y6.T (by first | assumption | omega) (by first | assumption | omega)) (fun y94 hy93 => ?_)
            subst hy93
            refine Tm.ite (fun h95 => ?_) (fun h95 => ?_)
            ·try simp only [bz0, bz1, bz2, bz3, bz4, bz5, bz6, bz7, bz8, bz9, bza] at h95
             exact Tm.ret (by first | rfl | (exfalso; omega) | (exfalso; simp [Zu] at *))
            ·try simp only [bz0, bz1, bz2, bz3, bz4, bz5, bz6, bz7, bz8, bz9, bza] at h95
             refine Tm.ite (fun h96 => ?_) (fun h96 => ?_)
             ·try simp only [bz0, bz1, bz2, bz3, bz4, bz5, bz6, bz7, bz8, bz9, bza] at h96
              exact Tm.ret (by first | rfl | (exfalso; omega) | (exfalso; simp [Zu] at *))
             ·try simp only [bz0, bz1, bz2, bz3, bz4, bz5, bz6, bz7, bz8, bz9, bza] at h96
              try simp only [ZO]
              refine Yad.tm (fun i hi => hi) (Tm.at (ok := (ZF 1)) (fun k hk => hh75 k hk)) (fun y98 hy97 => ?_)
              subst hy97
              refine Tm.ite (fun h99 => ?_) (fun h99 => ?_)
              ·try simp only [bz0, bz1, bz2, bz3, bz4, bz5, bz6, bz7, bz8, bz9, bza] at h99
               exact Tm.ret (by first | rfl | (exfalso; omega) | (exfalso; simp [Zu] at *))
              ·try simp only [bz0, bz1, bz2, bz3, bz4, bz5, bz6, bz7, bz8, bz9, bza] at h99
               refine Tm.ite (fun h100 => ?_) (fun h100 => ?_)
               ·try simp only [bz0, bz1, bz2, bz3, bz4, bz5, bz6, bz7, bz8, bz9, bza] at h100
                exact Tm.ret (by first | rfl | (exfalso; omega) | (exfalso; simp [Zu] at *))
               ·try simp only [bz0, bz1, bz2, bz3, bz4, bz5, bz6, bz7, bz8, bz9, bza] at h100
                exact Tm.ret (by first | rfl | (exfalso; omega) | (exfalso; simp [Zu] at *))
open Go.ChangeShapes Go.WideShapes Go.ChangeAt Go.RowKit
open Go.ChangeMaps (open_string shut_string)
theorem own : ownKnob Try.prog.godebug = none := by kernel_rfl
theorem laidOut : laidOutB Try.prog = true := by kernel_rfl
theorem goodS_9 {r : List D} (h : RowS Try.prog maxLen 9 r) : RS maxLen r := by
 have hh := h.open (show ZC Try.prog 6 9 = [9] from by kernel_rfl)
 obtain ⟨d0, l0, rfl, g0, hh0⟩ := goodR_cons hh
 obtain ⟨c0, rfl, k0⟩ := good_str (by kernel_rfl) g0
 obtain rfl := goodR_nil hh0
 exact ⟨c0, rfl, k0, trivial⟩
theorem goodISILSELXE_83_n (n : Nat) : ∀ r : List D, SizeOf.sizeOf r = n → RowS Try.prog maxLen 83 r → ∃ h, Y1 maxLen h r := by
 induction n using Nat.strongRecOn with
 | ind n ih =>
 intro r hn h
 have hh := h.open (show ZC Try.prog 6 83 = [3, 9, 3, 59, 81] from by kernel_rfl)
 obtain ⟨d0, l0, rfl, g0, hh0⟩ := goodR_cons hh
 obtain ⟨c0, rfl, k0⟩ := good_int (k := .i64) (by kernel_rfl) g0
 obtain ⟨d1, l1, rfl, g1, hh1⟩ := goodR_cons hh0
 obtain ⟨c1, rfl, k1⟩ := good_str (by kernel_rfl) g1
 obtain ⟨d2, l2, rfl, g2, hh2⟩ := goodR_cons hh1
 obtain ⟨c2, rfl, k2⟩ := good_int (k := .i64) (by kernel_rfl) g2
 obtain ⟨d3, l3, rfl, g3, hh3⟩ := goodR_cons hh2
 obtain ⟨c3, rfl, k3, m3⟩ := good_sl (e := 9) (by kernel_rfl) g3
 obtain ⟨d4, l4, rfl, g4, hh4⟩ := goodR_cons hh3
 obtain ⟨c4, rfl, k4, m4⟩ := good_sl (e := 83) (by kernel_rfl) g4
 obtain rfl := goodR_nil hh4
 have hs : ∀ r' ∈ c4, SizeOf.sizeOf r' < n := fun r' hr => by have := List.sizeOf_lt_of_mem hr; simp at hn; omega
 obtain ⟨hq, q4⟩ := common (Q := Y1 maxLen) (fun _ _ _ => Y1.mono) c4 fun r' hr => ih _ (hs r' hr) r' rfl (m4 r' hr)
 exact ⟨hq + 1, .mk c0 c1 c2 c3 c4 k0 k1 k2 ⟨k3, fun r hr => goodS_9 (m3 r hr)⟩ k4 q4⟩
theorem YaJ {r : List D} (h : RowS Try.prog maxLen 83 r) : Yo maxLen r := by
 obtain ⟨h1, h2⟩ := goodISILSELXE_83_n _ r rfl h
 exact ⟨h1, fun hb => absurd (show (9223372036854775807 : Nat) ≤ 1099511627776 from hb) (by decide), h2⟩
theorem YaG {r : List D} (h : RowS Try.prog maxLen 85 r) : Ya maxLen r := by
 have hh := h.open (show ZC Try.prog 6 85 = [3, 9, 3, 3, 3, 4, 59, 3, 9, 3, 59, 81, 3, 9, 3, 59, 81] from by kernel_rfl)
 obtain ⟨d0, l0, rfl, g0, hh0⟩ := goodR_cons hh
 obtain ⟨c0, rfl, k0⟩ := good_int (k := .i64) (by kernel_rfl) g0
 obtain ⟨d1, l1, rfl, g1, hh1⟩ := goodR_cons hh0
 obtain ⟨c1, rfl, k1⟩ := good_str (by kernel_rfl) g1
 obtain ⟨d2, l2, rfl, g2, hh2⟩ := goodR_cons hh1
 obtain ⟨c2, rfl, k2⟩ := good_int (k := .i64) (by kernel_rfl) g2
 obtain ⟨d3, l3, rfl, g3, hh3⟩ := goodR_cons hh2
 obtain ⟨c3, rfl, k3⟩ := good_int (k := .i64) (by kernel_rfl) g3
 obtain ⟨d4, l4, rfl, g4, hh4⟩ := goodR_cons hh3
 obtain ⟨c4, rfl, k4⟩ := good_int (k := .i64) (by kernel_rfl) g4
 obtain ⟨d5, l5, rfl, g5, hh5⟩ := goodR_cons hh4
 obtain ⟨c5, rfl⟩ := good_bool (by kernel_rfl) g5
 obtain ⟨d6, l6, rfl, g6, hh6⟩ := goodR_cons hh5
 obtain ⟨c6, rfl, k6, m6⟩ := good_sl (e := 9) (by kernel_rfl) g6
 obtain ⟨d7, l7, rfl, g7, hh7⟩ := goodR_cons hh6
 obtain ⟨c7, rfl, k7⟩ := good_int (k := .i64) (by kernel_rfl) g7
 obtain ⟨d8, l8, rfl, g8, hh8⟩ := goodR_cons hh7
 obtain ⟨c8, rfl, k8⟩ := good_str (by kernel_rfl) g8
 obtain ⟨d9, l9, rfl, g9, hh9⟩ := goodR_cons hh8
 obtain ⟨c9, rfl, k9⟩ := good_int (k := .i64) (by kernel_rfl) g9
 obtain ⟨d10, l10, rfl, g10, hh10⟩ := goodR_cons hh9
 obtain ⟨c10, rfl, k10, m10⟩ := good_sl (e := 9) (by kernel_rfl) g10
 obtain ⟨d11, l11, rfl, g11, hh11⟩ := goodR_cons hh10
 obtain ⟨c11, rfl, k11, m11⟩ := good_sl (e := 83) (by kernel_rfl) g11
 obtain ⟨d12, l12, rfl, g12, hh12⟩ := goodR_cons hh11
 obtain ⟨c12, rfl, k12⟩ := good_int (k := .i64) (by kernel_rfl) g12
 obtain ⟨d13, l13, rfl, g13, hh13⟩ := goodR_cons hh12
 obtain ⟨c13, rfl, k13⟩ := good_str (by kernel_rfl) g13
 obtain ⟨d14, l14, rfl, g14, hh14⟩ := goodR_cons hh13
 obtain ⟨c14, rfl, k14⟩ := good_int (k := .i64) (by kernel_rfl) g14
 obtain ⟨d15, l15, rfl, g15, hh15⟩ := goodR_cons hh14
 obtain ⟨c15, rfl, k15, m15⟩ := good_sl (e := 9) (by kernel_rfl) g15
 obtain ⟨d16, l16, rfl, g16, hh16⟩ := goodR_cons hh15
 obtain ⟨c16, rfl, k16, m16⟩ := good_sl (e := 83) (by kernel_rfl) g16
 obtain rfl := goodR_nil hh16
 exact ⟨c0, c1, c2, c3, c4, c5, c6, c7, c8, c9, c10, c11, c12, c13, c14, c15, c16, rfl, k0, k1, k2, k3, k4, ⟨k6, fun r hr => goodS_9 (m6 r hr)⟩, k7, k8, k9, ⟨k10, fun r hr => goodS_9 (m10 r hr)⟩, ⟨k11, fun r hr => YaJ (m11 r hr)⟩, k12, k13, k14, ⟨k15, fun r hr => goodS_9 (m15 r hr)⟩, ⟨k16, fun r hr => YaJ (m16 r hr)⟩, trivial⟩
theorem YaE {r : List D} (h : RowS Try.prog maxLen 87 r) : Yb maxLen r := by
 have hh := h.open (show ZC Try.prog 6 87 = [3, 4, 3, 9, 3, 3, 3, 4, 59, 3, 9, 3, 59, 81, 3, 9, 3, 59, 81] from by kernel_rfl)
 obtain ⟨d0, l0, rfl, g0, hh0⟩ := goodR_cons hh
 obtain ⟨c0, rfl, k0⟩ := good_int (k := .i64) (by kernel_rfl) g0
 obtain ⟨d1, l1, rfl, g1, hh1⟩ := goodR_cons hh0
 obtain ⟨c1, rfl⟩ := good_bool (by kernel_rfl) g1
 obtain ⟨d2, l2, rfl, g2, hh2⟩ := goodR_cons hh1
 obtain ⟨c2, rfl, k2⟩ := good_int (k := .i64) (by kernel_rfl) g2
 obtain ⟨d3, l3, rfl, g3, hh3⟩ := goodR_cons hh2
 obtain ⟨c3, rfl, k3⟩ := good_str (by kernel_rfl) g3
 obtain ⟨d4, l4, rfl, g4, hh4⟩ := goodR_cons hh3
 obtain ⟨c4, rfl, k4⟩ := good_int (k := .i64) (by kernel_rfl) g4
 obtain ⟨d5, l5, rfl, g5, hh5⟩ := goodR_cons hh4
 obtain ⟨c5, rfl, k5⟩ := good_int (k := .i64) (by kernel_rfl) g5
 obtain ⟨d6, l6, rfl, g6, hh6⟩ := goodR_cons hh5
 obtain ⟨c6, rfl, k6⟩ := good_int (k := .i64) (by kernel_rfl) g6
 obtain ⟨d7, l7, rfl, g7, hh7⟩ := goodR_cons hh6
 obtain ⟨c7, rfl⟩ := good_bool (by kernel_rfl) g7
 obtain ⟨d8, l8, rfl, g8, hh8⟩ := goodR_cons hh7
 obtain ⟨c8, rfl, k8, m8⟩ := good_sl (e := 9) (by kernel_rfl) g8
 obtain ⟨d9, l9, rfl, g9, hh9⟩ := goodR_cons hh8
 obtain ⟨c9, rfl, k9⟩ := good_int (k := .i64) (by kernel_rfl) g9
 obtain ⟨d10, l10, rfl, g10, hh10⟩ := goodR_cons hh9
 obtain ⟨c10, rfl, k10⟩ := good_str (by kernel_rfl) g10
 obtain ⟨d11, l11, rfl, g11, hh11⟩ := goodR_cons hh10
 obtain ⟨c11, rfl, k11⟩ := good_int (k := .i64) (by kernel_rfl) g11
 obtain ⟨d12, l12, rfl, g12, hh12⟩ := goodR_cons hh11
 obtain ⟨c12, rfl, k12, m12⟩ := good_sl (e := 9) (by kernel_rfl) g12
 obtain ⟨d13, l13, rfl, g13, hh13⟩ := goodR_cons hh12
 obtain ⟨c13, rfl, k13, m13⟩ := good_sl (e := 83) (by kernel_rfl) g13
 obtain ⟨d14, l14, rfl, g14, hh14⟩ := goodR_cons hh13
 obtain ⟨c14, rfl, k14⟩ := good_int (k := .i64) (by kernel_rfl) g14
 obtain ⟨d15, l15, rfl, g15, hh15⟩ := goodR_cons hh14
 obtain ⟨c15, rfl, k15⟩ := good_str (by kernel_rfl) g15
 obtain ⟨d16, l16, rfl, g16, hh16⟩ := goodR_cons hh15
 obtain ⟨c16, rfl, k16⟩ := good_int (k := .i64) (by kernel_rfl) g16
 obtain ⟨d17, l17, rfl, g17, hh17⟩ := goodR_cons hh16
 obtain ⟨c17, rfl, k17, m17⟩ := good_sl (e := 9) (by kernel_rfl) g17
 obtain ⟨d18, l18, rfl, g18, hh18⟩ := goodR_cons hh17
 obtain ⟨c18, rfl, k18, m18⟩ := good_sl (e := 83) (by kernel_rfl) g18
 obtain rfl := goodR_nil hh18
 exact ⟨c0, c1, c2, c3, c4, c5, c6, c7, c8, c9, c10, c11, c12, c13, c14, c15, c16, c17, c18, rfl, k0, k2, k3, k4, k5, k6, ⟨k8, fun r hr => goodS_9 (m8 r hr)⟩, k9, k10, k11, ⟨k12, fun r hr => goodS_9 (m12 r hr)⟩, ⟨k13, fun r hr => YaJ (m13 r hr)⟩, k14, k15, k16, ⟨k17, fun r hr => goodS_9 (m17 r hr)⟩, ⟨k18, fun r hr => YaJ (m18 r hr)⟩, trivial⟩
theorem types : lawTys Try.prog [85, 9, 83, 87] = true := by kernel_rfl
set_option maxRecDepth 100000 in
theorem lifted (os : Os) (started : os.Started) (H : Type) (enc : TypeId × Value → H) :
  ReturnsInHanded {} Try.checked os 4 .any (Rows.fnExactFollowSpec.pre6 enc Try.prog Try.f4 Rows.fnExactFollowRow.domain false) (Rows.fnExactFollowSpec.post enc Try.prog Try.f4 false true false false) := by
 refine returnsInHanded_of_change_sized (C := Try.checked) own started (by kernel_rfl) Try.func4
  (ChangeSpec.witness6 (enc := enc) (C := Try.checked) false ⟨#[], #[.agg #[.int .i64 0, .slice none 0 0], .slice none 0 0], []⟩ 8 (by kernel_rfl) (by kernel_rfl) (by kernel_rfl) (by kernel_rfl)) ?_
 intro W base args ds gs before hval0 hW hcnd hsz0 _
 have hval : ∀ (j : Nat) t v, Try.f4.params[j]? = some t → args[j]? = some v → Value.okWide Try.prog W .any base t v := hval0
 have hW' := hW
 obtain ⟨p, q, hA0, hV, rfl, hfz, hnd⟩ := hW
 have hA : DataW.TrodAll enc Try.prog W 0 (fun _ => true) true Try.f4.params.toList args.toList ds p := hA0
 have hpar : Try.f4.params = #[40, 41] := by kernel_rfl
 rw [hpar] at hA hval
 obtain ⟨v0, vs0, d0, ds0, p0, q0, hargs, rfl, rfl, h0, r0⟩ := trodAll_cons hA
 obtain ⟨v1, vs1, d1, ds1, p1, q1, rfl, rfl, rfl, h1, r1⟩ := trodAll_cons r0
 obtain ⟨rfl, rfl, rfl⟩ := trodAll_nil r1
 obtain rfl : args = #[v0, v1] := by cases args; simp_all
 obtain ⟨rfl, rfl⟩ := trodVars_none hV
 have k0 := h0
 have lt0 : ∀ x ∈ p0, x.block < W.heap.size := by obtain ⟨m, hm⟩ := k0; exact DataW.trod_lt m _ _ _ hm
 obtain ⟨cs0, xs0, rfl, hl0, hc0, hg0⟩ := open_agg types (by kernel_rfl) (by kernel_rfl) (hval 0 40 v0 rfl rfl) h0
 have hj0 := hg0.open (show ZC Try.prog 6 40 = [3, 38] from by kernel_rfl)
 obtain ⟨ea0_0, la0_0, rfl, wa0_0, hj0_0⟩ := goodR_cons hj0
 obtain ⟨aB, rfl, ka0_0⟩ := good_int (k := .i64) (by kernel_rfl) wa0_0
 obtain ⟨ea0_1, la0_1, rfl, wa0_1, hj0_1⟩ := goodR_cons hj0_0
 obtain ⟨aA, rfl, ka0_1, ma0_1⟩ := good_sl (e := 85) (by kernel_rfl) wa0_1
 obtain rfl := goodR_nil hj0_1
 have k1 := h1
 have lt1 : ∀ x ∈ p1, x.block < W.heap.size := by obtain ⟨m, hm⟩ := k1; exact DataW.trod_lt m _ _ _ hm
 obtain ⟨sa1, sn1, sc1, rfl⟩ := okWide_slice (e := 87) (by kernel_rfl) (hval 1 41 v1 rfl rfl)
 obtain ⟨ea1, hd1, wa1⟩ := open_cell types (by kernel_rfl) rfl (by kernel_rfl) h1
 obtain ⟨a1, rfl, ka1, ma1⟩ := good_sl (e := 87) (by kernel_rfl) wa1
 clear hA0 hval0 hsz0
 obtain ⟨kb, hkb⟩ : ∃ k, lv 1 ≤ k := ⟨_, Nat.le_refl _⟩
 obtain ⟨z, rfl, hz⟩ := Yap.T ka0_0 ⟨ka0_1, fun r hr => YaG (ma0_1 r hr)⟩ ⟨ka1, fun r hr => YaE (ma1 r hr)⟩
 refine (law_calls (Yap.ok kb) rfl rfl (by kernel_rfl) (aa := [.agg [.int .i64 aB, .sl aA], .d (.sl a1)]) (vs := [.agg cs0.toArray, .slice sa1 sn1 sc1]) ?_ ⟨(), ?_⟩).mono fun e W' ⟨he, bel⟩ => ?_
 ·exact (ZU.cons' ⟨rfl, cs0, rfl, hl0, hc0⟩ (ZU.cons' ⟨rfl, hd1⟩ ZU.nil'))
 ·exact (ent_run (Yap.e kb) rfl (congrArg some (hz kb hkb)) rfl)
 ·subst he
  exact ⟨_, rfl, _, _, _, [], _, [], hW', trodAll_mk1 (shut_bool (by kernel_rfl) _), (trodAll_cons_mk (Below.trod laidOut (by kernel_rfl) (of_decide_eq_true (by kernel_rfl)) k0 bel lt0) (trodAll_cons_mk (Below.trod laidOut (by kernel_rfl) (of_decide_eq_true (by kernel_rfl)) k1 bel lt1) trodAll_mk0)), rfl, bel.frame _, fun h => by cases h⟩
theorem facts1 : joined1 Try.prog 4 Try.f4 Rows.fnExactFollowSpec Rows.fnExactFollowRow = true := by kernel_rfl
theorem facts2 : joined2 Try.prog 4 Try.f4 Rows.fnExactFollowSpec Rows.fnExactFollowRow = true := by kernel_rfl
theorem facts3 : joined3 Try.prog 4 Try.f4 Rows.fnExactFollowSpec Rows.fnExactFollowRow = true := by kernel_rfl
theorem facts4 : joined4 Try.prog 4 Try.f4 Rows.fnExactFollowSpec Rows.fnExactFollowRow = true := by kernel_rfl
theorem facts5 : joined5 Try.prog 4 Try.f4 Rows.fnExactFollowSpec Rows.fnExactFollowRow = true := by kernel_rfl
theorem facts6 : joined6 Try.prog 4 Try.f4 Rows.fnExactFollowSpec Rows.fnExactFollowRow = true := by kernel_rfl
theorem facts7 : joined7 Try.prog 4 Try.f4 Rows.fnExactFollowSpec Rows.fnExactFollowRow = true := by kernel_rfl
theorem facts8 : joined8 Try.prog 4 Try.f4 Rows.fnExactFollowSpec Rows.fnExactFollowRow = true := by kernel_rfl
theorem over : Rows.fnExactFollowRow.holds Try.pinned (OpenSpec.ofChange Rows.fnExactFollowSpec) :=
 OpenClaim.holds_of_wide 4 Try.f4 rfl rfl rfl rfl rfl rfl rfl ⟨rfl, rfl, rfl, rfl, rfl⟩ rfl rfl rfl rfl rfl (by kernel_rfl) Try.func4 (joined_of facts1 facts2 facts3 facts4 facts5 facts6 facts7 facts8)
  (of_decide_eq_true (by kernel_rfl)) (by unfold Func.isWrapper; first | (rw [if_pos (by decide +kernel)]; kernel_rfl) | (rw [if_neg (by decide +kernel)]; exact ⟨rfl, rfl⟩))
  (fun os started H enc _ => lifted os started H enc)
theorem fnExactFollow_holds : Rows.FnExactFollowSaid := over
end Go.Proofs.Ytlobhlnahhjpjaa
