/- FnExactList: the program's function answers as the reference's, for every input. No condition. -/
import Derived.Test.YtljkbknnnpjmgaaRows
import Derived.Test.YtljkbknnnpjmgaaYEList1
import Derived.KernelRfl
import Derived.WalkKit
import Derived.ProofKit
import Derived.OpenShut
import Derived.ShutString
import Derived.ChangeOld
import Derived.Below
import Derived.SizedLaws
set_option linter.unusedVariables false
set_option linter.unusedSimpArgs false
namespace Go.Proofs.Ytljkbknnnpjmgaa
open Go Go.T Go.Proofs
theorem YS.f_of {β : Type} {k : Nat} {aB : LD} {aA aE : Int} {aD : LD} {z0 : Bool} (h : YS.t k aB aA aE aD = some z0) (K : Bool → Option β) : YS.f k aB aA aE aD K = K z0 := by
 unfold YS.f
 rw [h]
set_option maxRecDepth 100000 in
set_option maxHeartbeats 8000000 in
theorem Yp.T {B : Nat} (hB : B ≤ 1099511627776) {xs : LD} {n : Int} (g : Zm Yc B xs) (h0 : 0 ≤ n) (h1 : n + ZE xs ≤ 4611686018427387904) : Tm (Zay 1) (fun k => Yp.t k (Zs xs) n) (fun z => ∃ ys, z.2 = Zs ys ∧ ys.length = xs.length ∧ z.1 = n + ZE xs ∧ ∀ k, (Zay 1) k → (Zay 1) k) := by
 have hb : big = 2 ^ 64 := rfl
 have hl := g.1
 have key : Tm (Zay 1) (fun k => Yp.t k (Zs xs) n) (fun z => ∃ ys, z.2 = Zs ys ∧ ys.length = xs.length ∧ z.1 = n + ZE xs ∧ HeldL (fun _ _ _ => True) n ys z.1) := by
  unfold Yp.t Yp.g
  refine Tm.loop (okk := (Zay 1)) (p := fun k => k) (fun i hi => up0 hi) (b := fun k => Yp.l0 k (fun z0 z1 => some (z0, z1))) (fun v => match v with | (u, i, tab) => ((xs.length : Int) - i).toNat) (fun v => match v with | (u, i, tab) => 0 ≤ i ∧ i ≤ xs.length ∧ ∃ done : LD, done.length = i.toNat ∧ tab = Zs done ++ Zs (xs.drop i.toNat) ∧ u = n + ZE (xs.take i.toNat) ∧ HeldL (fun _ _ _ => True) n done u) ?_ ?_ ?_
  ·rintro ⟨u, i, tab⟩ hI
   simp only [] at hI ⊢
   omega
  ·exact ⟨by omega, by omega, [], rfl, by simp [Zs], by simp [ZE], .nil⟩
  ·rintro ⟨u, i, tab⟩ hI L hL
   simp only [] at hI
   obtain ⟨i0, i1, done, hd, rfl, hu, hH⟩ := hI
   have hA : (Zs done).length = i.toNat := by rw [deepRows_length, hd]
   have hT : (Zs done ++ Zs (xs.drop i.toNat)).length = xs.length := by rw [List.length_append, hA, deepRows_length, List.length_drop]; omega
   simp only [Yp.l0]
   refine Tm.ite (fun h4 => ?_) (fun h4 => ?_)
   ·simp only [decide_eq_true_eq, hT] at h4
    have hx := gR_at i0 h4
    obtain ⟨c0, c1, c2, c3, c4, c5, c6, c7, c8, c9, c10, c11, c12, c13, c14, c15, c16, c17, c18, e, k0, k2, k3, k4, k5, k6, k8, k9, k10, k11, k12, k13, k14, k15, k16, k17, k18, _⟩ := (g.2 _ (gR_mem i0 h4)).open
    rw [e] at hx
    have hdr := drop_at i0 hx
    have hw := Zb4 i0 hx
    simp only [Zbi, wtD] at hw
    have hs := wt_split xs (i + 1).toNat
    rw [hdr] at hT ⊢
    simp only [Zs, Zal, deepD] at hT ⊢
    have hT2 := hT
    simp only [List.length_append, List.length_cons] at hT2
    refine Tm.guard (by first | decide | (simp only [List.length_modify, List.length_append, List.length_cons]; omega)) ?_
    refine Tm.guard (by first | decide | (simp only [List.length_modify, List.length_append, List.length_cons]; omega)) ?_
    refine Tm.guard (by first | decide | (simp only [List.length_modify, List.length_append, List.length_cons]; omega)) ?_
    refine Tm.guard (by first | decide | (simp only [List.length_modify, List.length_append, List.length_cons]; omega)) ?_
    refine Tm.guard (by first | decide | (simp only [List.length_modify, List.length_append, List.length_cons]; omega)) ?_
    refine Tm.guard (by first | decide | (simp only [List.length_modify, List.length_append, List.length_cons]; omega)) ?_
    refine Tm.guard (by first | decide | (simp only [List.length_modify, List.length_append, List.length_cons]; omega)) ?_
    try simp (disch := omega) only [ZC]
    refine Ye.tm (fun i hi => up0 hi.1) (Tm.at (ok := Zar) (v := Ye.v _) (fun k hk => Ye.tv (by omega) hk)) (fun y hy => ?_)
    subst hy
    refine Tm.guard (by first | decide | (simp only [List.length_modify, List.length_append, List.length_cons]; omega)) ?_
    refine Tm.guard (by first | decide | (simp only [List.length_modify, List.length_append, List.length_cons]; omega)) ?_
    refine Tm.guard (by first | decide | (simp only [List.length_modify, List.length_append, List.length_cons]; omega)) ?_
    refine Tm.guard (by first | decide | (simp only [List.length_modify, List.length_append, List.length_cons]; omega)) ?_
    refine Tm.guard (by first | decide | (simp only [List.length_modify, List.length_append, List.length_cons]; omega)) ?_
    refine Tm.guard (by first | decide | (simp only [List.length_modify, List.length_append, List.length_cons]; omega)) ?_
    refine Tm.guard (by first | decide | (simp only [List.length_modify, List.length_append, List.length_cons]; omega)) ?_
    refine Tm.guard (by first | decide | (simp only [List.length_modify, List.length_append, List.length_cons]; omega)) ?_
    refine Tm.guard (by first | decide | (simp only [List.length_modify, List.length_append, List.length_cons]; omega)) ?_
    refine Tm.guard (by first | decide | (simp only [List.length_modify, List.length_append, List.length_cons]; omega)) ?_
    refine Tm.guard (by first | decide | (simp only [List.length_modify, List.length_append, List.length_cons]; omega)) ?_
    refine Tm.guard (by first | decide | (simp only [List.length_modify, List.length_append, List.length_cons]; omega)) ?_
    try simp only [modify_mid hA, atNat_mid hA, Z1, List.take_zero, List.take_succ_cons, List.drop_succ_cons, List.drop_zero, List.nil_append, List.cons_append, List.length_cons, List.length_nil, Nat.zero_add, Nat.reduceAdd, List.set_cons_succ, List.set_cons_zero]
    refine Tm.uncons ?_
    refine Tm.cOwn ?_
    try simp (disch := omega) only [ZC]
    refine Yh.tm (fun i hi => up0 hi.1) (Yh.T hB k8 (by omega) (by omega)) (fun y8 t8 hy => ?_)
    obtain ⟨ys8, et8, el8, en8, hh8⟩ := hy
    simp only [] at et8 en8 hh8
    subst et8 en8
    refine Tm.guard (by first | decide | (simp only [List.length_modify, List.length_append, List.length_cons]; omega)) ?_
    refine Tm.guard (by first | decide | (simp only [List.length_modify, List.length_append, List.length_cons]; omega)) ?_
    try simp (disch := omega) only [ZC]
    refine Ye.tm (fun i hi => up0 hi.1) (Tm.at (ok := Zar) (v := Ye.v _) (fun k hk => Ye.tv (by omega) hk)) (fun y hy => ?_)
    subst hy
    refine Tm.guard (by first | decide | (simp only [List.length_modify, List.length_append, List.length_cons]; omega)) ?_
    refine Tm.guard (by first | decide | (simp only [List.length_modify, List.length_append, List.length_cons]; omega)) ?_
    refine Tm.guard (by first | decide | (simp only [List.length_modify, List.length_append, List.length_cons]; omega)) ?_
    refine Tm.guard (by first | decide | (simp only [List.length_modify, List.length_append, List.length_cons]; omega)) ?_
    refine Tm.guard (by first | decide | (simp only [List.length_modify, List.length_append, List.length_cons]; omega)) ?_
    try simp only [modify_mid hA, atNat_mid hA, Z1, List.take_zero, List.take_succ_cons, List.drop_succ_cons, List.drop_zero, List.nil_append, List.cons_append, List.length_cons, List.length_nil, Nat.zero_add, Nat.reduceAdd, List.set_cons_succ, List.set_cons_zero]
    refine Tm.uncons ?_
    refine Tm.cOwn ?_
    try simp (disch := omega) only [ZC]
    refine Yh.tm (fun i hi => up0 hi.1) (Yh.T hB k12 (by omega) (by omega)) (fun y12 t12 hy => ?_)
    obtain ⟨ys12, et12, el12, en12, hh12⟩ := hy
    simp only [] at et12 en12 hh12
    subst et12 en12
    refine Tm.guard (by first | decide | (simp only [List.length_modify, List.length_append, List.length_cons]; omega)) ?_
    try simp only [modify_mid hA, atNat_mid hA, Z1, List.take_zero, List.take_succ_cons, List.drop_succ_cons, List.drop_zero, List.nil_append, List.cons_append, List.length_cons, List.length_nil, Nat.zero_add, Nat.reduceAdd, List.set_cons_succ, List.set_cons_zero]
    refine Tm.uncons ?_
    refine Tm.cOwn ?_
    try simp (disch := omega) only [ZC]
    refine Yf.tm (fun i hi => hi.1) (Yf.T hB k13 (by omega) (by omega)) (fun y13 t13 hy => ?_)
    obtain ⟨ys13, et13, el13, en13, hh13⟩ := hy
    simp only [] at et13 en13 hh13
    subst et13 en13
    refine Tm.guard (by first | decide | (simp only [List.length_modify, List.length_append, List.length_cons]; omega)) ?_
    refine Tm.guard (by first | decide | (simp only [List.length_modify, List.length_append, List.length_cons]; omega)) ?_
    try simp (disch := omega) only [ZC]
    refine Ye.tm (fun i hi => up0 hi.1) (Tm.at (ok := Zar) (v := Ye.v _) (fun k hk => Ye.tv (by omega) hk)) (fun y hy => ?_)
    subst hy
    refine Tm.guard (by first | decide | (simp only [List.length_modify, List.length_append, List.length_cons]; omega)) ?_
    refine Tm.guard (by first | decide | (simp only [List.length_modify, List.length_append, List.length_cons]; omega)) ?_
    refine Tm.guard (by first | decide | (simp only [List.length_modify, List.length_append, List.length_cons]; omega)) ?_
    refine Tm.guard (by first | decide | (simp only [List.length_modify, List.length_append, List.length_cons]; omega)) ?_
    refine Tm.guard (by first | decide | (simp only [List.length_modify, List.length_append, List.length_cons]; omega)) ?_
    try simp only [modify_mid hA, atNat_mid hA, Z1, List.take_zero, List.take_succ_cons, List.drop_succ_cons, List.drop_zero, List.nil_append, List.cons_append, List.length_cons, List.length_nil, Nat.zero_add, Nat.reduceAdd, List.set_cons_succ, List.set_cons_zero]
    refine Tm.uncons ?_
    refine Tm.cOwn ?_
    try simp (disch := omega) only [ZC]
    refine Yh.tm (fun i hi => up0 hi.1) (Yh.T hB k17 (by omega) (by omega)) (fun y17 t17 hy => ?_)
    obtain ⟨ys17, et17, el17, en17, hh17⟩ := hy
    simp only [] at et17 en17 hh17
    subst et17 en17
    refine Tm.guard (by first | decide | (simp only [List.length_modify, List.length_append, List.length_cons]; omega)) ?_
    try simp only [modify_mid hA, atNat_mid hA, Z1, List.take_zero, List.take_succ_cons, List.drop_succ_cons, List.drop_zero, List.nil_append, List.cons_append, List.length_cons, List.length_nil, Nat.zero_add, Nat.reduceAdd, List.set_cons_succ, List.set_cons_zero]
    refine Tm.uncons ?_
    refine Tm.cOwn ?_
    try simp (disch := omega) only [ZC]
    refine Yf.tm (fun i hi => hi.1) (Yf.T hB k18 (by omega) (by omega)) (fun y18 t18 hy => ?_)
    obtain ⟨ys18, et18, el18, en18, hh18⟩ := hy
    simp only [] at et18 en18 hh18
    subst et18 en18
    try simp (disch := omega) only [ZC]
    try simp only [modify_mid hA, Z1, List.take_zero, List.take_succ_cons, List.drop_succ_cons, List.drop_zero, List.nil_append, List.cons_append, List.length_cons, List.length_nil, Nat.zero_add, Nat.reduceAdd, List.set_cons_succ, List.set_cons_zero]
    refine hL (_, _, _) ⟨by omega, by omega, done ++ [[.int .i64 (u), .bool (Int.tmod (u + 1) 3 == 0), .int .i64 (u + 1 + 1), .str (Ye.v (u + 1 + 1 + 1)), .int .i64 (u + 1 + 1 + 1 + 1), .int .i64 (u + 1 + 1 + 1 + 1 + 1), .int .i64 (u + 1 + 1 + 1 + 1 + 1 + 1), .bool (Int.tmod (u + 1 + 1 + 1 + 1 + 1 + 1 + 1) 3 == 0), .sl ys8, .int .i64 (u + 1 + 1 + 1 + 1 + 1 + 1 + 1 + 1 + (ZE c8 : Int)), .str (Ye.v (u + 1 + 1 + 1 + 1 + 1 + 1 + 1 + 1 + (ZE c8 : Int) + 1)), .int .i64 (u + 1 + 1 + 1 + 1 + 1 + 1 + 1 + 1 + (ZE c8 : Int) + 1 + 1), .sl ys12, .sl ys13, .int .i64 (u + 1 + 1 + 1 + 1 + 1 + 1 + 1 + 1 + (ZE c8 : Int) + 1 + 1 + 1 + (ZE c12 : Int) + (ZE c13 : Int)), .str (Ye.v (u + 1 + 1 + 1 + 1 + 1 + 1 + 1 + 1 + (ZE c8 : Int) + 1 + 1 + 1 + (ZE c12 : Int) + (ZE c13 : Int) + 1)), .int .i64 (u + 1 + 1 + 1 + 1 + 1 + 1 + 1 + 1 + (ZE c8 : Int) + 1 + 1 + 1 + (ZE c12 : Int) + (ZE c13 : Int) + 1 + 1), .sl ys17, .sl ys18]], by simp only [List.length_append, List.length_cons, List.length_nil]; omega, ?_, by omega, HeldL.snoc hH trivial⟩ (by simp only []; omega)
    rw [Zcf]
    simp only [Zs, Zal, deepD, List.append_assoc, List.cons_append, List.nil_append]
   ·simp only [decide_eq_false_iff_not, hT] at h4
    refine Tm.ret ⟨done, ?_, by omega, ?_, hH⟩
    ·rw [List.drop_eq_nil_of_le (by omega)]
     simp only [Zs, List.append_nil]
    ·rw [List.take_of_length_le (by omega)] at hu
     exact hu
 obtain ⟨v, ⟨ys, e1, e2, e3, hH⟩, h2⟩ := key
 exact ⟨v, ⟨ys, e1, e2, e3, fun k hk => hk⟩, h2⟩
set_option maxRecDepth 100000 in
set_option maxHeartbeats 8000000 in
theorem Y3.T {B : Nat} (hB : B ≤ 1099511627776) {c1 c2 : Int} {a0 a3 : LD} {n : Int} (g0 : Zm Yb B a0) (g3 : Zm Yc B a3) (h0 : 0 ≤ n) (h1 : n + ZE a0 + ZE a3 ≤ 4611686018427387904) : Tm (Zay 1) (fun k => Y3.t k (Zs a0) c1 c2 (Zs a3) n) (fun z => ∃ ys0 ys3, z.1 = n + ZE a0 + ZE a3 ∧ z.2.1 = Zs ys0 ∧ z.2.2 = Zs ys3 ∧ ys0.length = a0.length ∧ ys3.length = a3.length ∧ ∀ k, (Zay 1) k → (Zay 1) k) := by
 unfold Y3.t Y3.g
 refine YA.tm (fun i hi => hi) (YA.T hB g0 (by omega) (by omega)) (fun y0 t0 hy => ?_)
 obtain ⟨ys0, et0, el0, en0, hh0⟩ := hy
 simp only [] at et0 en0 hh0
 subst et0 en0
 try refine Tm.guard (by rw [deepRows_length, deepRows_length]; exact el0) ?_
 refine Yp.tm (fun i hi => hi) (Yp.T hB g3 (by omega) (by omega)) (fun y3 t3 hy => ?_)
 obtain ⟨ys3, et3, el3, en3, hh3⟩ := hy
 simp only [] at et3 en3 hh3
 subst et3 en3
 try refine Tm.guard (by rw [deepRows_length, deepRows_length]; exact el3) ?_
 exact Tm.ret ⟨ys0, ys3, rfl, rfl, rfl, el0, el3, fun k hk => hk⟩
theorem YS.T {aB : LD} {aA aE : Int} {aD : LD} (ga0_0 : Zm Yb maxLen aB) (ga0_1 : (Lit.int .i64 aA).wf = true) (ga0_2 : (Lit.int .i64 aE).wf = true) (ga0_3 : Zm Yc maxLen aD) : Tm (Zay 1) (fun k => YS.t k aB aA aE aD) (fun r => r = true) := by
 unfold YS.t YS.g
 have hm := Za
 have hlim : lim = 1048576 := rfl
 refine Yac.tm (fun i hi => hi) (Yac.T (by first | assumption | omega) (by first | assumption | omega) (by first | assumption | omega) (by first | assumption | omega)) (fun y2 hy1 => ?_)
 rcases hy1 with hy1 | ⟨p6, p7, q3, q4, q5, _⟩
 ·exact Tm.ite (fun _ => Tm.ret (by rfl)) (fun h => by simp at h; omega)
 refine Tm.ite (fun h8 => ?_) (fun h8 => ?_)
 ·try simp only [bz0, bz1, bz2, bz3, bz4, bz5, bz6, bz7, bz8, bz9, bza] at h8
  exact Tm.ret (by first | rfl | (exfalso; omega) | (exfalso; simp [Zi] at *))
 ·try simp only [bz0, bz1, bz2, bz3, bz4, bz5, bz6, bz7, bz8, bz9, bza] at h8
  refine Y7.tm (fun i hi => hi) (Y7.T (by first | assumption | omega) (by first | assumption | omega)) (fun y10 y11 y12 y13 hy9 => ?_)
  try simp only [] at hy9
  obtain ⟨rfl, rfl, rfl, rfl, _⟩ := hy9
  try simp only [ZF]
  refine Yao.tm (fun i hi => hi) (Tm.self (Yao.T (by first | assumption | omega) (by first | assumption | omega) (by first | assumption | omega) (by first | assumption | omega) (by first | assumption | omega) (by first | assumption | omega))) (fun y15 y16 hy14 => ?_)
  have hf17 := hy14.1
  try simp only [] at hf17
  obtain ⟨q18, q19, _⟩ := hf17
  refine Y7.tm (fun i hi => hi) (Y7.T (by first | assumption | omega) (by first | assumption | omega)) (fun y21 y22 y23 y24 hy20 => ?_)
  try simp only [] at hy20
  obtain ⟨rfl, rfl, rfl, rfl, _⟩ := hy20
  try simp only [ZF]
  refine Yan.tm (fun i hi => hi) (Tm.at (ok := (Zay 1)) (v := (y15, Zs (C.immRows y16))) (fun k hk => Yan.same (by first | assumption | omega) (by first | assumption | omega) (by first | assumption | omega) (by first | assumption | omega) (by first | assumption | omega) (by first | assumption | omega) hk ((hy14.2) k hk))) (fun y26 y27 hy25 => ?_)
  simp only [Prod.mk.injEq] at hy25; obtain ⟨hy25e0, hy25e1⟩ := hy25; subst y26 y27
  try simp only [ZF]
  refine YZ.tm (fun i hi => hi) (YZ.T (by first | assumption | omega) (by first | assumption | omega)) (fun y29 hy28 => ?_)
  subst hy28
  refine Tm.ite (fun h30 => ?_) (fun h30 => ?_)
  ·try simp only [bz0, bz1, bz2, bz3, bz4, bz5, bz6, bz7, bz8, bz9, bza] at h30
   exact Tm.ret (by first | rfl | (exfalso; omega) | (exfalso; simp [Zi] at *))
  ·try simp only [bz0, bz1, bz2, bz3, bz4, bz5, bz6, bz7, bz8, bz9, bza] at h30
   refine Y7.tm (fun i hi => hi) (Y7.T (by first | assumption | omega) (by first | assumption | omega)) (fun y32 y33 y34 y35 hy31 => ?_)
   try simp only [] at hy31
   obtain ⟨rfl, rfl, rfl, rfl, _⟩ := hy31
   try simp only [ZF]
   refine Yad.tm (fun i hi => hi) (Yad.T (by first | assumption | omega) (by first | assumption | omega) (by first | assumption | omega)) (fun y37 hy36 => ?_)
   subst hy36
   refine Tm.ite (fun h38 => ?_) (fun h38 => ?_)
   ·try simp only [bz0, bz1, bz2, bz3, bz4, bz5, bz6, bz7, bz8, bz9, bza] at h38
    exact Tm.ret (by first | rfl | (exfalso; omega) | (exfalso; simp [Zi] at *))
   ·try simp only [bz0, bz1, bz2, bz3, bz4, bz5, bz6, bz7, bz8, bz9, bza] at h38
    refine Y3.tm (fun i hi => hi) (Y3.T (B := 2097152) (by decide) (by first | assumption | exact Yb.wide (by assumption)) (by first | assumption | exact Yc.wide (by assumption)) (by omega) (by omega)) (fun y40 y41 y42 hy39 => ?_)
    obtain ⟨ys44, ys45, en50, et46, et47, el48, el49, hh43⟩ := hy39
    simp only [] at en50 et46 et47 hh43
    subst en50 et46 et47
    refine Tm.guard (by first | omega | (simp only [deepRows_length]; assumption) | (simp only [lim, Za, Z6] at *; omega) | (simp only [lim, Z6] at *; refine ⟨?_, ?_, ?_, ?_⟩ <;> omega)) ?_
    refine Tm.guard (by first | omega | (simp only [deepRows_length]; assumption) | (simp only [lim, Za, Z6] at *; omega) | (simp only [lim, Z6] at *; refine ⟨?_, ?_, ?_, ?_⟩ <;> omega)) ?_
    refine Tm.ite (fun h51 => ?_) (fun h51 => ?_)
    ·try simp only [bz0, bz1, bz2, bz3, bz4, bz5, bz6, bz7, bz8, bz9, bza] at h51
     exact Tm.ret (by first | rfl | (exfalso; omega) | (exfalso; simp [Zi] at *))
    ·try simp only [bz0, bz1, bz2, bz3, bz4, bz5, bz6, bz7, bz8, bz9, bza] at h51
     refine YZ.tm (fun i hi => hi) (YZ.T (by first | assumption | omega) (by first | assumption | omega)) (fun y53 hy52 => ?_)
     subst hy52
     refine Tm.ite (fun h54 => ?_) (fun h54 => ?_)
     ·try simp only [bz0, bz1, bz2, bz3, bz4, bz5, bz6, bz7, bz8, bz9, bza] at h54
      exact Tm.ret (by first | rfl | (exfalso; omega) | (exfalso; simp [Zi] at *))
     ·try simp only [bz0, bz1, bz2, bz3, bz4, bz5, bz6, bz7, bz8, bz9, bza] at h54
      refine YR.tm (fun i hi => hi) (YR.T (B := 2097152) (by decide) (by first | assumption | exact Yb.wide (by assumption)) (by omega) (by omega)) (fun y56 y57 hy55 => ?_)
      obtain ⟨ys59, en62, et60, el61, hh58⟩ := hy55
      simp only [] at en62 et60 hh58
      subst en62 et60
      refine Tm.guard (by first | omega | (simp only [deepRows_length]; assumption) | (simp only [lim, Za, Z6] at *; omega) | (simp only [lim, Z6] at *; refine ⟨?_, ?_, ?_, ?_⟩ <;> omega)) ?_
      try simp only [ZF]
      refine YX.tm (fun i hi => hi) (Tm.at (ok := (Zay 1)) (fun k hk => hh58 k hk)) (fun y64 hy63 => ?_)
      subst hy63
      refine Tm.ite (fun h65 => ?_) (fun h65 => ?_)
      ·try simp only [bz0, bz1, bz2, bz3, bz4, bz5, bz6, bz7, bz8, bz9, bza] at h65
       exact Tm.ret (by first | rfl | (exfalso; omega) | (exfalso; simp [Zi] at *))
      ·try simp only [bz0, bz1, bz2, bz3, bz4, bz5, bz6, bz7, bz8, bz9, bza] at h65
       refine Tm.ite (fun h66 => ?_) (fun h66 => ?_)
       ·try simp only [bz0, bz1, bz2, bz3, bz4, bz5, bz6, bz7, bz8, bz9, bza] at h66
        exact Tm.ret (by first | rfl | (exfalso; omega) | (exfalso; simp [Zi] at *))
       ·try simp only [bz0, bz1, bz2, bz3, bz4, bz5, bz6, bz7, bz8, bz9, bza] at h66
        refine Y7.tm (fun i hi => hi) (Y7.T (by first | assumption | omega) (by first | assumption | omega)) (fun y68 y69 y70 y71 hy67 => ?_)
        try simp only [] at hy67
        obtain ⟨rfl, rfl, rfl, rfl, _⟩ := hy67
        try simp only [ZF]
        refine Yan.tm (fun i hi => hi) (Tm.at (ok := (Zay 1)) (v := (y15, Zs (C.immRows y16))) (fun k hk => Yan.same (by first | assumption | omega) (by first | assumption | omega) (by first | assumption | omega) (by first | assumption | omega) (by first | assumption | omega) (by first | assumption | omega) hk ((hy14.2) k hk))) (fun y73 y74 hy72 => ?_)
        simp only [Prod.mk.injEq] at hy72; obtain ⟨hy72e0, hy72e1⟩ := hy72; subst y73 y74
        try simp only [ZF]
        refine YZ.tm (fun i hi => hi) (YZ.T (by first | assumption | omega) (by first | assumption | omega)) (fun y76 hy75 => ?_)
        subst hy75
        refine Tm.ite (fun h77 => ?_) (fun h77 => ?_)
        ·try simp only [bz0, bz1, bz2, bz3, bz4, bz5, bz6, bz7, bz8, bz9, bza] at h77
         exact Tm.ret (by first | rfl | (exfalso; omega) | (exfalso; simp [Zi] at *))
        ·try simp only [bz0, bz1, bz2, bz3, bz4, bz5, bz6, bz7, bz8, bz9, bza] at h77
         try simp only [ZF]
         refine YX.tm (fun i hi => hi) (Tm.at (ok := (Zay 1)) (fun k hk => hh58 k hk)) (fun y79 hy78 => ?_)
         subst hy78
         refine Tm.ite (fun h80 => ?_) (fun h80 => ?_)
         ·try simp only [bz0, bz1, bz2, bz3, bz4, bz5, bz6, bz7, bz8, bz9, bza] at h80
          exact Tm.ret (by first | rfl | (exfalso; omega) | (exfalso; simp [Zi] at *))
         ·try simp only [bz0, bz1, bz2, bz3, bz4, bz5, bz6, bz7, bz8, bz9, bza] at h80
          refine Tm.ite (fun h81 => ?_) (fun h81 => ?_)
          ·try simp only [bz0, bz1, bz2, bz3, bz4, bz5, bz6, bz7, bz8, bz9, bza] at h81
           exact Tm.ret (by first | rfl | (exfalso; omega) | (exfalso; simp [Zi] at *))
          ·try simp only [bz0, bz1, bz2, bz3, bz4, bz5, bz6, bz7, bz8, bz9, bza] at h81
           exact Tm.ret (by first | rfl | (exfalso; omega) | (exfalso; simp [Zi] at *))
open Go.ChangeShapes Go.WideShapes Go.ChangeAt Go.RowKit
open Go.ChangeMaps (open_string shut_string)
theorem own : ownKnob Try.prog.godebug = none := by kernel_rfl
theorem laidOut : laidOutB Try.prog = true := by kernel_rfl
theorem goodS_9 {r : List D} (h : RowS Try.prog maxLen 9 r) : RS maxLen r := by
 have hh := h.open (show Zy Try.prog 6 9 = [9] from by kernel_rfl)
 obtain ⟨d0, l0, rfl, g0, hh0⟩ := Zr hh
 obtain ⟨c0, rfl, k0⟩ := Zbb (by kernel_rfl) g0
 obtain rfl := Za0 hh0
 exact ⟨c0, rfl, k0, trivial⟩
theorem goodISILSELXE_142_n (n : Nat) : ∀ r : List D, SizeOf.sizeOf r = n → RowS Try.prog maxLen 142 r → ∃ h, Yap maxLen h r := by
 induction n using Nat.strongRecOn with
 | ind n ih =>
 intro r hn h
 have hh := h.open (show Zy Try.prog 6 142 = [3, 9, 3, 25, 140] from by kernel_rfl)
 obtain ⟨d0, l0, rfl, g0, hh0⟩ := Zr hh
 obtain ⟨c0, rfl, k0⟩ := Zam (k := .i64) (by kernel_rfl) g0
 obtain ⟨d1, l1, rfl, g1, hh1⟩ := Zr hh0
 obtain ⟨c1, rfl, k1⟩ := Zbb (by kernel_rfl) g1
 obtain ⟨d2, l2, rfl, g2, hh2⟩ := Zr hh1
 obtain ⟨c2, rfl, k2⟩ := Zam (k := .i64) (by kernel_rfl) g2
 obtain ⟨d3, l3, rfl, g3, hh3⟩ := Zr hh2
 obtain ⟨c3, rfl, k3, m3⟩ := ZaH (e := 9) (by kernel_rfl) g3
 obtain ⟨d4, l4, rfl, g4, hh4⟩ := Zr hh3
 obtain ⟨c4, rfl, k4, m4⟩ := ZaH (e := 142) (by kernel_rfl) g4
 obtain rfl := Za0 hh4
 have hs : ∀ r' ∈ c4, SizeOf.sizeOf r' < n := fun r' hr => by have := List.sizeOf_lt_of_mem hr; simp at hn; omega
 obtain ⟨hq, q4⟩ := common (Q := Yap maxLen) (fun _ _ _ => Yap.mono) c4 fun r' hr => ih _ (hs r' hr) r' rfl (m4 r' hr)
 exact ⟨hq + 1, .mk c0 c1 c2 c3 c4 k0 k1 k2 ⟨k3, fun r hr => goodS_9 (m3 r hr)⟩ k4 q4⟩
theorem Yau {r : List D} (h : RowS Try.prog maxLen 142 r) : YQ maxLen r := by
 obtain ⟨h1, h2⟩ := goodISILSELXE_142_n _ r rfl h
 exact ⟨h1, fun hb => absurd (show (9223372036854775807 : Nat) ≤ 1099511627776 from hb) (by decide), h2⟩
theorem Yat {r : List D} (h : RowS Try.prog maxLen 255 r) : Yb maxLen r := by
 have hh := h.open (show Zy Try.prog 6 255 = [3, 9, 3, 3, 3, 4, 25, 3, 9, 3, 25, 140, 3, 9, 3, 25, 140] from by kernel_rfl)
 obtain ⟨d0, l0, rfl, g0, hh0⟩ := Zr hh
 obtain ⟨c0, rfl, k0⟩ := Zam (k := .i64) (by kernel_rfl) g0
 obtain ⟨d1, l1, rfl, g1, hh1⟩ := Zr hh0
 obtain ⟨c1, rfl, k1⟩ := Zbb (by kernel_rfl) g1
 obtain ⟨d2, l2, rfl, g2, hh2⟩ := Zr hh1
 obtain ⟨c2, rfl, k2⟩ := Zam (k := .i64) (by kernel_rfl) g2
 obtain ⟨d3, l3, rfl, g3, hh3⟩ := Zr hh2
 obtain ⟨c3, rfl, k3⟩ := Zam (k := .i64) (by kernel_rfl) g3
 obtain ⟨d4, l4, rfl, g4, hh4⟩ := Zr hh3
 obtain ⟨c4, rfl, k4⟩ := Zam (k := .i64) (by kernel_rfl) g4
 obtain ⟨d5, l5, rfl, g5, hh5⟩ := Zr hh4
 obtain ⟨c5, rfl⟩ := good_bool (by kernel_rfl) g5
 obtain ⟨d6, l6, rfl, g6, hh6⟩ := Zr hh5
 obtain ⟨c6, rfl, k6, m6⟩ := ZaH (e := 9) (by kernel_rfl) g6
 obtain ⟨d7, l7, rfl, g7, hh7⟩ := Zr hh6
 obtain ⟨c7, rfl, k7⟩ := Zam (k := .i64) (by kernel_rfl) g7
 obtain ⟨d8, l8, rfl, g8, hh8⟩ := Zr hh7
 obtain ⟨c8, rfl, k8⟩ := Zbb (by kernel_rfl) g8
 obtain ⟨d9, l9, rfl, g9, hh9⟩ := Zr hh8
 obtain ⟨c9, rfl, k9⟩ := Zam (k := .i64) (by kernel_rfl) g9
 obtain ⟨d10, l10, rfl, g10, hh10⟩ := Zr hh9
 obtain ⟨c10, rfl, k10, m10⟩ := ZaH (e := 9) (by kernel_rfl) g10
 obtain ⟨d11, l11, rfl, g11, hh11⟩ := Zr hh10
 obtain ⟨c11, rfl, k11, m11⟩ := ZaH (e := 142) (by kernel_rfl) g11
 obtain ⟨d12, l12, rfl, g12, hh12⟩ := Zr hh11
 obtain ⟨c12, rfl, k12⟩ := Zam (k := .i64) (by kernel_rfl) g12
 obtain ⟨d13, l13, rfl, g13, hh13⟩ := Zr hh12
 obtain ⟨c13, rfl, k13⟩ := Zbb (by kernel_rfl) g13
 obtain ⟨d14, l14, rfl, g14, hh14⟩ := Zr hh13
 obtain ⟨c14, rfl, k14⟩ := Zam (k := .i64) (by kernel_rfl) g14
 obtain ⟨d15, l15, rfl, g15, hh15⟩ := Zr hh14
 obtain ⟨c15, rfl, k15, m15⟩ := ZaH (e := 9) (by kernel_rfl) g15
 obtain ⟨d16, l16, rfl, g16, hh16⟩ := Zr hh15
 obtain ⟨c16, rfl, k16, m16⟩ := ZaH (e := 142) (by kernel_rfl) g16
 obtain rfl := Za0 hh16
 exact ⟨c0, c1, c2, c3, c4, c5, c6, c7, c8, c9, c10, c11, c12, c13, c14, c15, c16, rfl, k0, k1, k2, k3, k4, ⟨k6, fun r hr => goodS_9 (m6 r hr)⟩, k7, k8, k9, ⟨k10, fun r hr => goodS_9 (m10 r hr)⟩, ⟨k11, fun r hr => Yau (m11 r hr)⟩, k12, k13, k14, ⟨k15, fun r hr => goodS_9 (m15 r hr)⟩, ⟨k16, fun r hr => Yau (m16 r hr)⟩, trivial⟩
theorem Yas {r : List D} (h : RowS Try.prog maxLen 264 r) : Yc maxLen r := by
 have hh := h.open (show Zy Try.prog 6 264 = [3, 4, 3, 9, 3, 3, 3, 4, 25, 3, 9, 3, 25, 140, 3, 9, 3, 25, 140] from by kernel_rfl)
 obtain ⟨d0, l0, rfl, g0, hh0⟩ := Zr hh
 obtain ⟨c0, rfl, k0⟩ := Zam (k := .i64) (by kernel_rfl) g0
 obtain ⟨d1, l1, rfl, g1, hh1⟩ := Zr hh0
 obtain ⟨c1, rfl⟩ := good_bool (by kernel_rfl) g1
 obtain ⟨d2, l2, rfl, g2, hh2⟩ := Zr hh1
 obtain ⟨c2, rfl, k2⟩ := Zam (k := .i64) (by kernel_rfl) g2
 obtain ⟨d3, l3, rfl, g3, hh3⟩ := Zr hh2
 obtain ⟨c3, rfl, k3⟩ := Zbb (by kernel_rfl) g3
 obtain ⟨d4, l4, rfl, g4, hh4⟩ := Zr hh3
 obtain ⟨c4, rfl, k4⟩ := Zam (k := .i64) (by kernel_rfl) g4
 obtain ⟨d5, l5, rfl, g5, hh5⟩ := Zr hh4
 obtain ⟨c5, rfl, k5⟩ := Zam (k := .i64) (by kernel_rfl) g5
 obtain ⟨d6, l6, rfl, g6, hh6⟩ := Zr hh5
 obtain ⟨c6, rfl, k6⟩ := Zam (k := .i64) (by kernel_rfl) g6
 obtain ⟨d7, l7, rfl, g7, hh7⟩ := Zr hh6
 obtain ⟨c7, rfl⟩ := good_bool (by kernel_rfl) g7
 obtain ⟨d8, l8, rfl, g8, hh8⟩ := Zr hh7
 obtain ⟨c8, rfl, k8, m8⟩ := ZaH (e := 9) (by kernel_rfl) g8
 obtain ⟨d9, l9, rfl, g9, hh9⟩ := Zr hh8
 obtain ⟨c9, rfl, k9⟩ := Zam (k := .i64) (by kernel_rfl) g9
 obtain ⟨d10, l10, rfl, g10, hh10⟩ := Zr hh9
 obtain ⟨c10, rfl, k10⟩ := Zbb (by kernel_rfl) g10
 obtain ⟨d11, l11, rfl, g11, hh11⟩ := Zr hh10
 obtain ⟨c11, rfl, k11⟩ := Zam (k := .i64) (by kernel_rfl) g11
 obtain ⟨d12, l12, rfl, g12, hh12⟩ := Zr hh11
 obtain ⟨c12, rfl, k12, m12⟩ := ZaH (e := 9) (by kernel_rfl) g12
 obtain ⟨d13, l13, rfl, g13, hh13⟩ := Zr hh12
 obtain ⟨c13, rfl, k13, m13⟩ := ZaH (e := 142) (by kernel_rfl) g13
 obtain ⟨d14, l14, rfl, g14, hh14⟩ := Zr hh13
 obtain ⟨c14, rfl, k14⟩ := Zam (k := .i64) (by kernel_rfl) g14
 obtain ⟨d15, l15, rfl, g15, hh15⟩ := Zr hh14
 obtain ⟨c15, rfl, k15⟩ := Zbb (by kernel_rfl) g15
 obtain ⟨d16, l16, rfl, g16, hh16⟩ := Zr hh15
 obtain ⟨c16, rfl, k16⟩ := Zam (k := .i64) (by kernel_rfl) g16
 obtain ⟨d17, l17, rfl, g17, hh17⟩ := Zr hh16
 obtain ⟨c17, rfl, k17, m17⟩ := ZaH (e := 9) (by kernel_rfl) g17
 obtain ⟨d18, l18, rfl, g18, hh18⟩ := Zr hh17
 obtain ⟨c18, rfl, k18, m18⟩ := ZaH (e := 142) (by kernel_rfl) g18
 obtain rfl := Za0 hh18
 exact ⟨c0, c1, c2, c3, c4, c5, c6, c7, c8, c9, c10, c11, c12, c13, c14, c15, c16, c17, c18, rfl, k0, k2, k3, k4, k5, k6, ⟨k8, fun r hr => goodS_9 (m8 r hr)⟩, k9, k10, k11, ⟨k12, fun r hr => goodS_9 (m12 r hr)⟩, ⟨k13, fun r hr => Yau (m13 r hr)⟩, k14, k15, k16, ⟨k17, fun r hr => goodS_9 (m17 r hr)⟩, ⟨k18, fun r hr => Yau (m18 r hr)⟩, trivial⟩
theorem types : lawTys Try.prog [255, 9, 142, 264] = true := by kernel_rfl
set_option maxRecDepth 100000 in
theorem lifted (os : Os) (started : os.Started) (H : Type) (enc : TypeId × Value → H) :
  ReturnsInHanded {} Try.checked os 10 .any (Rows.fnExactListSpec.pre6 enc Try.prog Try.f10 Rows.fnExactListRow.domain false) (Rows.fnExactListSpec.post enc Try.prog Try.f10 false true false false) := by
 refine returnsInHanded_of_change_sized (C := Try.checked) own started (by kernel_rfl) Try.func10
  (ChangeSpec.witness6 (enc := enc) (C := Try.checked) false ⟨#[], #[.agg #[.slice none 0 0, .int .i64 0, .int .i64 0, .slice none 0 0]], []⟩ 8 (by kernel_rfl) (by kernel_rfl) (by kernel_rfl) (by kernel_rfl)) ?_
 intro W base args ds gs before hval0 hW hcnd hsz0 _
 have hval : ∀ (j : Nat) t v, Try.f10.params[j]? = some t → args[j]? = some v → Value.okWide Try.prog W .any base t v := hval0
 have hW' := hW
 obtain ⟨p, q, hA0, hV, rfl, hfz, hnd⟩ := hW
 have hA : DataW.TrodAll enc Try.prog W 0 (fun _ => true) true Try.f10.params.toList args.toList ds p := hA0
 have hpar : Try.f10.params = #[90] := by kernel_rfl
 rw [hpar] at hA hval
 obtain ⟨v0, vs0, d0, ds0, p0, q0, hargs, rfl, rfl, h0, r0⟩ := trodAll_cons hA
 obtain ⟨rfl, rfl, rfl⟩ := trodAll_nil r0
 obtain rfl : args = #[v0] := by cases args; simp_all
 obtain ⟨rfl, rfl⟩ := trodVars_none hV
 have k0 := h0
 have lt0 : ∀ x ∈ p0, x.block < W.heap.size := by obtain ⟨m, hm⟩ := k0; exact DataW.trod_lt m _ _ _ hm
 obtain ⟨cs0, xs0, rfl, hl0, hc0, hg0⟩ := open_agg types (by kernel_rfl) (by kernel_rfl) (hval 0 90 v0 rfl rfl) h0
 have hj0 := hg0.open (show Zy Try.prog 6 90 = [77, 3, 3, 88] from by kernel_rfl)
 obtain ⟨ea0_0, la0_0, rfl, wa0_0, hj0_0⟩ := Zr hj0
 obtain ⟨aB, rfl, ka0_0, ma0_0⟩ := ZaH (e := 255) (by kernel_rfl) wa0_0
 obtain ⟨ea0_1, la0_1, rfl, wa0_1, hj0_1⟩ := Zr hj0_0
 obtain ⟨aA, rfl, ka0_1⟩ := Zam (k := .i64) (by kernel_rfl) wa0_1
 obtain ⟨ea0_2, la0_2, rfl, wa0_2, hj0_2⟩ := Zr hj0_1
 obtain ⟨aE, rfl, ka0_2⟩ := Zam (k := .i64) (by kernel_rfl) wa0_2
 obtain ⟨ea0_3, la0_3, rfl, wa0_3, hj0_3⟩ := Zr hj0_2
 obtain ⟨aD, rfl, ka0_3, ma0_3⟩ := ZaH (e := 264) (by kernel_rfl) wa0_3
 obtain rfl := Za0 hj0_3
 clear hA0 hval0 hsz0
 obtain ⟨kb, hkb⟩ : ∃ k, lv 1 ≤ k := ⟨_, Nat.le_refl _⟩
 obtain ⟨z, rfl, hz⟩ := YS.T ⟨ka0_0, fun r hr => Yat (ma0_0 r hr)⟩ ka0_1 ka0_2 ⟨ka0_3, fun r hr => Yas (ma0_3 r hr)⟩
 refine (law_calls (YS.ok kb) rfl rfl (by kernel_rfl) (aa := YS.as aB aA aE aD) (vs := [.agg cs0.toArray]) ?_ ⟨(), ?_⟩).mono fun e W' ⟨he, bel⟩ => ?_
 ·exact (Zab.cons' ⟨rfl, cs0, rfl, hl0, hc0⟩ Zab.nil')
 ·show YS.f kb aB aA aE aD (YS.kt aB aA aE aD _) = some ()
  rw [YS.f_of (hz kb hkb)]
  rfl
 ·subst he
  exact ⟨_, rfl, _, _, _, [], _, [], hW', trodAll_mk1 (shut_bool (by kernel_rfl) _), (trodAll_cons_mk (Below.trod laidOut (by kernel_rfl) (of_decide_eq_true (by kernel_rfl)) k0 bel lt0) trodAll_mk0), rfl, bel.frame _, fun h => by cases h⟩
theorem facts1 : joined1 Try.prog 10 Try.f10 Rows.fnExactListSpec Rows.fnExactListRow = true := by kernel_rfl
theorem facts2 : joined2 Try.prog 10 Try.f10 Rows.fnExactListSpec Rows.fnExactListRow = true := by kernel_rfl
theorem facts3 : joined3 Try.prog 10 Try.f10 Rows.fnExactListSpec Rows.fnExactListRow = true := by kernel_rfl
theorem facts4 : joined4 Try.prog 10 Try.f10 Rows.fnExactListSpec Rows.fnExactListRow = true := by kernel_rfl
theorem facts5 : joined5 Try.prog 10 Try.f10 Rows.fnExactListSpec Rows.fnExactListRow = true := by kernel_rfl
theorem facts6 : joined6 Try.prog 10 Try.f10 Rows.fnExactListSpec Rows.fnExactListRow = true := by kernel_rfl
theorem facts7 : joined7 Try.prog 10 Try.f10 Rows.fnExactListSpec Rows.fnExactListRow = true := by kernel_rfl
theorem facts8 : joined8 Try.prog 10 Try.f10 Rows.fnExactListSpec Rows.fnExactListRow = true := by kernel_rfl
theorem over : Rows.fnExactListRow.holds Try.pinned (OpenSpec.ofChange Rows.fnExactListSpec) :=
 OpenClaim.holds_of_wide 10 Try.f10 rfl rfl rfl rfl rfl rfl rfl ⟨rfl, rfl, rfl, rfl, rfl⟩ rfl rfl rfl rfl rfl (by kernel_rfl) Try.func10 (joined_of facts1 facts2 facts3 facts4 facts5 facts6 facts7 facts8)
  (of_decide_eq_true (by kernel_rfl)) (by unfold Func.isWrapper; first | (rw [if_pos (by decide +kernel)]; kernel_rfl) | (rw [if_neg (by decide +kernel)]; exact ⟨rfl, rfl⟩))
  (fun os started H enc _ => lifted os started H enc)
theorem fnExactList_holds : Rows.FnExactListSaid := over
end Go.Proofs.Ytljkbknnnpjmgaa
