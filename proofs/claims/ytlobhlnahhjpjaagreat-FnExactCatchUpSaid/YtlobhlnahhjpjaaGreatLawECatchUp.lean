/- FnExactCatchUp: the program's function answers as the reference's,for every input. No condition. -/
import Derived.Test.YtlobhlnahhjpjaaGreatRows
import Derived.Test.YtlobhlnahhjpjaaGreatYECatchUp1
import Derived.KernelRfl
import Derived.WalkKit
import Derived.ProofKit
import Derived.OpenShut
import Derived.ShutString
import Derived.ChangeOld
import Derived.Below
import Derived.SizedLaws
set_option linter.unusedVariables false
set_option linter.unusedSimpArgs false
namespace Go.Proofs.YtlobhlnahhjpjaaGreat
open Go Go.T Go.Proofs
set_option maxRecDepth 100000 in
set_option maxHeartbeats 8000000 in
theorem Yz.T {B : Nat} (hB : B ≤ 1099511627776) {xs : LD} {n : Int} (g : ZB Yb B xs) (h0 : 0 ≤ n) (h1 : n + Zu xs ≤ 4611686018427387904) : Tm (Zai 1) (fun k => Yz.t k (Zc xs) n) (fun z => ∃ ys,z.2 = Zc ys ∧ ys.length = xs.length ∧ z.1 = n + Zu xs ∧ ∀ k,(Zai 1) k → (Zai 1) k) := by
 have hb : big = 2 ^ 64 := rfl
 have hl := g.1
 have key : Tm (Zai 1) (fun k => Yz.t k (Zc xs) n) (fun z => ∃ ys,z.2 = Zc ys ∧ ys.length = xs.length ∧ z.1 = n + Zu xs ∧ HeldL (fun _ _ _ => True) n ys z.1) := by
  unfold Yz.t Yz.g
  refine Tm.loop (okk := (Zai 1)) (p := fun k => k) (fun i hi => up0 hi) (b := fun k => Yz.l0 k (fun z0 z1 => some (z0,z1))) (fun v => match v with | (u,i,tab) => ((xs.length : Int) - i).toNat) (fun v => match v with | (u,i,tab) => 0 ≤ i ∧ i ≤ xs.length ∧ ∃ done : LD,done.length = i.toNat ∧ tab = Zc done ++ Zc (xs.drop i.toNat) ∧ u = n + Zu (xs.take i.toNat) ∧ HeldL (fun _ _ _ => True) n done u) ?_ ?_ ?_
  ·rintro ⟨u,i,tab⟩ hI
   simp only [] at hI ⊢
   omega
  ·exact ⟨by omega,by omega,[],rfl,by simp [Zc],by simp [Zu],.nil⟩
  ·rintro ⟨u,i,tab⟩ hI L hL
   simp only [] at hI
   obtain ⟨i0,i1,done,hd,rfl,hu,hH⟩ := hI
   have hA : (Zc done).length = i.toNat := by rw [ZS,hd]
   have hT : (Zc done ++ Zc (xs.drop i.toNat)).length = xs.length := by rw [List.length_append,hA,ZS,List.length_drop]; omega
   simp only [Yz.l0]
   refine Tm.ite (fun h4 => ?_) (fun h4 => ?_)
   ·simp only [decide_eq_true_eq,hT] at h4
    have hx := gR_at i0 h4
    obtain ⟨c0,c1,c2,c3,c4,c5,c6,c7,c8,c9,c10,c11,c12,c13,c14,c15,c16,c17,c18,e,k0,k2,k3,k4,k5,k6,k8,k9,k10,k11,k12,k13,k14,k15,k16,k17,k18,_⟩ := (g.2 _ (gR_mem i0 h4)).open
    rw [e] at hx
    have hdr := drop_at i0 hx
    have hw := wt_take i0 hx
    simp only [ZbY,wtD] at hw
    have hs := wt_split xs (i + 1).toNat
    rw [hdr] at hT ⊢
    simp only [Zc,ZN,deepD] at hT ⊢
    have hT2 := hT
    simp only [List.length_append,List.length_cons] at hT2
    refine Tm.guard (by first | decide | (simp only [List.length_modify,List.length_append,List.length_cons]; omega)) ?_
    refine Tm.guard (by first | decide | (simp only [List.length_modify,List.length_append,List.length_cons]; omega)) ?_
    refine Tm.guard (by first | decide | (simp only [List.length_modify,List.length_append,List.length_cons]; omega)) ?_
    refine Tm.guard (by first | decide | (simp only [List.length_modify,List.length_append,List.length_cons]; omega)) ?_
    refine Tm.guard (by first | decide | (simp only [List.length_modify,List.length_append,List.length_cons]; omega)) ?_
    refine Tm.guard (by first | decide | (simp only [List.length_modify,List.length_append,List.length_cons]; omega)) ?_
    refine Tm.guard (by first | decide | (simp only [List.length_modify,List.length_append,List.length_cons]; omega)) ?_
    try simp (disch := omega) only [Z9]
    refine Yg.tm (fun i hi => up0 hi.1) (Tm.at (ok := Fuel) (v := Yg.v _) (fun k hk => Yg.tv (by omega) hk)) (fun y hy => ?_)
    subst hy
    refine Tm.guard (by first | decide | (simp only [List.length_modify,List.length_append,List.length_cons]; omega)) ?_
    refine Tm.guard (by first | decide | (simp only [List.length_modify,List.length_append,List.length_cons]; omega)) ?_
    refine Tm.guard (by first | decide | (simp only [List.length_modify,List.length_append,List.length_cons]; omega)) ?_
    refine Tm.guard (by first | decide | (simp only [List.length_modify,List.length_append,List.length_cons]; omega)) ?_
    refine Tm.guard (by first | decide | (simp only [List.length_modify,List.length_append,List.length_cons]; omega)) ?_
    refine Tm.guard (by first | decide | (simp only [List.length_modify,List.length_append,List.length_cons]; omega)) ?_
    refine Tm.guard (by first | decide | (simp only [List.length_modify,List.length_append,List.length_cons]; omega)) ?_
    refine Tm.guard (by first | decide | (simp only [List.length_modify,List.length_append,List.length_cons]; omega)) ?_
    refine Tm.guard (by first | decide | (simp only [List.length_modify,List.length_append,List.length_cons]; omega)) ?_
    refine Tm.guard (by first | decide | (simp only [List.length_modify,List.length_append,List.length_cons]; omega)) ?_
    refine Tm.guard (by first | decide | (simp only [List.length_modify,List.length_append,List.length_cons]; omega)) ?_
    refine Tm.guard (by first | decide | (simp only [List.length_modify,List.length_append,List.length_cons]; omega)) ?_
    try simp only [modify_mid hA,atNat_mid hA,Zs,List.take_zero,List.take_succ_cons,List.drop_succ_cons,List.drop_zero,List.nil_append,List.cons_append,List.length_cons,List.length_nil,Nat.zero_add,Nat.reduceAdd,List.set_cons_succ,List.set_cons_zero]
    refine Tm.uncons ?_
    refine Tm.cOwn ?_
    try simp (disch := omega) only [Z9]
    refine Yl.tm (fun i hi => up0 hi.1) (Yl.T hB k8 (by omega) (by omega)) (fun y8 t8 hy => ?_)
    obtain ⟨ys8,et8,el8,en8,hh8⟩ := hy
    simp only [] at et8 en8 hh8
    subst et8 en8
    refine Tm.guard (by first | decide | (simp only [List.length_modify,List.length_append,List.length_cons]; omega)) ?_
    refine Tm.guard (by first | decide | (simp only [List.length_modify,List.length_append,List.length_cons]; omega)) ?_
    try simp (disch := omega) only [Z9]
    refine Yg.tm (fun i hi => up0 hi.1) (Tm.at (ok := Fuel) (v := Yg.v _) (fun k hk => Yg.tv (by omega) hk)) (fun y hy => ?_)
    subst hy
    refine Tm.guard (by first | decide | (simp only [List.length_modify,List.length_append,List.length_cons]; omega)) ?_
    refine Tm.guard (by first | decide | (simp only [List.length_modify,List.length_append,List.length_cons]; omega)) ?_
    refine Tm.guard (by first | decide | (simp only [List.length_modify,List.length_append,List.length_cons]; omega)) ?_
    refine Tm.guard (by first | decide | (simp only [List.length_modify,List.length_append,List.length_cons]; omega)) ?_
    refine Tm.guard (by first | decide | (simp only [List.length_modify,List.length_append,List.length_cons]; omega)) ?_
    try simp only [modify_mid hA,atNat_mid hA,Zs,List.take_zero,List.take_succ_cons,List.drop_succ_cons,List.drop_zero,List.nil_append,List.cons_append,List.length_cons,List.length_nil,Nat.zero_add,Nat.reduceAdd,List.set_cons_succ,List.set_cons_zero]
    refine Tm.uncons ?_
    refine Tm.cOwn ?_
    try simp (disch := omega) only [Z9]
    refine Yl.tm (fun i hi => up0 hi.1) (Yl.T hB k12 (by omega) (by omega)) (fun y12 t12 hy => ?_)
    obtain ⟨ys12,et12,el12,en12,hh12⟩ := hy
    simp only [] at et12 en12 hh12
    subst et12 en12
    refine Tm.guard (by first | decide | (simp only [List.length_modify,List.length_append,List.length_cons]; omega)) ?_
    try simp only [modify_mid hA,atNat_mid hA,Zs,List.take_zero,List.take_succ_cons,List.drop_succ_cons,List.drop_zero,List.nil_append,List.cons_append,List.length_cons,List.length_nil,Nat.zero_add,Nat.reduceAdd,List.set_cons_succ,List.set_cons_zero]
    refine Tm.uncons ?_
    refine Tm.cOwn ?_
    try simp (disch := omega) only [Z9]
    refine Yi.tm (fun i hi => hi.1) (Yi.T hB k13 (by omega) (by omega)) (fun y13 t13 hy => ?_)
    obtain ⟨ys13,et13,el13,en13,hh13⟩ := hy
    simp only [] at et13 en13 hh13
    subst et13 en13
    refine Tm.guard (by first | decide | (simp only [List.length_modify,List.length_append,List.length_cons]; omega)) ?_
    refine Tm.guard (by first | decide | (simp only [List.length_modify,List.length_append,List.length_cons]; omega)) ?_
    try simp (disch := omega) only [Z9]
    refine Yg.tm (fun i hi => up0 hi.1) (Tm.at (ok := Fuel) (v := Yg.v _) (fun k hk => Yg.tv (by omega) hk)) (fun y hy => ?_)
    subst hy
    refine Tm.guard (by first | decide | (simp only [List.length_modify,List.length_append,List.length_cons]; omega)) ?_
    refine Tm.guard (by first | decide | (simp only [List.length_modify,List.length_append,List.length_cons]; omega)) ?_
    refine Tm.guard (by first | decide | (simp only [List.length_modify,List.length_append,List.length_cons]; omega)) ?_
    refine Tm.guard (by first | decide | (simp only [List.length_modify,List.length_append,List.length_cons]; omega)) ?_
    refine Tm.guard (by first | decide | (simp only [List.length_modify,List.length_append,List.length_cons]; omega)) ?_
    try simp only [modify_mid hA,atNat_mid hA,Zs,List.take_zero,List.take_succ_cons,List.drop_succ_cons,List.drop_zero,List.nil_append,List.cons_append,List.length_cons,List.length_nil,Nat.zero_add,Nat.reduceAdd,List.set_cons_succ,List.set_cons_zero]
    refine Tm.uncons ?_
    refine Tm.cOwn ?_
    try simp (disch := omega) only [Z9]
    refine Yl.tm (fun i hi => up0 hi.1) (Yl.T hB k17 (by omega) (by omega)) (fun y17 t17 hy => ?_)
    obtain ⟨ys17,et17,el17,en17,hh17⟩ := hy
    simp only [] at et17 en17 hh17
    subst et17 en17
    refine Tm.guard (by first | decide | (simp only [List.length_modify,List.length_append,List.length_cons]; omega)) ?_
    try simp only [modify_mid hA,atNat_mid hA,Zs,List.take_zero,List.take_succ_cons,List.drop_succ_cons,List.drop_zero,List.nil_append,List.cons_append,List.length_cons,List.length_nil,Nat.zero_add,Nat.reduceAdd,List.set_cons_succ,List.set_cons_zero]
    refine Tm.uncons ?_
    refine Tm.cOwn ?_
    try simp (disch := omega) only [Z9]
    refine Yi.tm (fun i hi => hi.1) (Yi.T hB k18 (by omega) (by omega)) (fun y18 t18 hy => ?_)
    obtain ⟨ys18,et18,el18,en18,hh18⟩ := hy
    simp only [] at et18 en18 hh18
    subst et18 en18
    try simp (disch := omega) only [Z9]
    try simp only [modify_mid hA,Zs,List.take_zero,List.take_succ_cons,List.drop_succ_cons,List.drop_zero,List.nil_append,List.cons_append,List.length_cons,List.length_nil,Nat.zero_add,Nat.reduceAdd,List.set_cons_succ,List.set_cons_zero]
    refine hL (_,_,_) ⟨by omega,by omega,done ++ [[.int .i64 (u),.bool (Int.tmod (u + 1) 3 == 0),.int .i64 (u + 1 + 1),.str (Yg.v (u + 1 + 1 + 1)),.int .i64 (u + 1 + 1 + 1 + 1),.int .i64 (u + 1 + 1 + 1 + 1 + 1),.int .i64 (u + 1 + 1 + 1 + 1 + 1 + 1),.bool (Int.tmod (u + 1 + 1 + 1 + 1 + 1 + 1 + 1) 3 == 0),.sl ys8,.int .i64 (u + 1 + 1 + 1 + 1 + 1 + 1 + 1 + 1 + (Zu c8 : Int)),.str (Yg.v (u + 1 + 1 + 1 + 1 + 1 + 1 + 1 + 1 + (Zu c8 : Int) + 1)),.int .i64 (u + 1 + 1 + 1 + 1 + 1 + 1 + 1 + 1 + (Zu c8 : Int) + 1 + 1),.sl ys12,.sl ys13,.int .i64 (u + 1 + 1 + 1 + 1 + 1 + 1 + 1 + 1 + (Zu c8 : Int) + 1 + 1 + 1 + (Zu c12 : Int) + (Zu c13 : Int)),.str (Yg.v (u + 1 + 1 + 1 + 1 + 1 + 1 + 1 + 1 + (Zu c8 : Int) + 1 + 1 + 1 + (Zu c12 : Int) + (Zu c13 : Int) + 1)),.int .i64 (u + 1 + 1 + 1 + 1 + 1 + 1 + 1 + 1 + (Zu c8 : Int) + 1 + 1 + 1 + (Zu c12 : Int) + (Zu c13 : Int) + 1 + 1),.sl ys17,.sl ys18]],by simp only [List.length_append,List.length_cons,List.length_nil]; omega,?_,by omega,HeldL.snoc hH trivial⟩ (by simp only []; omega)
    rw [Zbb]
    simp only [Zc,ZN,deepD,List.append_assoc,List.cons_append,List.nil_append]
   ·simp only [decide_eq_false_iff_not,hT] at h4
    refine Tm.ret ⟨done,?_,by omega,?_,hH⟩
    ·rw [List.drop_eq_nil_of_le (by omega)]
     simp only [Zc,List.append_nil]
    ·rw [List.take_of_length_le (by omega)] at hu
     exact hu
 obtain ⟨v,⟨ys,e1,e2,e3,hH⟩,h2⟩ := key
 exact ⟨v,⟨ys,e1,e2,e3,fun k hk => hk⟩,h2⟩
set_option maxRecDepth 100000 in
set_option maxHeartbeats 8000000 in
theorem Yaz.T {B : Nat} (hB : B ≤ 1099511627776) {c1 c2 : Int} {a0 a3 : LD} {n : Int} (g0 : ZB Ya B a0) (g3 : ZB Yb B a3) (h0 : 0 ≤ n) (h1 : n + Zu a0 + Zu a3 ≤ 4611686018427387904) : Tm (Zai 1) (fun k => Yaz.t k (Zc a0) c1 c2 (Zc a3) n) (fun z => ∃ ys0 ys3,z.1 = n + Zu a0 + Zu a3 ∧ z.2.1 = Zc ys0 ∧ z.2.2 = Zc ys3 ∧ ys0.length = a0.length ∧ ys3.length = a3.length ∧ ∀ k,(Zai 1) k → (Zai 1) k) := by
 unfold Yaz.t Yaz.g
 refine YI.tm (fun i hi => hi) (YI.T hB g0 (by omega) (by omega)) (fun y0 t0 hy => ?_)
 obtain ⟨ys0,et0,el0,en0,hh0⟩ := hy
 simp only [] at et0 en0 hh0
 subst et0 en0
 try refine Tm.guard (by rw [ZS,ZS]; exact el0) ?_
 refine Yz.tm (fun i hi => hi) (Yz.T hB g3 (by omega) (by omega)) (fun y3 t3 hy => ?_)
 obtain ⟨ys3,et3,el3,en3,hh3⟩ := hy
 simp only [] at et3 en3 hh3
 subst et3 en3
 try refine Tm.guard (by rw [ZS,ZS]; exact el3) ?_
 exact Tm.ret ⟨ys0,ys3,rfl,rfl,rfl,el0,el3,fun k hk => hk⟩
theorem Yav.T {aB : Int} {aA aM : LD} {aN aU : Int} {aO : LD} (ga0_0 : (Lit.int .i64 aB).wf = true) (ga0_1 : ZB Ya maxLen aA) (ga1_0 : ZB Ya maxLen aM) (ga1_1 : (Lit.int .i64 aN).wf = true) (ga1_2 : (Lit.int .i64 aU).wf = true) (ga1_3 : ZB Yb maxLen aO) : Tm (Zai 1) (fun k => Yav.t k aB aA aM aN aU aO) (fun r => r = true) := by
 unfold Yav.t Yav.g
 have hm := maxLen_eq
 have hlim : lim = 1048576 := rfl
 refine Yax.tm (fun i hi => hi) (Yax.T (by first | assumption | omega) (by first | assumption | omega) (by first | assumption | omega)) (fun y2 hy1 => ?_)
 rcases hy1 with hy1 | ⟨p5,p6,q3,q4,_⟩
 ·exact Tm.ite (fun _ => Tm.ret (by rfl)) (fun h => by simp at h; omega)
 refine Tm.ite (fun h7 => ?_) (fun h7 => ?_)
 ·try simp only [bz0,bz1,bz2,bz3,bz4,bz5,bz6,bz7,bz8,bz9,bza] at h7
  exact Tm.ret (by first | rfl | (exfalso; omega) | (exfalso; simp [strEq_self] at *))
 ·try simp only [bz0,bz1,bz2,bz3,bz4,bz5,bz6,bz7,bz8,bz9,bza] at h7
  refine YaJ.tm (fun i hi => hi) (YaJ.T (by first | assumption | omega) (by first | assumption | omega) (by first | assumption | omega) (by first | assumption | omega)) (fun y9 hy8 => ?_)
  rcases hy8 with hy8 | ⟨p13,p14,q10,q11,q12,_⟩
  ·exact Tm.ite (fun _ => Tm.ret (by rfl)) (fun h => by simp at h; omega)
  refine Tm.ite (fun h15 => ?_) (fun h15 => ?_)
  ·try simp only [bz0,bz1,bz2,bz3,bz4,bz5,bz6,bz7,bz8,bz9,bza] at h15
   exact Tm.ret (by first | rfl | (exfalso; omega) | (exfalso; simp [strEq_self] at *))
  ·try simp only [bz0,bz1,bz2,bz3,bz4,bz5,bz6,bz7,bz8,bz9,bza] at h15
   refine Yac.tm (fun i hi => hi) (Yac.T (by first | assumption | omega)) (fun y17 y18 hy16 => ?_)
   try simp only [] at hy16
   obtain ⟨rfl,rfl,_⟩ := hy16
   try simp only [ZK]
   refine Yao.tm (fun i hi => hi) (Yao.T (by first | assumption | omega) (by first | assumption | omega)) (fun y20 y21 y22 y23 hy19 => ?_)
   try simp only [] at hy19
   obtain ⟨rfl,rfl,rfl,rfl,_⟩ := hy19
   try simp only [ZK]
   refine YaC.tm (fun i hi => hi) (Tm.self (YaC.T (by first | assumption | omega) (by first | assumption | omega) (by first | assumption | omega) (by first | assumption | omega) (by first | assumption | omega) (by first | assumption | omega) (by first | assumption | omega) (by first | assumption | omega) (by first | assumption | omega))) (fun y25 y26 y27 hy24 => ?_)
   have hf28 := hy24.1
   try simp only [] at hf28
   obtain ⟨q29,q30,_⟩ := hf28
   refine Yac.tm (fun i hi => hi) (Yac.T (by first | assumption | omega)) (fun y32 y33 hy31 => ?_)
   try simp only [] at hy31
   obtain ⟨rfl,rfl,_⟩ := hy31
   try simp only [ZK]
   refine Yao.tm (fun i hi => hi) (Yao.T (by first | assumption | omega) (by first | assumption | omega)) (fun y35 y36 y37 y38 hy34 => ?_)
   try simp only [] at hy34
   obtain ⟨rfl,rfl,rfl,rfl,_⟩ := hy34
   try simp only [ZK]
   refine Yau.tm (fun i hi => hi) (Tm.at (ok := (Zai 1)) (v := (y25,Zc y26,y27)) (fun k hk => Yau.same (by first | assumption | omega) (by first | assumption | omega) (by first | assumption | omega) (by first | assumption | omega) (by first | assumption | omega) (by first | assumption | omega) (by first | assumption | omega) (by first | assumption | omega) (by first | assumption | omega) hk ((hy24.2) k hk))) (fun y40 y41 y42 hy39 => ?_)
   simp only [Prod.mk.injEq] at hy39; obtain ⟨hy39e0,hy39e1,hy39e2⟩ := hy39; subst y40 y41 y42
   try simp only [ZK]
   refine Yad.tm (fun i hi => hi) (Yad.T (by first | assumption | omega) (by first | assumption | omega)) (fun y44 hy43 => ?_)
   subst hy43
   refine Tm.ite (fun h45 => ?_) (fun h45 => ?_)
   ·try simp only [bz0,bz1,bz2,bz3,bz4,bz5,bz6,bz7,bz8,bz9,bza] at h45
    exact Tm.ret (by first | rfl | (exfalso; omega) | (exfalso; simp [strEq_self] at *))
   ·try simp only [bz0,bz1,bz2,bz3,bz4,bz5,bz6,bz7,bz8,bz9,bza] at h45
    refine Tm.ite (fun h46 => ?_) (fun h46 => ?_)
    ·try simp only [bz0,bz1,bz2,bz3,bz4,bz5,bz6,bz7,bz8,bz9,bza] at h46
     exact Tm.ret (by first | rfl | (exfalso; omega) | (exfalso; simp [strEq_self] at *))
    ·try simp only [bz0,bz1,bz2,bz3,bz4,bz5,bz6,bz7,bz8,bz9,bza] at h46
     refine Yac.tm (fun i hi => hi) (Yac.T (by first | assumption | omega)) (fun y48 y49 hy47 => ?_)
     try simp only [] at hy47
     obtain ⟨rfl,rfl,_⟩ := hy47
     try simp only [ZK]
     refine Yad.tm (fun i hi => hi) (Yad.T (by first | assumption | omega) (by first | assumption | omega)) (fun y51 hy50 => ?_)
     subst hy50
     refine Tm.ite (fun h52 => ?_) (fun h52 => ?_)
     ·try simp only [bz0,bz1,bz2,bz3,bz4,bz5,bz6,bz7,bz8,bz9,bza] at h52
      exact Tm.ret (by first | rfl | (exfalso; omega) | (exfalso; simp [strEq_self] at *))
     ·try simp only [bz0,bz1,bz2,bz3,bz4,bz5,bz6,bz7,bz8,bz9,bza] at h52
      refine Yao.tm (fun i hi => hi) (Yao.T (by first | assumption | omega) (by first | assumption | omega)) (fun y54 y55 y56 y57 hy53 => ?_)
      try simp only [] at hy53
      obtain ⟨rfl,rfl,rfl,rfl,_⟩ := hy53
      try simp only [ZK]
      refine YaK.tm (fun i hi => hi) (YaK.T (by first | assumption | omega) (by first | assumption | omega) (by first | assumption | omega)) (fun y59 hy58 => ?_)
      subst hy58
      refine Tm.ite (fun h60 => ?_) (fun h60 => ?_)
      ·try simp only [bz0,bz1,bz2,bz3,bz4,bz5,bz6,bz7,bz8,bz9,bza] at h60
       exact Tm.ret (by first | rfl | (exfalso; omega) | (exfalso; simp [strEq_self] at *))
      ·try simp only [bz0,bz1,bz2,bz3,bz4,bz5,bz6,bz7,bz8,bz9,bza] at h60
       refine Yae.tm (fun i hi => hi) (Yae.T (B := 2097152) (by decide) (by first | assumption | exact Ya.wide (by assumption)) (by omega) (by omega)) (fun y62 y63 hy61 => ?_)
       obtain ⟨ys65,en68,et66,el67,hh64⟩ := hy61
       simp only [] at en68 et66 hh64
       subst en68 et66
       refine Tm.guard (by first | omega | (simp only [ZS]; assumption) | (simp only [lim,maxLen_eq,Z8] at *; omega) | (simp only [lim,Z8] at *; refine ⟨?_,?_,?_,?_⟩ <;> omega)) ?_
       refine Yaz.tm (fun i hi => hi) (Yaz.T (B := 2097152) (by decide) (by first | assumption | exact Ya.wide (by assumption)) (by first | assumption | exact Yb.wide (by assumption)) (by omega) (by omega)) (fun y70 y71 y72 hy69 => ?_)
       obtain ⟨ys74,ys75,en80,et76,et77,el78,el79,hh73⟩ := hy69
       simp only [] at en80 et76 et77 hh73
       subst en80 et76 et77
       refine Tm.guard (by first | omega | (simp only [ZS]; assumption) | (simp only [lim,maxLen_eq,Z8] at *; omega) | (simp only [lim,Z8] at *; refine ⟨?_,?_,?_,?_⟩ <;> omega)) ?_
       refine Tm.guard (by first | omega | (simp only [ZS]; assumption) | (simp only [lim,maxLen_eq,Z8] at *; omega) | (simp only [lim,Z8] at *; refine ⟨?_,?_,?_,?_⟩ <;> omega)) ?_
       refine Tm.ite (fun h81 => ?_) (fun h81 => ?_)
       ·try simp only [bz0,bz1,bz2,bz3,bz4,bz5,bz6,bz7,bz8,bz9,bza] at h81
        exact Tm.ret (by first | rfl | (exfalso; omega) | (exfalso; simp [strEq_self] at *))
       ·try simp only [bz0,bz1,bz2,bz3,bz4,bz5,bz6,bz7,bz8,bz9,bza] at h81
        refine Yad.tm (fun i hi => hi) (Yad.T (by first | assumption | omega) (by first | assumption | omega)) (fun y83 hy82 => ?_)
        subst hy82
        refine Tm.ite (fun h84 => ?_) (fun h84 => ?_)
        ·try simp only [bz0,bz1,bz2,bz3,bz4,bz5,bz6,bz7,bz8,bz9,bza] at h84
         exact Tm.ret (by first | rfl | (exfalso; omega) | (exfalso; simp [strEq_self] at *))
        ·try simp only [bz0,bz1,bz2,bz3,bz4,bz5,bz6,bz7,bz8,bz9,bza] at h84
         refine Tm.ite (fun h85 => ?_) (fun h85 => ?_)
         ·try simp only [bz0,bz1,bz2,bz3,bz4,bz5,bz6,bz7,bz8,bz9,bza] at h85
          exact Tm.ret (by first | rfl | (exfalso; omega) | (exfalso; simp [strEq_self] at *))
         ·try simp only [bz0,bz1,bz2,bz3,bz4,bz5,bz6,bz7,bz8,bz9,bza] at h85
          refine Yae.tm (fun i hi => hi) (Yae.T (B := 2097152) (by decide) (by first | assumption | exact Ya.wide (by assumption)) (by omega) (by omega)) (fun y87 y88 hy86 => ?_)
          obtain ⟨ys90,en93,et91,el92,hh89⟩ := hy86
          simp only [] at en93 et91 hh89
          subst en93 et91
          refine Tm.guard (by first | omega | (simp only [ZS]; assumption) | (simp only [lim,maxLen_eq,Z8] at *; omega) | (simp only [lim,Z8] at *; refine ⟨?_,?_,?_,?_⟩ <;> omega)) ?_
          try simp only [ZK]
          refine Yak.tm (fun i hi => hi) (Tm.at (ok := (Zai 1)) (fun k hk => hh89 k hk)) (fun y95 hy94 => ?_)
          subst hy94
          refine Tm.ite (fun h96 => ?_) (fun h96 => ?_)
          ·try simp only [bz0,bz1,bz2,bz3,bz4,bz5,bz6,bz7,bz8,bz9,bza] at h96
           exact Tm.ret (by first | rfl | (exfalso; omega) | (exfalso; simp [strEq_self] at *))
          ·try simp only [bz0,bz1,bz2,bz3,bz4,bz5,bz6,bz7,bz8,bz9,bza] at h96
           refine Tm.ite (fun h97 => ?_) (fun h97 => ?_)
           ·try simp only [bz0,bz1,bz2,bz3,bz4,bz5,bz6,bz7,bz8,bz9,bza] at h97
            exact Tm.ret (by first | rfl | (exfalso; omega) | (exfalso; simp [strEq_self] at *))
           ·try simp only [bz0,bz1,bz2,bz3,bz4,bz5,bz6,bz7,bz8,bz9,bza] at h97
            refine Yac.tm (fun i hi => hi) (Yac.T (by first | assumption | omega)) (fun y99 y100 hy98 => ?_)
            try simp only [] at hy98
            obtain ⟨rfl,rfl,_⟩ := hy98
            try simp only [ZK]
            refine Yao.tm (fun i hi => hi) (Yao.T (by first | assumption | omega) (by first | assumption | omega)) (fun y102 y103 y104 y105 hy101 => ?_)
            try simp only [] at hy101
            obtain ⟨rfl,rfl,rfl,rfl,_⟩ := hy101
            try simp only [ZK]
            refine Yau.tm (fun i hi => hi) (Tm.at (ok := (Zai 1)) (v := (y25,Zc y26,y27)) (fun k hk => Yau.same (by first | assumption | omega) (by first | assumption | omega) (by first | assumption | omega) (by first | assumption | omega) (by first | assumption | omega) (by first | assumption | omega) (by first | assumption | omega) (by first | assumption | omega) (by first | assumption | omega) hk ((hy24.2) k hk))) (fun y107 y108 y109 hy106 => ?_)
            simp only [Prod.mk.injEq] at hy106; obtain ⟨hy106e0,hy106e1,hy106e2⟩ := hy106; subst y107 y108 y109
            try simp only [ZK]
            refine Yad.tm (fun i hi => hi) (Yad.T (by first | assumption | omega) (by first | assumption | omega)) (fun y111 hy110 => ?_)
            subst hy110
            refine Tm.ite (fun h112 => ?_) (fun h112 => ?_)
            ·try simp only [bz0,bz1,bz2,bz3,bz4,bz5,bz6,bz7,bz8,bz9,bza] at h112
             exact Tm.ret (by first | rfl | (exfalso; omega) | (exfalso; simp [strEq_self] at *))
            ·try simp only [bz0,bz1,bz2,bz3,bz4,bz5,bz6,bz7,bz8,bz9,bza] at h112
             refine Tm.ite (fun h113 => ?_) (fun h113 => ?_)
             ·try simp only [bz0,bz1,bz2,bz3,bz4,bz5,bz6,bz7,bz8,bz9,bza] at h113
              exact Tm.ret (by first | rfl | (exfalso; omega) | (exfalso; simp [strEq_self] at *))
             ·try simp only [bz0,bz1,bz2,bz3,bz4,bz5,bz6,bz7,bz8,bz9,bza] at h113
              try simp only [ZK]
              refine Yak.tm (fun i hi => hi) (Tm.at (ok := (Zai 1)) (fun k hk => hh89 k hk)) (fun y115 hy114 => ?_)
              subst hy114
              refine Tm.ite (fun h116 => ?_) (fun h116 => ?_)
              ·try simp only [bz0,bz1,bz2,bz3,bz4,bz5,bz6,bz7,bz8,bz9,bza] at h116
               exact Tm.ret (by first | rfl | (exfalso; omega) | (exfalso; simp [strEq_self] at *))
              ·try simp only [bz0,bz1,bz2,bz3,bz4,bz5,bz6,bz7,bz8,bz9,bza] at h116
               refine Tm.ite (fun h117 => ?_) (fun h117 => ?_)
               ·try simp only [bz0,bz1,bz2,bz3,bz4,bz5,bz6,bz7,bz8,bz9,bza] at h117
                exact Tm.ret (by first | rfl | (exfalso; omega) | (exfalso; simp [strEq_self] at *))
               ·try simp only [bz0,bz1,bz2,bz3,bz4,bz5,bz6,bz7,bz8,bz9,bza] at h117
                exact Tm.ret (by first | rfl | (exfalso; omega) | (exfalso; simp [strEq_self] at *))
open Go.ChangeShapes Go.WideShapes Go.ChangeAt Go.RowKit
open Go.ChangeMaps (open_string shut_string)
theorem own : ownKnob Tryz.prog.godebug = none := by kernel_rfl
theorem laidOut : laidOutB Tryz.prog = true := by kernel_rfl
theorem goodS_9 {r : List D} (h : RowS Tryz.prog maxLen 9 r) : RS maxLen r := by
 have hh := h.open (show Zq Tryz.prog 6 9 = [9] from by kernel_rfl)
 obtain ⟨d0,l0,rfl,g0,hh0⟩ := goodR_cons hh
 obtain ⟨c0,rfl,k0⟩ := good_str (by kernel_rfl) g0
 obtain rfl := goodR_nil hh0
 exact ⟨c0,rfl,k0,trivial⟩
theorem goodISILSELXE_48_n (n : Nat) : ∀ r : List D,SizeOf.sizeOf r = n → RowS Tryz.prog maxLen 48 r → ∃ h,Y9 maxLen h r := by
 induction n using Nat.strongRecOn with
 | ind n ih =>
 intro r hn h
 have hh := h.open (show Zq Tryz.prog 6 48 = [3,9,3,45,46] from by kernel_rfl)
 obtain ⟨d0,l0,rfl,g0,hh0⟩ := goodR_cons hh
 obtain ⟨c0,rfl,k0⟩ := good_int (k := .i64) (by kernel_rfl) g0
 obtain ⟨d1,l1,rfl,g1,hh1⟩ := goodR_cons hh0
 obtain ⟨c1,rfl,k1⟩ := good_str (by kernel_rfl) g1
 obtain ⟨d2,l2,rfl,g2,hh2⟩ := goodR_cons hh1
 obtain ⟨c2,rfl,k2⟩ := good_int (k := .i64) (by kernel_rfl) g2
 obtain ⟨d3,l3,rfl,g3,hh3⟩ := goodR_cons hh2
 obtain ⟨c3,rfl,k3,m3⟩ := good_sl (e := 9) (by kernel_rfl) g3
 obtain ⟨d4,l4,rfl,g4,hh4⟩ := goodR_cons hh3
 obtain ⟨c4,rfl,k4,m4⟩ := good_sl (e := 48) (by kernel_rfl) g4
 obtain rfl := goodR_nil hh4
 have hs : ∀ r' ∈ c4,SizeOf.sizeOf r' < n := fun r' hr => by have := List.sizeOf_lt_of_mem hr; simp at hn; omega
 obtain ⟨hq,q4⟩ := common (Q := Y9 maxLen) (fun _ _ _ => Y9.mono) c4 fun r' hr => ih _ (hs r' hr) r' rfl (m4 r' hr)
 exact ⟨hq + 1,.mk c0 c1 c2 c3 c4 k0 k1 k2 ⟨k3,fun r hr => goodS_9 (m3 r hr)⟩ k4 q4⟩
theorem Ya1 {r : List D} (h : RowS Tryz.prog maxLen 48 r) : Yq maxLen r := by
 obtain ⟨h1,h2⟩ := goodISILSELXE_48_n _ r rfl h
 exact ⟨h1,fun hb => absurd (show (9223372036854775807 : Nat) ≤ 1099511627776 from hb) (by decide),h2⟩
theorem YaT {r : List D} (h : RowS Tryz.prog maxLen 127 r) : Ya maxLen r := by
 have hh := h.open (show Zq Tryz.prog 6 127 = [3,9,3,3,3,4,45,3,9,3,45,46,3,9,3,45,46] from by kernel_rfl)
 obtain ⟨d0,l0,rfl,g0,hh0⟩ := goodR_cons hh
 obtain ⟨c0,rfl,k0⟩ := good_int (k := .i64) (by kernel_rfl) g0
 obtain ⟨d1,l1,rfl,g1,hh1⟩ := goodR_cons hh0
 obtain ⟨c1,rfl,k1⟩ := good_str (by kernel_rfl) g1
 obtain ⟨d2,l2,rfl,g2,hh2⟩ := goodR_cons hh1
 obtain ⟨c2,rfl,k2⟩ := good_int (k := .i64) (by kernel_rfl) g2
 obtain ⟨d3,l3,rfl,g3,hh3⟩ := goodR_cons hh2
 obtain ⟨c3,rfl,k3⟩ := good_int (k := .i64) (by kernel_rfl) g3
 obtain ⟨d4,l4,rfl,g4,hh4⟩ := goodR_cons hh3
 obtain ⟨c4,rfl,k4⟩ := good_int (k := .i64) (by kernel_rfl) g4
 obtain ⟨d5,l5,rfl,g5,hh5⟩ := goodR_cons hh4
 obtain ⟨c5,rfl⟩ := good_bool (by kernel_rfl) g5
 obtain ⟨d6,l6,rfl,g6,hh6⟩ := goodR_cons hh5
 obtain ⟨c6,rfl,k6,m6⟩ := good_sl (e := 9) (by kernel_rfl) g6
 obtain ⟨d7,l7,rfl,g7,hh7⟩ := goodR_cons hh6
 obtain ⟨c7,rfl,k7⟩ := good_int (k := .i64) (by kernel_rfl) g7
 obtain ⟨d8,l8,rfl,g8,hh8⟩ := goodR_cons hh7
 obtain ⟨c8,rfl,k8⟩ := good_str (by kernel_rfl) g8
 obtain ⟨d9,l9,rfl,g9,hh9⟩ := goodR_cons hh8
 obtain ⟨c9,rfl,k9⟩ := good_int (k := .i64) (by kernel_rfl) g9
 obtain ⟨d10,l10,rfl,g10,hh10⟩ := goodR_cons hh9
 obtain ⟨c10,rfl,k10,m10⟩ := good_sl (e := 9) (by kernel_rfl) g10
 obtain ⟨d11,l11,rfl,g11,hh11⟩ := goodR_cons hh10
 obtain ⟨c11,rfl,k11,m11⟩ := good_sl (e := 48) (by kernel_rfl) g11
 obtain ⟨d12,l12,rfl,g12,hh12⟩ := goodR_cons hh11
 obtain ⟨c12,rfl,k12⟩ := good_int (k := .i64) (by kernel_rfl) g12
 obtain ⟨d13,l13,rfl,g13,hh13⟩ := goodR_cons hh12
 obtain ⟨c13,rfl,k13⟩ := good_str (by kernel_rfl) g13
 obtain ⟨d14,l14,rfl,g14,hh14⟩ := goodR_cons hh13
 obtain ⟨c14,rfl,k14⟩ := good_int (k := .i64) (by kernel_rfl) g14
 obtain ⟨d15,l15,rfl,g15,hh15⟩ := goodR_cons hh14
 obtain ⟨c15,rfl,k15,m15⟩ := good_sl (e := 9) (by kernel_rfl) g15
 obtain ⟨d16,l16,rfl,g16,hh16⟩ := goodR_cons hh15
 obtain ⟨c16,rfl,k16,m16⟩ := good_sl (e := 48) (by kernel_rfl) g16
 obtain rfl := goodR_nil hh16
 exact ⟨c0,c1,c2,c3,c4,c5,c6,c7,c8,c9,c10,c11,c12,c13,c14,c15,c16,rfl,k0,k1,k2,k3,k4,⟨k6,fun r hr => goodS_9 (m6 r hr)⟩,k7,k8,k9,⟨k10,fun r hr => goodS_9 (m10 r hr)⟩,⟨k11,fun r hr => Ya1 (m11 r hr)⟩,k12,k13,k14,⟨k15,fun r hr => goodS_9 (m15 r hr)⟩,⟨k16,fun r hr => Ya1 (m16 r hr)⟩,trivial⟩
theorem YaY {r : List D} (h : RowS Tryz.prog maxLen 130 r) : Yb maxLen r := by
 have hh := h.open (show Zq Tryz.prog 6 130 = [3,4,3,9,3,3,3,4,45,3,9,3,45,46,3,9,3,45,46] from by kernel_rfl)
 obtain ⟨d0,l0,rfl,g0,hh0⟩ := goodR_cons hh
 obtain ⟨c0,rfl,k0⟩ := good_int (k := .i64) (by kernel_rfl) g0
 obtain ⟨d1,l1,rfl,g1,hh1⟩ := goodR_cons hh0
 obtain ⟨c1,rfl⟩ := good_bool (by kernel_rfl) g1
 obtain ⟨d2,l2,rfl,g2,hh2⟩ := goodR_cons hh1
 obtain ⟨c2,rfl,k2⟩ := good_int (k := .i64) (by kernel_rfl) g2
 obtain ⟨d3,l3,rfl,g3,hh3⟩ := goodR_cons hh2
 obtain ⟨c3,rfl,k3⟩ := good_str (by kernel_rfl) g3
 obtain ⟨d4,l4,rfl,g4,hh4⟩ := goodR_cons hh3
 obtain ⟨c4,rfl,k4⟩ := good_int (k := .i64) (by kernel_rfl) g4
 obtain ⟨d5,l5,rfl,g5,hh5⟩ := goodR_cons hh4
 obtain ⟨c5,rfl,k5⟩ := good_int (k := .i64) (by kernel_rfl) g5
 obtain ⟨d6,l6,rfl,g6,hh6⟩ := goodR_cons hh5
 obtain ⟨c6,rfl,k6⟩ := good_int (k := .i64) (by kernel_rfl) g6
 obtain ⟨d7,l7,rfl,g7,hh7⟩ := goodR_cons hh6
 obtain ⟨c7,rfl⟩ := good_bool (by kernel_rfl) g7
 obtain ⟨d8,l8,rfl,g8,hh8⟩ := goodR_cons hh7
 obtain ⟨c8,rfl,k8,m8⟩ := good_sl (e := 9) (by kernel_rfl) g8
 obtain ⟨d9,l9,rfl,g9,hh9⟩ := goodR_cons hh8
 obtain ⟨c9,rfl,k9⟩ := good_int (k := .i64) (by kernel_rfl) g9
 obtain ⟨d10,l10,rfl,g10,hh10⟩ := goodR_cons hh9
 obtain ⟨c10,rfl,k10⟩ := good_str (by kernel_rfl) g10
 obtain ⟨d11,l11,rfl,g11,hh11⟩ := goodR_cons hh10
 obtain ⟨c11,rfl,k11⟩ := good_int (k := .i64) (by kernel_rfl) g11
 obtain ⟨d12,l12,rfl,g12,hh12⟩ := goodR_cons hh11
 obtain ⟨c12,rfl,k12,m12⟩ := good_sl (e := 9) (by kernel_rfl) g12
 obtain ⟨d13,l13,rfl,g13,hh13⟩ := goodR_cons hh12
 obtain ⟨c13,rfl,k13,m13⟩ := good_sl (e := 48) (by kernel_rfl) g13
 obtain ⟨d14,l14,rfl,g14,hh14⟩ := goodR_cons hh13
 obtain ⟨c14,rfl,k14⟩ := good_int (k := .i64) (by kernel_rfl) g14
 obtain ⟨d15,l15,rfl,g15,hh15⟩ := goodR_cons hh14
 obtain ⟨c15,rfl,k15⟩ := good_str (by kernel_rfl) g15
 obtain ⟨d16,l16,rfl,g16,hh16⟩ := goodR_cons hh15
 obtain ⟨c16,rfl,k16⟩ := good_int (k := .i64) (by kernel_rfl) g16
 obtain ⟨d17,l17,rfl,g17,hh17⟩ := goodR_cons hh16
 obtain ⟨c17,rfl,k17,m17⟩ := good_sl (e := 9) (by kernel_rfl) g17
 obtain ⟨d18,l18,rfl,g18,hh18⟩ := goodR_cons hh17
 obtain ⟨c18,rfl,k18,m18⟩ := good_sl (e := 48) (by kernel_rfl) g18
 obtain rfl := goodR_nil hh18
 exact ⟨c0,c1,c2,c3,c4,c5,c6,c7,c8,c9,c10,c11,c12,c13,c14,c15,c16,c17,c18,rfl,k0,k2,k3,k4,k5,k6,⟨k8,fun r hr => goodS_9 (m8 r hr)⟩,k9,k10,k11,⟨k12,fun r hr => goodS_9 (m12 r hr)⟩,⟨k13,fun r hr => Ya1 (m13 r hr)⟩,k14,k15,k16,⟨k17,fun r hr => goodS_9 (m17 r hr)⟩,⟨k18,fun r hr => Ya1 (m18 r hr)⟩,trivial⟩
theorem types : lawTys Tryz.prog [127,9,48,130] = true := by kernel_rfl
set_option maxRecDepth 100000 in
theorem lifted (os : Os) (started : os.Started) (H : Type) (enc : TypeId × Value → H) :
  ReturnsInHanded {} Tryz.checked os 3 .any (Rows.fnExactCatchUpSpec.pre6 enc Tryz.prog Tryz.f3 Rows.fnExactCatchUpRow.domain false) (Rows.fnExactCatchUpSpec.post enc Tryz.prog Tryz.f3 false true false false) := by
 refine returnsInHanded_of_change_sized (C := Tryz.checked) own started (by kernel_rfl) Tryz.func3
  (ChangeSpec.witness6 (enc := enc) (C := Tryz.checked) false ⟨#[],#[.agg #[.int .i64 0,.slice none 0 0],.agg #[.slice none 0 0,.int .i64 0,.int .i64 0,.slice none 0 0]],[]⟩ 8 (by kernel_rfl) (by kernel_rfl) (by kernel_rfl) (by kernel_rfl)) ?_
 intro W base args ds gs before hval0 hW hcnd hsz0 _
 have hval : ∀ (j : Nat) t v,Tryz.f3.params[j]? = some t → args[j]? = some v → Value.okWide Tryz.prog W .any base t v := hval0
 have hW' := hW
 obtain ⟨p,q,hA0,hV,rfl,hfz,hnd⟩ := hW
 have hA : DataW.TrodAll enc Tryz.prog W 0 (fun _ => true) true Tryz.f3.params.toList args.toList ds p := hA0
 have hpar : Tryz.f3.params = #[24,27] := by kernel_rfl
 rw [hpar] at hA hval
 obtain ⟨v0,vs0,d0,ds0,p0,q0,hargs,rfl,rfl,h0,r0⟩ := trodAll_cons hA
 obtain ⟨v1,vs1,d1,ds1,p1,q1,rfl,rfl,rfl,h1,r1⟩ := trodAll_cons r0
 obtain ⟨rfl,rfl,rfl⟩ := trodAll_nil r1
 obtain rfl : args = #[v0,v1] := by cases args; simp_all
 obtain ⟨rfl,rfl⟩ := trodVars_none hV
 have k0 := h0
 have lt0 : ∀ x ∈ p0,x.block < W.heap.size := by obtain ⟨m,hm⟩ := k0; exact DataW.trod_lt m _ _ _ hm
 obtain ⟨cs0,xs0,rfl,hl0,hc0,hg0⟩ := open_agg types (by kernel_rfl) (by kernel_rfl) (hval 0 24 v0 rfl rfl) h0
 have hj0 := hg0.open (show Zq Tryz.prog 6 24 = [3,22] from by kernel_rfl)
 obtain ⟨ea0_0,la0_0,rfl,wa0_0,hj0_0⟩ := goodR_cons hj0
 obtain ⟨aB,rfl,ka0_0⟩ := good_int (k := .i64) (by kernel_rfl) wa0_0
 obtain ⟨ea0_1,la0_1,rfl,wa0_1,hj0_1⟩ := goodR_cons hj0_0
 obtain ⟨aA,rfl,ka0_1,ma0_1⟩ := good_sl (e := 127) (by kernel_rfl) wa0_1
 obtain rfl := goodR_nil hj0_1
 have k1 := h1
 have lt1 : ∀ x ∈ p1,x.block < W.heap.size := by obtain ⟨m,hm⟩ := k1; exact DataW.trod_lt m _ _ _ hm
 obtain ⟨cs1,xs1,rfl,hl1,hc1,hg1⟩ := open_agg types (by kernel_rfl) (by kernel_rfl) (hval 1 27 v1 rfl rfl) h1
 have hj1 := hg1.open (show Zq Tryz.prog 6 27 = [22,3,3,25] from by kernel_rfl)
 obtain ⟨ea1_0,la1_0,rfl,wa1_0,hj1_0⟩ := goodR_cons hj1
 obtain ⟨aM,rfl,ka1_0,ma1_0⟩ := good_sl (e := 127) (by kernel_rfl) wa1_0
 obtain ⟨ea1_1,la1_1,rfl,wa1_1,hj1_1⟩ := goodR_cons hj1_0
 obtain ⟨aN,rfl,ka1_1⟩ := good_int (k := .i64) (by kernel_rfl) wa1_1
 obtain ⟨ea1_2,la1_2,rfl,wa1_2,hj1_2⟩ := goodR_cons hj1_1
 obtain ⟨aU,rfl,ka1_2⟩ := good_int (k := .i64) (by kernel_rfl) wa1_2
 obtain ⟨ea1_3,la1_3,rfl,wa1_3,hj1_3⟩ := goodR_cons hj1_2
 obtain ⟨aO,rfl,ka1_3,ma1_3⟩ := good_sl (e := 130) (by kernel_rfl) wa1_3
 obtain rfl := goodR_nil hj1_3
 clear hA0 hval0 hsz0
 obtain ⟨kb,hkb⟩ : ∃ k,lv 1 ≤ k := ⟨_,Nat.le_refl _⟩
 obtain ⟨z,rfl,hz⟩ := Yav.T ka0_0 ⟨ka0_1,fun r hr => YaT (ma0_1 r hr)⟩ ⟨ka1_0,fun r hr => YaT (ma1_0 r hr)⟩ ka1_1 ka1_2 ⟨ka1_3,fun r hr => YaY (ma1_3 r hr)⟩
 refine (law_calls (Yav.ok kb) rfl rfl (by kernel_rfl) (aa := [.agg [.int .i64 aB,.sl aA],.agg [.sl aM,.int .i64 aN,.int .i64 aU,.sl aO]]) (vs := [.agg cs0.toArray,.agg cs1.toArray]) ?_ ⟨(),?_⟩).mono fun e W' ⟨he,bel⟩ => ?_
 ·exact (ZO.cons' ⟨rfl,cs0,rfl,hl0,hc0⟩ (ZO.cons' ⟨rfl,cs1,rfl,hl1,hc1⟩ ZO.nil'))
 ·exact (ent_run (Yav.e kb) rfl (congrArg some (hz kb hkb)) rfl)
 ·subst he
  exact ⟨_,rfl,_,_,_,[],_,[],hW',trodAll_mk1 (shut_bool (by kernel_rfl) _),(trodAll_cons_mk (Below.trod laidOut (by kernel_rfl) (of_decide_eq_true (by kernel_rfl)) k0 bel lt0) (trodAll_cons_mk (Below.trod laidOut (by kernel_rfl) (of_decide_eq_true (by kernel_rfl)) k1 bel lt1) trodAll_mk0)),rfl,bel.frame _,fun h => by cases h⟩
theorem facts1 : joined1 Tryz.prog 3 Tryz.f3 Rows.fnExactCatchUpSpec Rows.fnExactCatchUpRow = true := by kernel_rfl
theorem facts2 : joined2 Tryz.prog 3 Tryz.f3 Rows.fnExactCatchUpSpec Rows.fnExactCatchUpRow = true := by kernel_rfl
theorem facts3 : joined3 Tryz.prog 3 Tryz.f3 Rows.fnExactCatchUpSpec Rows.fnExactCatchUpRow = true := by kernel_rfl
theorem facts4 : joined4 Tryz.prog 3 Tryz.f3 Rows.fnExactCatchUpSpec Rows.fnExactCatchUpRow = true := by kernel_rfl
theorem facts5 : joined5 Tryz.prog 3 Tryz.f3 Rows.fnExactCatchUpSpec Rows.fnExactCatchUpRow = true := by kernel_rfl
theorem facts6 : joined6 Tryz.prog 3 Tryz.f3 Rows.fnExactCatchUpSpec Rows.fnExactCatchUpRow = true := by kernel_rfl
theorem facts7 : joined7 Tryz.prog 3 Tryz.f3 Rows.fnExactCatchUpSpec Rows.fnExactCatchUpRow = true := by kernel_rfl
theorem facts8 : joined8 Tryz.prog 3 Tryz.f3 Rows.fnExactCatchUpSpec Rows.fnExactCatchUpRow = true := by kernel_rfl
theorem over : Rows.fnExactCatchUpRow.holds Tryz.pinned (OpenSpec.ofChange Rows.fnExactCatchUpSpec) :=
 OpenClaim.holds_of_wide 3 Tryz.f3 rfl rfl rfl rfl rfl rfl rfl ⟨rfl,rfl,rfl,rfl,rfl⟩ rfl rfl rfl rfl rfl (by kernel_rfl) Tryz.func3 (joined_of facts1 facts2 facts3 facts4 facts5 facts6 facts7 facts8)
  (of_decide_eq_true (by kernel_rfl)) (by unfold Func.isWrapper; first | (rw [if_pos (by decide +kernel)]; kernel_rfl) | (rw [if_neg (by decide +kernel)]; exact ⟨rfl,rfl⟩))
  (fun os started H enc _ => lifted os started H enc)
theorem fnExactCatchUp_holds : Rows.FnExactCatchUpSaid := over
end Go.Proofs.YtlobhlnahhjpjaaGreat
