/- FnExactPlans: the program's function answers as the reference's, for every input. No condition. -/
import Derived.Test.YtppfencdbabmeaaGreatRows
import Derived.Test.YtppfencdbabmeaaGreatYEPlans1
import Derived.KernelRfl
import Derived.WalkKit
import Derived.ProofKit
import Derived.OpenShut
import Derived.ShutString
import Derived.ChangeOld
import Derived.Below
import Derived.SizedLaws
set_option linter.unusedVariables false
set_option linter.unusedSimpArgs false
namespace Go.Proofs.YtppfencdbabmeaaGreat
open Go Go.T Go.Proofs
set_option maxRecDepth 100000 in
set_option maxHeartbeats 8000000 in
theorem YI.T {B : Nat} (hB : B ≤ 1099511627776) {xs : LD} {n : Int} (g : Zi RS B xs) (h0 : 0 ≤ n) (h1 : n + Zp xs ≤ 4611686018427387904) : Tm Z3 (fun k => YI.t k (Zb xs) n) (fun z => ∃ ys, z.2 = Zb ys ∧ ys.length = xs.length ∧ z.1 = n + Zp xs ∧ ∀ k, Z3 k → Z3 k) := by
 have hb : big = 2 ^ 64 := rfl
 have hl := g.1
 have key : Tm Z3 (fun k => YI.t k (Zb xs) n) (fun z => ∃ ys, z.2 = Zb ys ∧ ys.length = xs.length ∧ z.1 = n + Zp xs ∧ ZbX (fun _ _ _ => True) n ys z.1) := by
  unfold YI.t YI.g
  refine Tm.loop (okk := Z3) (p := fun k => k) (fun i hi => hi) (b := fun k => YI.l0 k (fun z0 z1 => some (z0, z1))) (fun v => match v with | (u, i, tab) => ((xs.length : Int) - i).toNat) (fun v => match v with | (u, i, tab) => 0 ≤ i ∧ i ≤ xs.length ∧ ∃ done : LD, done.length = i.toNat ∧ tab = Zb done ++ Zb (xs.drop i.toNat) ∧ u = n + Zp (xs.take i.toNat) ∧ ZbX (fun _ _ _ => True) n done u) ?_ ?_ ?_
  ·rintro ⟨u, i, tab⟩ hI
   simp only [] at hI ⊢
   omega
  ·exact ⟨by omega, by omega, [], rfl, by simp [Zb], by simp [Zp], .nil⟩
  ·rintro ⟨u, i, tab⟩ hI L hL
   simp only [] at hI
   obtain ⟨i0, i1, done, hd, rfl, hu, hH⟩ := hI
   have hA : (Zb done).length = i.toNat := by rw [Zw, hd]
   have hT : (Zb done ++ Zb (xs.drop i.toNat)).length = xs.length := by rw [List.length_append, hA, Zw, List.length_drop]; omega
   simp only [YI.l0]
   refine Tm.ite (fun h4 => ?_) (fun h4 => ?_)
   ·simp only [decide_eq_true_eq, hT] at h4
    have hx := gR_at i0 h4
    obtain ⟨c0, e, k0, _⟩ := (g.2 _ (gR_mem i0 h4)).open
    rw [e] at hx
    have hdr := drop_at i0 hx
    have hw := wt_take i0 hx
    simp only [ZbG, wtD] at hw
    have hs := wt_split xs (i + 1).toNat
    rw [hdr] at hT ⊢
    simp only [Zb, ZZ, ZbW] at hT ⊢
    have hT2 := hT
    simp only [List.length_append, List.length_cons] at hT2
    try simp (disch := omega) only [Zj]
    refine Ym.tm (fun i hi => hi.1) (Tm.at (ok := Z3) (v := Ym.v _) (fun k hk => Ym.tv (by omega) hk)) (fun y hy => ?_)
    subst hy
    refine Tm.guard (by first | decide | (simp only [List.length_modify, List.length_append, List.length_cons]; omega)) ?_
    refine Tm.guard (by first | decide | (simp only [List.length_modify, List.length_append, List.length_cons]; omega)) ?_
    try simp (disch := omega) only [Zj]
    try simp only [Zaf hA, Zq, List.take_zero, List.take_succ_cons, List.drop_succ_cons, List.drop_zero, List.nil_append, List.cons_append, List.length_cons, List.length_nil, Nat.zero_add, Nat.reduceAdd, List.set_cons_succ, List.set_cons_zero]
    refine hL (_, _, _) ⟨by omega, by omega, done ++ [[.str (Ym.v (u))]], by simp only [List.length_append, List.length_cons, List.length_nil]; omega, ?_, by omega, ZbX.snoc hH trivial⟩ (by simp only []; omega)
    rw [Zai]
    simp only [Zb, ZZ, ZbW, List.append_assoc, List.cons_append, List.nil_append]
   ·simp only [decide_eq_false_iff_not, hT] at h4
    refine Tm.ret ⟨done, ?_, by omega, ?_, hH⟩
    ·rw [List.drop_eq_nil_of_le (by omega)]
     simp only [Zb, List.append_nil]
    ·rw [List.take_of_length_le (by omega)] at hu
     exact hu
 obtain ⟨v, ⟨ys, e1, e2, e3, hH⟩, h2⟩ := key
 exact ⟨v, ⟨ys, e1, e2, e3, fun k hk => hk⟩, h2⟩
set_option maxRecDepth 100000 in
set_option maxHeartbeats 8000000 in
theorem Y0.T {B : Nat} (hB : B ≤ 1099511627776) {xs : LD} {n : Int} (g : Zi YaC B xs) (h0 : 0 ≤ n) (h1 : n + Zp xs ≤ 4611686018427387904) : Tm Z3 (fun k => Y0.t k (Zb xs) n) (fun z => ∃ ys, z.2 = Zb ys ∧ ys.length = xs.length ∧ z.1 = n + Zp xs ∧ ∀ k, Z3 k → Z3 k) := by
 have hb : big = 2 ^ 64 := rfl
 have hl := g.1
 have key : Tm Z3 (fun k => Y0.t k (Zb xs) n) (fun z => ∃ ys, z.2 = Zb ys ∧ ys.length = xs.length ∧ z.1 = n + Zp xs ∧ ZbX (fun _ _ _ => True) n ys z.1) := by
  unfold Y0.t Y0.g
  refine Tm.loop (okk := Z3) (p := fun k => k) (fun i hi => hi) (b := fun k => Y0.l0 k (fun z0 z1 => some (z0, z1))) (fun v => match v with | (u, i, tab) => ((xs.length : Int) - i).toNat) (fun v => match v with | (u, i, tab) => 0 ≤ i ∧ i ≤ xs.length ∧ ∃ done : LD, done.length = i.toNat ∧ tab = Zb done ++ Zb (xs.drop i.toNat) ∧ u = n + Zp (xs.take i.toNat) ∧ ZbX (fun _ _ _ => True) n done u) ?_ ?_ ?_
  ·rintro ⟨u, i, tab⟩ hI
   simp only [] at hI ⊢
   omega
  ·exact ⟨by omega, by omega, [], rfl, by simp [Zb], by simp [Zp], .nil⟩
  ·rintro ⟨u, i, tab⟩ hI L hL
   simp only [] at hI
   obtain ⟨i0, i1, done, hd, rfl, hu, hH⟩ := hI
   have hA : (Zb done).length = i.toNat := by rw [Zw, hd]
   have hT : (Zb done ++ Zb (xs.drop i.toNat)).length = xs.length := by rw [List.length_append, hA, Zw, List.length_drop]; omega
   simp only [Y0.l0]
   refine Tm.ite (fun h4 => ?_) (fun h4 => ?_)
   ·simp only [decide_eq_true_eq, hT] at h4
    have hx := gR_at i0 h4
    obtain ⟨c0, c1, c2, e, k0, k1, k2, _⟩ := (g.2 _ (gR_mem i0 h4)).open
    rw [e] at hx
    have hdr := drop_at i0 hx
    have hw := wt_take i0 hx
    simp only [ZbG, wtD] at hw
    have hs := wt_split xs (i + 1).toNat
    rw [hdr] at hT ⊢
    simp only [Zb, ZZ, ZbW] at hT ⊢
    have hT2 := hT
    simp only [List.length_append, List.length_cons] at hT2
    refine Tm.guard (by first | decide | (simp only [List.length_modify, List.length_append, List.length_cons]; omega)) ?_
    refine Tm.guard (by first | decide | (simp only [List.length_modify, List.length_append, List.length_cons]; omega)) ?_
    try simp (disch := omega) only [Zj]
    refine Ym.tm (fun i hi => hi.1) (Tm.at (ok := Z3) (v := Ym.v _) (fun k hk => Ym.tv (by omega) hk)) (fun y hy => ?_)
    subst hy
    refine Tm.guard (by first | decide | (simp only [List.length_modify, List.length_append, List.length_cons]; omega)) ?_
    refine Tm.guard (by first | decide | (simp only [List.length_modify, List.length_append, List.length_cons]; omega)) ?_
    refine Tm.guard (by first | decide | (simp only [List.length_modify, List.length_append, List.length_cons]; omega)) ?_
    try simp only [Zaf hA, ZaV hA, Zq, List.take_zero, List.take_succ_cons, List.drop_succ_cons, List.drop_zero, List.nil_append, List.cons_append, List.length_cons, List.length_nil, Nat.zero_add, Nat.reduceAdd, List.set_cons_succ, List.set_cons_zero]
    refine Tm.uncons ?_
    refine Tm.cOwn ?_
    try simp (disch := omega) only [Zj]
    refine YI.tm (fun i hi => hi.1) (YI.T hB k2 (by omega) (by omega)) (fun y2 t2 hy => ?_)
    obtain ⟨ys2, et2, el2, en2, hh2⟩ := hy
    simp only [] at et2 en2 hh2
    subst et2 en2
    try simp (disch := omega) only [Zj]
    try simp only [Zaf hA, Zq, List.take_zero, List.take_succ_cons, List.drop_succ_cons, List.drop_zero, List.nil_append, List.cons_append, List.length_cons, List.length_nil, Nat.zero_add, Nat.reduceAdd, List.set_cons_succ, List.set_cons_zero]
    refine hL (_, _, _) ⟨by omega, by omega, done ++ [[.int .i64 (u), .str (Ym.v (u + 1)), .sl ys2]], by simp only [List.length_append, List.length_cons, List.length_nil]; omega, ?_, by omega, ZbX.snoc hH trivial⟩ (by simp only []; omega)
    rw [Zai]
    simp only [Zb, ZZ, ZbW, List.append_assoc, List.cons_append, List.nil_append]
   ·simp only [decide_eq_false_iff_not, hT] at h4
    refine Tm.ret ⟨done, ?_, by omega, ?_, hH⟩
    ·rw [List.drop_eq_nil_of_le (by omega)]
     simp only [Zb, List.append_nil]
    ·rw [List.take_of_length_le (by omega)] at hu
     exact hu
 obtain ⟨v, ⟨ys, e1, e2, e3, hH⟩, h2⟩ := key
 exact ⟨v, ⟨ys, e1, e2, e3, fun k hk => hk⟩, h2⟩
set_option maxRecDepth 100000 in
set_option maxHeartbeats 8000000 in
theorem YW.T {B : Nat} (hB : B ≤ 1099511627776) {xs : LD} {n : Int} (g : Zi RSI B xs) (h0 : 0 ≤ n) (h1 : n + Zp xs ≤ 4611686018427387904) : Tm Z3 (fun k => YW.t k (Zb xs) n) (fun z => ∃ ys, z.2 = Zb ys ∧ ys.length = xs.length ∧ z.1 = n + Zp xs ∧ ∀ k, Z3 k → Z3 k) := by
 have hb : big = 2 ^ 64 := rfl
 have hl := g.1
 have key : Tm Z3 (fun k => YW.t k (Zb xs) n) (fun z => ∃ ys, z.2 = Zb ys ∧ ys.length = xs.length ∧ z.1 = n + Zp xs ∧ ZbX (fun _ _ _ => True) n ys z.1) := by
  unfold YW.t YW.g
  refine Tm.loop (okk := Z3) (p := fun k => k) (fun i hi => hi) (b := fun k => YW.l0 k (fun z0 z1 => some (z0, z1))) (fun v => match v with | (u, i, tab) => ((xs.length : Int) - i).toNat) (fun v => match v with | (u, i, tab) => 0 ≤ i ∧ i ≤ xs.length ∧ ∃ done : LD, done.length = i.toNat ∧ tab = Zb done ++ Zb (xs.drop i.toNat) ∧ u = n + Zp (xs.take i.toNat) ∧ ZbX (fun _ _ _ => True) n done u) ?_ ?_ ?_
  ·rintro ⟨u, i, tab⟩ hI
   simp only [] at hI ⊢
   omega
  ·exact ⟨by omega, by omega, [], rfl, by simp [Zb], by simp [Zp], .nil⟩
  ·rintro ⟨u, i, tab⟩ hI L hL
   simp only [] at hI
   obtain ⟨i0, i1, done, hd, rfl, hu, hH⟩ := hI
   have hA : (Zb done).length = i.toNat := by rw [Zw, hd]
   have hT : (Zb done ++ Zb (xs.drop i.toNat)).length = xs.length := by rw [List.length_append, hA, Zw, List.length_drop]; omega
   simp only [YW.l0]
   refine Tm.ite (fun h4 => ?_) (fun h4 => ?_)
   ·simp only [decide_eq_true_eq, hT] at h4
    have hx := gR_at i0 h4
    obtain ⟨c0, c1, e, k0, k1, _⟩ := (g.2 _ (gR_mem i0 h4)).open
    rw [e] at hx
    have hdr := drop_at i0 hx
    have hw := wt_take i0 hx
    simp only [ZbG, wtD] at hw
    have hs := wt_split xs (i + 1).toNat
    rw [hdr] at hT ⊢
    simp only [Zb, ZZ, ZbW] at hT ⊢
    have hT2 := hT
    simp only [List.length_append, List.length_cons] at hT2
    try simp (disch := omega) only [Zj]
    refine Ym.tm (fun i hi => hi.1) (Tm.at (ok := Z3) (v := Ym.v _) (fun k hk => Ym.tv (by omega) hk)) (fun y hy => ?_)
    subst hy
    refine Tm.guard (by first | decide | (simp only [List.length_modify, List.length_append, List.length_cons]; omega)) ?_
    refine Tm.guard (by first | decide | (simp only [List.length_modify, List.length_append, List.length_cons]; omega)) ?_
    refine Tm.guard (by first | decide | (simp only [List.length_modify, List.length_append, List.length_cons]; omega)) ?_
    refine Tm.guard (by first | decide | (simp only [List.length_modify, List.length_append, List.length_cons]; omega)) ?_
    try simp (disch := omega) only [Zj]
    try simp only [Zaf hA, Zq, List.take_zero, List.take_succ_cons, List.drop_succ_cons, List.drop_zero, List.nil_append, List.cons_append, List.length_cons, List.length_nil, Nat.zero_add, Nat.reduceAdd, List.set_cons_succ, List.set_cons_zero]
    refine hL (_, _, _) ⟨by omega, by omega, done ++ [[.str (Ym.v (u)), .int .i64 (u + 1)]], by simp only [List.length_append, List.length_cons, List.length_nil]; omega, ?_, by omega, ZbX.snoc hH trivial⟩ (by simp only []; omega)
    rw [Zai]
    simp only [Zb, ZZ, ZbW, List.append_assoc, List.cons_append, List.nil_append]
   ·simp only [decide_eq_false_iff_not, hT] at h4
    refine Tm.ret ⟨done, ?_, by omega, ?_, hH⟩
    ·rw [List.drop_eq_nil_of_le (by omega)]
     simp only [Zb, List.append_nil]
    ·rw [List.take_of_length_le (by omega)] at hu
     exact hu
 obtain ⟨v, ⟨ys, e1, e2, e3, hH⟩, h2⟩ := key
 exact ⟨v, ⟨ys, e1, e2, e3, fun k hk => hk⟩, h2⟩
set_option maxRecDepth 100000 in
set_option maxHeartbeats 8000000 in
theorem YZ.T {B : Nat} (hB : B ≤ 1099511627776) {xs : LD} {n : Int} (g : Zi YV B xs) (h0 : 0 ≤ n) (h1 : n + Zp xs ≤ 4611686018427387904) : Tm Z3 (fun k => YZ.t k (Zb xs) n) (fun z => ∃ ys, z.2 = Zb ys ∧ ys.length = xs.length ∧ z.1 = n + Zp xs ∧ ∀ k, Z3 k → Z3 k) := by
 have hb : big = 2 ^ 64 := rfl
 have hl := g.1
 have key : Tm Z3 (fun k => YZ.t k (Zb xs) n) (fun z => ∃ ys, z.2 = Zb ys ∧ ys.length = xs.length ∧ z.1 = n + Zp xs ∧ ZbX (fun _ _ _ => True) n ys z.1) := by
  unfold YZ.t YZ.g
  refine Tm.loop (okk := Z3) (p := fun k => k) (fun i hi => hi) (b := fun k => YZ.l0 k (fun z0 z1 => some (z0, z1))) (fun v => match v with | (u, i, tab) => ((xs.length : Int) - i).toNat) (fun v => match v with | (u, i, tab) => 0 ≤ i ∧ i ≤ xs.length ∧ ∃ done : LD, done.length = i.toNat ∧ tab = Zb done ++ Zb (xs.drop i.toNat) ∧ u = n + Zp (xs.take i.toNat) ∧ ZbX (fun _ _ _ => True) n done u) ?_ ?_ ?_
  ·rintro ⟨u, i, tab⟩ hI
   simp only [] at hI ⊢
   omega
  ·exact ⟨by omega, by omega, [], rfl, by simp [Zb], by simp [Zp], .nil⟩
  ·rintro ⟨u, i, tab⟩ hI L hL
   simp only [] at hI
   obtain ⟨i0, i1, done, hd, rfl, hu, hH⟩ := hI
   have hA : (Zb done).length = i.toNat := by rw [Zw, hd]
   have hT : (Zb done ++ Zb (xs.drop i.toNat)).length = xs.length := by rw [List.length_append, hA, Zw, List.length_drop]; omega
   simp only [YZ.l0]
   refine Tm.ite (fun h4 => ?_) (fun h4 => ?_)
   ·simp only [decide_eq_true_eq, hT] at h4
    have hx := gR_at i0 h4
    obtain ⟨c0, c1, c2, c3, e, k0, k1, k2, k3, _⟩ := (g.2 _ (gR_mem i0 h4)).open
    rw [e] at hx
    have hdr := drop_at i0 hx
    have hw := wt_take i0 hx
    simp only [ZbG, wtD] at hw
    have hs := wt_split xs (i + 1).toNat
    rw [hdr] at hT ⊢
    simp only [Zb, ZZ, ZbW] at hT ⊢
    have hT2 := hT
    simp only [List.length_append, List.length_cons] at hT2
    refine Tm.guard (by first | decide | (simp only [List.length_modify, List.length_append, List.length_cons]; omega)) ?_
    refine Tm.guard (by first | decide | (simp only [List.length_modify, List.length_append, List.length_cons]; omega)) ?_
    refine Tm.guard (by first | decide | (simp only [List.length_modify, List.length_append, List.length_cons]; omega)) ?_
    try simp only [Zaf hA, ZaV hA, Zq, List.take_zero, List.take_succ_cons, List.drop_succ_cons, List.drop_zero, List.nil_append, List.cons_append, List.length_cons, List.length_nil, Nat.zero_add, Nat.reduceAdd, List.set_cons_succ, List.set_cons_zero]
    refine Tm.uncons ?_
    refine Tm.cOwn ?_
    try simp (disch := omega) only [Zj]
    refine Y0.tm (fun i hi => hi.1) (Y0.T hB k1 (by omega) (by omega)) (fun y1 t1 hy => ?_)
    obtain ⟨ys1, et1, el1, en1, hh1⟩ := hy
    simp only [] at et1 en1 hh1
    subst et1 en1
    refine Tm.guard (by first | decide | (simp only [List.length_modify, List.length_append, List.length_cons]; omega)) ?_
    try simp only [Zaf hA, ZaV hA, Zq, List.take_zero, List.take_succ_cons, List.drop_succ_cons, List.drop_zero, List.nil_append, List.cons_append, List.length_cons, List.length_nil, Nat.zero_add, Nat.reduceAdd, List.set_cons_succ, List.set_cons_zero]
    refine Tm.uncons ?_
    refine Tm.cOwn ?_
    try simp (disch := omega) only [Zj]
    refine YI.tm (fun i hi => hi.1) (YI.T hB k2 (by omega) (by omega)) (fun y2 t2 hy => ?_)
    obtain ⟨ys2, et2, el2, en2, hh2⟩ := hy
    simp only [] at et2 en2 hh2
    subst et2 en2
    refine Tm.guard (by first | decide | (simp only [List.length_modify, List.length_append, List.length_cons]; omega)) ?_
    try simp only [Zaf hA, ZaV hA, Zq, List.take_zero, List.take_succ_cons, List.drop_succ_cons, List.drop_zero, List.nil_append, List.cons_append, List.length_cons, List.length_nil, Nat.zero_add, Nat.reduceAdd, List.set_cons_succ, List.set_cons_zero]
    refine Tm.uncons ?_
    refine Tm.cOwn ?_
    try simp (disch := omega) only [Zj]
    refine YW.tm (fun i hi => hi.1) (YW.T hB k3 (by omega) (by omega)) (fun y3 t3 hy => ?_)
    obtain ⟨ys3, et3, el3, en3, hh3⟩ := hy
    simp only [] at et3 en3 hh3
    subst et3 en3
    try simp (disch := omega) only [Zj]
    try simp only [Zaf hA, Zq, List.take_zero, List.take_succ_cons, List.drop_succ_cons, List.drop_zero, List.nil_append, List.cons_append, List.length_cons, List.length_nil, Nat.zero_add, Nat.reduceAdd, List.set_cons_succ, List.set_cons_zero]
    refine hL (_, _, _) ⟨by omega, by omega, done ++ [[.int .i64 (u), .sl ys1, .sl ys2, .sl ys3]], by simp only [List.length_append, List.length_cons, List.length_nil]; omega, ?_, by omega, ZbX.snoc hH trivial⟩ (by simp only []; omega)
    rw [Zai]
    simp only [Zb, ZZ, ZbW, List.append_assoc, List.cons_append, List.nil_append]
   ·simp only [decide_eq_false_iff_not, hT] at h4
    refine Tm.ret ⟨done, ?_, by omega, ?_, hH⟩
    ·rw [List.drop_eq_nil_of_le (by omega)]
     simp only [Zb, List.append_nil]
    ·rw [List.take_of_length_le (by omega)] at hu
     exact hu
 obtain ⟨v, ⟨ys, e1, e2, e3, hH⟩, h2⟩ := key
 exact ⟨v, ⟨ys, e1, e2, e3, fun k hk => hk⟩, h2⟩
set_option maxRecDepth 100000 in
set_option maxHeartbeats 8000000 in
theorem YX.T {B : Nat} (hB : B ≤ 1099511627776) {xs : LD} {n : Int} (g : Zi RSS B xs) (h0 : 0 ≤ n) (h1 : n + Zp xs ≤ 4611686018427387904) : Tm Z3 (fun k => YX.t k (Zb xs) n) (fun z => ∃ ys, z.2 = Zb ys ∧ ys.length = xs.length ∧ z.1 = n + Zp xs ∧ ∀ k, Z3 k → Z3 k) := by
 have hb : big = 2 ^ 64 := rfl
 have hl := g.1
 have key : Tm Z3 (fun k => YX.t k (Zb xs) n) (fun z => ∃ ys, z.2 = Zb ys ∧ ys.length = xs.length ∧ z.1 = n + Zp xs ∧ ZbX (fun _ _ _ => True) n ys z.1) := by
  unfold YX.t YX.g
  refine Tm.loop (okk := Z3) (p := fun k => k) (fun i hi => hi) (b := fun k => YX.l0 k (fun z0 z1 => some (z0, z1))) (fun v => match v with | (u, i, tab) => ((xs.length : Int) - i).toNat) (fun v => match v with | (u, i, tab) => 0 ≤ i ∧ i ≤ xs.length ∧ ∃ done : LD, done.length = i.toNat ∧ tab = Zb done ++ Zb (xs.drop i.toNat) ∧ u = n + Zp (xs.take i.toNat) ∧ ZbX (fun _ _ _ => True) n done u) ?_ ?_ ?_
  ·rintro ⟨u, i, tab⟩ hI
   simp only [] at hI ⊢
   omega
  ·exact ⟨by omega, by omega, [], rfl, by simp [Zb], by simp [Zp], .nil⟩
  ·rintro ⟨u, i, tab⟩ hI L hL
   simp only [] at hI
   obtain ⟨i0, i1, done, hd, rfl, hu, hH⟩ := hI
   have hA : (Zb done).length = i.toNat := by rw [Zw, hd]
   have hT : (Zb done ++ Zb (xs.drop i.toNat)).length = xs.length := by rw [List.length_append, hA, Zw, List.length_drop]; omega
   simp only [YX.l0]
   refine Tm.ite (fun h4 => ?_) (fun h4 => ?_)
   ·simp only [decide_eq_true_eq, hT] at h4
    have hx := gR_at i0 h4
    obtain ⟨c0, c1, e, k0, k1, _⟩ := (g.2 _ (gR_mem i0 h4)).open
    rw [e] at hx
    have hdr := drop_at i0 hx
    have hw := wt_take i0 hx
    simp only [ZbG, wtD] at hw
    have hs := wt_split xs (i + 1).toNat
    rw [hdr] at hT ⊢
    simp only [Zb, ZZ, ZbW] at hT ⊢
    have hT2 := hT
    simp only [List.length_append, List.length_cons] at hT2
    try simp (disch := omega) only [Zj]
    refine Ym.tm (fun i hi => hi.1) (Tm.at (ok := Z3) (v := Ym.v _) (fun k hk => Ym.tv (by omega) hk)) (fun y hy => ?_)
    subst hy
    refine Tm.guard (by first | decide | (simp only [List.length_modify, List.length_append, List.length_cons]; omega)) ?_
    refine Tm.guard (by first | decide | (simp only [List.length_modify, List.length_append, List.length_cons]; omega)) ?_
    try simp (disch := omega) only [Zj]
    refine Ym.tm (fun i hi => hi.1) (Tm.at (ok := Z3) (v := Ym.v _) (fun k hk => Ym.tv (by omega) hk)) (fun y hy => ?_)
    subst hy
    refine Tm.guard (by first | decide | (simp only [List.length_modify, List.length_append, List.length_cons]; omega)) ?_
    refine Tm.guard (by first | decide | (simp only [List.length_modify, List.length_append, List.length_cons]; omega)) ?_
    try simp (disch := omega) only [Zj]
    try simp only [Zaf hA, Zq, List.take_zero, List.take_succ_cons, List.drop_succ_cons, List.drop_zero, List.nil_append, List.cons_append, List.length_cons, List.length_nil, Nat.zero_add, Nat.reduceAdd, List.set_cons_succ, List.set_cons_zero]
    refine hL (_, _, _) ⟨by omega, by omega, done ++ [[.str (Ym.v (u)), .str (Ym.v (u + 1))]], by simp only [List.length_append, List.length_cons, List.length_nil]; omega, ?_, by omega, ZbX.snoc hH trivial⟩ (by simp only []; omega)
    rw [Zai]
    simp only [Zb, ZZ, ZbW, List.append_assoc, List.cons_append, List.nil_append]
   ·simp only [decide_eq_false_iff_not, hT] at h4
    refine Tm.ret ⟨done, ?_, by omega, ?_, hH⟩
    ·rw [List.drop_eq_nil_of_le (by omega)]
     simp only [Zb, List.append_nil]
    ·rw [List.take_of_length_le (by omega)] at hu
     exact hu
 obtain ⟨v, ⟨ys, e1, e2, e3, hH⟩, h2⟩ := key
 exact ⟨v, ⟨ys, e1, e2, e3, fun k hk => hk⟩, h2⟩
set_option maxRecDepth 100000 in
set_option maxHeartbeats 8000000 in
theorem YT.T {B : Nat} (hB : B ≤ 1099511627776) {xs : LD} {n : Int} (g : Zi Yar B xs) (h0 : 0 ≤ n) (h1 : n + Zp xs ≤ 4611686018427387904) : Tm Z3 (fun k => YT.t k (Zb xs) n) (fun z => ∃ ys, z.2 = Zb ys ∧ ys.length = xs.length ∧ z.1 = n + Zp xs ∧ ∀ k, Z3 k → Z3 k) := by
 have hb : big = 2 ^ 64 := rfl
 have hl := g.1
 have key : Tm Z3 (fun k => YT.t k (Zb xs) n) (fun z => ∃ ys, z.2 = Zb ys ∧ ys.length = xs.length ∧ z.1 = n + Zp xs ∧ ZbX (fun _ _ _ => True) n ys z.1) := by
  unfold YT.t YT.g
  refine Tm.loop (okk := Z3) (p := fun k => k) (fun i hi => hi) (b := fun k => YT.l0 k (fun z0 z1 => some (z0, z1))) (fun v => match v with | (u, i, tab) => ((xs.length : Int) - i).toNat) (fun v => match v with | (u, i, tab) => 0 ≤ i ∧ i ≤ xs.length ∧ ∃ done : LD, done.length = i.toNat ∧ tab = Zb done ++ Zb (xs.drop i.toNat) ∧ u = n + Zp (xs.take i.toNat) ∧ ZbX (fun _ _ _ => True) n done u) ?_ ?_ ?_
  ·rintro ⟨u, i, tab⟩ hI
   simp only [] at hI ⊢
   omega
  ·exact ⟨by omega, by omega, [], rfl, by simp [Zb], by simp [Zp], .nil⟩
  ·rintro ⟨u, i, tab⟩ hI L hL
   simp only [] at hI
   obtain ⟨i0, i1, done, hd, rfl, hu, hH⟩ := hI
   have hA : (Zb done).length = i.toNat := by rw [Zw, hd]
   have hT : (Zb done ++ Zb (xs.drop i.toNat)).length = xs.length := by rw [List.length_append, hA, Zw, List.length_drop]; omega
   simp only [YT.l0]
   refine Tm.ite (fun h4 => ?_) (fun h4 => ?_)
   ·simp only [decide_eq_true_eq, hT] at h4
    have hx := gR_at i0 h4
    obtain ⟨c0, c1, c2, c3, e, k0, k1, k2, k3, _⟩ := (g.2 _ (gR_mem i0 h4)).open
    rw [e] at hx
    have hdr := drop_at i0 hx
    have hw := wt_take i0 hx
    simp only [ZbG, wtD] at hw
    have hs := wt_split xs (i + 1).toNat
    rw [hdr] at hT ⊢
    simp only [Zb, ZZ, ZbW] at hT ⊢
    have hT2 := hT
    simp only [List.length_append, List.length_cons] at hT2
    try simp (disch := omega) only [Zj]
    refine Ym.tm (fun i hi => hi.1) (Tm.at (ok := Z3) (v := Ym.v _) (fun k hk => Ym.tv (by omega) hk)) (fun y hy => ?_)
    subst hy
    refine Tm.guard (by first | decide | (simp only [List.length_modify, List.length_append, List.length_cons]; omega)) ?_
    refine Tm.guard (by first | decide | (simp only [List.length_modify, List.length_append, List.length_cons]; omega)) ?_
    refine Tm.guard (by first | decide | (simp only [List.length_modify, List.length_append, List.length_cons]; omega)) ?_
    try simp only [Zaf hA, ZaV hA, Zq, List.take_zero, List.take_succ_cons, List.drop_succ_cons, List.drop_zero, List.nil_append, List.cons_append, List.length_cons, List.length_nil, Nat.zero_add, Nat.reduceAdd, List.set_cons_succ, List.set_cons_zero]
    refine Tm.uncons ?_
    refine Tm.cOwn ?_
    try simp (disch := omega) only [Zj]
    refine YX.tm (fun i hi => hi.1) (YX.T hB k1 (by omega) (by omega)) (fun y1 t1 hy => ?_)
    obtain ⟨ys1, et1, el1, en1, hh1⟩ := hy
    simp only [] at et1 en1 hh1
    subst et1 en1
    refine Tm.guard (by first | decide | (simp only [List.length_modify, List.length_append, List.length_cons]; omega)) ?_
    try simp only [Zaf hA, ZaV hA, Zq, List.take_zero, List.take_succ_cons, List.drop_succ_cons, List.drop_zero, List.nil_append, List.cons_append, List.length_cons, List.length_nil, Nat.zero_add, Nat.reduceAdd, List.set_cons_succ, List.set_cons_zero]
    refine Tm.uncons ?_
    refine Tm.cOwn ?_
    try simp (disch := omega) only [Zj]
    refine YI.tm (fun i hi => hi.1) (YI.T hB k2 (by omega) (by omega)) (fun y2 t2 hy => ?_)
    obtain ⟨ys2, et2, el2, en2, hh2⟩ := hy
    simp only [] at et2 en2 hh2
    subst et2 en2
    refine Tm.guard (by first | decide | (simp only [List.length_modify, List.length_append, List.length_cons]; omega)) ?_
    refine Tm.guard (by first | decide | (simp only [List.length_modify, List.length_append, List.length_cons]; omega)) ?_
    try simp (disch := omega) only [Zj]
    try simp only [Zaf hA, Zq, List.take_zero, List.take_succ_cons, List.drop_succ_cons, List.drop_zero, List.nil_append, List.cons_append, List.length_cons, List.length_nil, Nat.zero_add, Nat.reduceAdd, List.set_cons_succ, List.set_cons_zero]
    refine hL (_, _, _) ⟨by omega, by omega, done ++ [[.str (Ym.v (u)), .sl ys1, .sl ys2, .int .i64 (u + 1 + (Zp c1 : Int) + (Zp c2 : Int))]], by simp only [List.length_append, List.length_cons, List.length_nil]; omega, ?_, by omega, ZbX.snoc hH trivial⟩ (by simp only []; omega)
    rw [Zai]
    simp only [Zb, ZZ, ZbW, List.append_assoc, List.cons_append, List.nil_append]
   ·simp only [decide_eq_false_iff_not, hT] at h4
    refine Tm.ret ⟨done, ?_, by omega, ?_, hH⟩
    ·rw [List.drop_eq_nil_of_le (by omega)]
     simp only [Zb, List.append_nil]
    ·rw [List.take_of_length_le (by omega)] at hu
     exact hu
 obtain ⟨v, ⟨ys, e1, e2, e3, hH⟩, h2⟩ := key
 exact ⟨v, ⟨ys, e1, e2, e3, fun k hk => hk⟩, h2⟩
theorem YaX.T {a0 a1 : LD} (ga0 : Zi YV maxLen a0) (ga1 : Zi Yar maxLen a1) : Tm (ZF 1) (fun k => YaX.t k a0 a1) (fun r => r = true) := by
 unfold YaX.t YaX.g
 have hm := Zy
 have hlim : lim = 1048576 := rfl
 refine Yam.tm (fun i hi => up0 hi) (Yam.T (by first | assumption | omega) (by first | assumption | omega) (by first | assumption | omega)) (fun y2 hy1 => ?_)
 rcases hy1 with hy1 | ⟨p5, p6, q3, q4, _⟩
 ·exact Tm.ite (fun _ => Tm.ret (by rfl)) (fun h => by simp at h; omega)
 refine Tm.ite (fun h7 => ?_) (fun h7 => ?_)
 ·try simp only [bz0, bz1, bz2, bz3, bz4, bz5, bz6, bz7, bz8, bz9, bza] at h7
  exact Tm.ret (by first | rfl | (exfalso; omega) | (exfalso; simp [Zu] at *))
 ·try simp only [bz0, bz1, bz2, bz3, bz4, bz5, bz6, bz7, bz8, bz9, bza] at h7
  refine Y4.tm (fun i hi => up0 hi) (Y4.T (by first | assumption | omega) (by first | assumption | omega) (by first | assumption | omega)) (fun y9 hy8 => ?_)
  rcases hy8 with hy8 | ⟨p12, p13, q10, q11, _⟩
  ·exact Tm.ite (fun _ => Tm.ret (by rfl)) (fun h => by simp at h; omega)
  refine Tm.ite (fun h14 => ?_) (fun h14 => ?_)
  ·try simp only [bz0, bz1, bz2, bz3, bz4, bz5, bz6, bz7, bz8, bz9, bza] at h14
   exact Tm.ret (by first | rfl | (exfalso; omega) | (exfalso; simp [Zu] at *))
  ·try simp only [bz0, bz1, bz2, bz3, bz4, bz5, bz6, bz7, bz8, bz9, bza] at h14
   refine YY.tm (fun i hi => up0 hi) (YY.T (by first | assumption | omega)) (fun y16 hy15 => ?_)
   try simp only [] at hy15
   obtain ⟨rfl, _⟩ := hy15
   try simp only [ZO]
   refine YN.tm (fun i hi => up0 hi) (YN.T (by first | assumption | omega)) (fun y18 hy17 => ?_)
   try simp only [] at hy17
   obtain ⟨rfl, _⟩ := hy17
   try simp only [ZO]
   refine YA.tm (fun i hi => up0 hi) (Tm.self (YA.T (by first | assumption | omega) (by first | assumption | omega) (by first | assumption | omega) (by first | assumption | omega))) (fun y20 hy19 => ?_)
   have hf21 := hy19.1
   try simp only [] at hf21
   obtain ⟨q22, q23, _⟩ := hf21
   refine YY.tm (fun i hi => up0 hi) (YY.T (by first | assumption | omega)) (fun y25 hy24 => ?_)
   try simp only [] at hy24
   obtain ⟨rfl, _⟩ := hy24
   try simp only [ZO]
   refine YN.tm (fun i hi => up0 hi) (YN.T (by first | assumption | omega)) (fun y27 hy26 => ?_)
   try simp only [] at hy26
   obtain ⟨rfl, _⟩ := hy26
   try simp only [ZO]
   refine YB.tm (fun i hi => hi) (Tm.at (ok := (ZF 1)) (v := Zb (C.immRows y20)) (fun k hk => YB.same (by first | assumption | omega) (by first | assumption | omega) (by first | assumption | omega) (by first | assumption | omega) hk ((hy19.2) k (up0 hk)))) (fun y29 hy28 => ?_)
   subst y29
   try simp only [ZO]
   refine Y9.tm (fun i hi => up0 hi) (Y9.T (by first | assumption | omega) (by first | assumption | omega)) (fun y31 hy30 => ?_)
   subst hy30
   refine Tm.ite (fun h32 => ?_) (fun h32 => ?_)
   ·try simp only [bz0, bz1, bz2, bz3, bz4, bz5, bz6, bz7, bz8, bz9, bza] at h32
    exact Tm.ret (by first | rfl | (exfalso; omega) | (exfalso; simp [Zu] at *))
   ·try simp only [bz0, bz1, bz2, bz3, bz4, bz5, bz6, bz7, bz8, bz9, bza] at h32
    refine YY.tm (fun i hi => up0 hi) (YY.T (by first | assumption | omega)) (fun y34 hy33 => ?_)
    try simp only [] at hy33
    obtain ⟨rfl, _⟩ := hy33
    try simp only [ZO]
    refine Yao.tm (fun i hi => up0 hi) (Yao.T (by first | assumption | omega) (by first | assumption | omega)) (fun y36 hy35 => ?_)
    subst hy35
    refine Tm.ite (fun h37 => ?_) (fun h37 => ?_)
    ·try simp only [bz0, bz1, bz2, bz3, bz4, bz5, bz6, bz7, bz8, bz9, bza] at h37
     exact Tm.ret (by first | rfl | (exfalso; omega) | (exfalso; simp [Zu] at *))
    ·try simp only [bz0, bz1, bz2, bz3, bz4, bz5, bz6, bz7, bz8, bz9, bza] at h37
     refine YN.tm (fun i hi => up0 hi) (YN.T (by first | assumption | omega)) (fun y39 hy38 => ?_)
     try simp only [] at hy38
     obtain ⟨rfl, _⟩ := hy38
     try simp only [ZO]
     refine Y5.tm (fun i hi => up0 hi) (Y5.T (by first | assumption | omega) (by first | assumption | omega)) (fun y41 hy40 => ?_)
     subst hy40
     refine Tm.ite (fun h42 => ?_) (fun h42 => ?_)
     ·try simp only [bz0, bz1, bz2, bz3, bz4, bz5, bz6, bz7, bz8, bz9, bza] at h42
      exact Tm.ret (by first | rfl | (exfalso; omega) | (exfalso; simp [Zu] at *))
     ·try simp only [bz0, bz1, bz2, bz3, bz4, bz5, bz6, bz7, bz8, bz9, bza] at h42
      refine YZ.tm (fun i hi => up0 hi) (YZ.T (B := 2097152) (by decide) (by first | assumption | exact YV.wide (by assumption)) (by omega) (by omega)) (fun y44 y45 hy43 => ?_)
      obtain ⟨ys47, et48, el49, en50, hh46⟩ := hy43
      simp only [] at en50 et48 hh46
      subst en50 et48
      refine Tm.guard (by first | omega | (simp only [Zw]; assumption) | (simp only [lim, Zy, ZN] at *; omega) | (simp only [lim, ZN] at *; refine ⟨?_, ?_, ?_, ?_⟩ <;> omega)) ?_
      refine YT.tm (fun i hi => up0 hi) (YT.T (B := 2097152) (by decide) (by first | assumption | exact Yar.wide (by assumption)) (by omega) (by omega)) (fun y52 y53 hy51 => ?_)
      obtain ⟨ys55, et56, el57, en58, hh54⟩ := hy51
      simp only [] at en58 et56 hh54
      subst en58 et56
      refine Tm.guard (by first | omega | (simp only [Zw]; assumption) | (simp only [lim, Zy, ZN] at *; omega) | (simp only [lim, ZN] at *; refine ⟨?_, ?_, ?_, ?_⟩ <;> omega)) ?_
      refine Tm.ite (fun h59 => ?_) (fun h59 => ?_)
      ·try simp only [bz0, bz1, bz2, bz3, bz4, bz5, bz6, bz7, bz8, bz9, bza] at h59
       exact Tm.ret (by first | rfl | (exfalso; omega) | (exfalso; simp [Zu] at *))
      ·try simp only [bz0, bz1, bz2, bz3, bz4, bz5, bz6, bz7, bz8, bz9, bza] at h59
       refine Y9.tm (fun i hi => up0 hi) (Y9.T (by first | assumption | omega) (by first | assumption | omega)) (fun y61 hy60 => ?_)
       subst hy60
       refine Tm.ite (fun h62 => ?_) (fun h62 => ?_)
       ·try simp only [bz0, bz1, bz2, bz3, bz4, bz5, bz6, bz7, bz8, bz9, bza] at h62
        exact Tm.ret (by first | rfl | (exfalso; omega) | (exfalso; simp [Zu] at *))
       ·try simp only [bz0, bz1, bz2, bz3, bz4, bz5, bz6, bz7, bz8, bz9, bza] at h62
        refine Y1.tm (fun i hi => up0 hi) (Y1.T (B := 2097152) (by decide) (by first | assumption | exact RLIE.wide (by assumption)) (by omega) (by omega)) (fun y64 y65 hy63 => ?_)
        obtain ⟨ys67, et68, el69, en70, hh66⟩ := hy63
        simp only [] at en70 et68 hh66
        subst en70 et68
        refine Tm.guard (by first | omega | (simp only [Zw]; assumption) | (simp only [lim, Zy, ZN] at *; omega) | (simp only [lim, ZN] at *; refine ⟨?_, ?_, ?_, ?_⟩ <;> omega)) ?_
        try simp only [ZO]
        refine YU.tm (fun i hi => up0 hi) (Tm.at (ok := Z3) (fun k hk => hh66 k hk)) (fun y72 hy71 => ?_)
        subst hy71
        refine Tm.ite (fun h73 => ?_) (fun h73 => ?_)
        ·try simp only [bz0, bz1, bz2, bz3, bz4, bz5, bz6, bz7, bz8, bz9, bza] at h73
         exact Tm.ret (by first | rfl | (exfalso; omega) | (exfalso; simp [Zu] at *))
        ·try simp only [bz0, bz1, bz2, bz3, bz4, bz5, bz6, bz7, bz8, bz9, bza] at h73
         refine Tm.ite (fun h74 => ?_) (fun h74 => ?_)
         ·try simp only [bz0, bz1, bz2, bz3, bz4, bz5, bz6, bz7, bz8, bz9, bza] at h74
          exact Tm.ret (by first | rfl | (exfalso; omega) | (exfalso; simp [Zu] at *))
         ·try simp only [bz0, bz1, bz2, bz3, bz4, bz5, bz6, bz7, bz8, bz9, bza] at h74
          refine YY.tm (fun i hi => up0 hi) (YY.T (by first | assumption | omega)) (fun y76 hy75 => ?_)
          try simp only [] at hy75
          obtain ⟨rfl, _⟩ := hy75
          try simp only [ZO]
          refine YN.tm (fun i hi => up0 hi) (YN.T (by first | assumption | omega)) (fun y78 hy77 => ?_)
          try simp only [] at hy77
          obtain ⟨rfl, _⟩ := hy77
          try simp only [ZO]
          refine YB.tm (fun i hi => hi) (Tm.at (ok := (ZF 1)) (v := Zb (C.immRows y20)) (fun k hk => YB.same (by first | assumption | omega) (by first | assumption | omega) (by first | assumption | omega) (by first | assumption | omega) hk ((hy19.2) k (up0 hk)))) (fun y80 hy79 => ?_)
          subst y80
          try simp only [ZO]
          refine Y9.tm (fun i hi => up0 hi) (Y9.T (by first | assumption | omega) (by first | assumption | omega)) (fun y82 hy81 => ?_)
          subst hy81
          refine Tm.ite (fun h83 => ?_) (fun h83 => ?_)
          ·try simp only [bz0, bz1, bz2, bz3, bz4, bz5, bz6, bz7, bz8, bz9, bza] at h83
           exact Tm.ret (by first | rfl | (exfalso; omega) | (exfalso; simp [Zu] at *))
          ·try simp only [bz0, bz1, bz2, bz3, bz4, bz5, bz6, bz7, bz8, bz9, bza] at h83
           try simp only [ZO]
           refine YU.tm (fun i hi => up0 hi) (Tm.at (ok := Z3) (fun k hk => hh66 k hk)) (fun y85 hy84 => ?_)
           subst hy84
           refine Tm.ite (fun h86 => ?_) (fun h86 => ?_)
           ·try simp only [bz0, bz1, bz2, bz3, bz4, bz5, bz6, bz7, bz8, bz9, bza] at h86
            exact Tm.ret (by first | rfl | (exfalso; omega) | (exfalso; simp [Zu] at *))
           ·try simp only [bz0, bz1, bz2, bz3, bz4, bz5, bz6, bz7, bz8, bz9, bza] at h86
            refine Tm.ite (fun h87 => ?_) (fun h87 => ?_)
            ·try simp only [bz0, bz1, bz2, bz3, bz4, bz5, bz6, bz7, bz8, bz9, bza] at h87
             exact Tm.ret (by first | rfl | (exfalso; omega) | (exfalso; simp [Zu] at *))
            ·try simp only [bz0, bz1, bz2, bz3, bz4, bz5, bz6, bz7, bz8, bz9, bza] at h87
             exact Tm.ret (by first | rfl | (exfalso; omega) | (exfalso; simp [Zu] at *))
open Go.ChangeShapes Go.WideShapes Go.ChangeAt Go.RowKit
open Go.ChangeMaps (open_string shut_string)
theorem own : ownKnob Tryz.prog.godebug = none := by kernel_rfl
theorem laidOut : laidOutB Tryz.prog = true := by kernel_rfl
theorem goodS_9 {r : List D} (h : RowS Tryz.prog maxLen 9 r) : RS maxLen r := by
 have hh := h.open (show ZC Tryz.prog 6 9 = [9] from by kernel_rfl)
 obtain ⟨d0, l0, rfl, g0, hh0⟩ := goodR_cons hh
 obtain ⟨c0, rfl, k0⟩ := good_str (by kernel_rfl) g0
 obtain rfl := goodR_nil hh0
 exact ⟨c0, rfl, k0, trivial⟩
theorem goodISLSE_175 {r : List D} (h : RowS Tryz.prog maxLen 175 r) : YaC maxLen r := by
 have hh := h.open (show ZC Tryz.prog 6 175 = [3, 9, 23] from by kernel_rfl)
 obtain ⟨d0, l0, rfl, g0, hh0⟩ := goodR_cons hh
 obtain ⟨c0, rfl, k0⟩ := good_int (k := .i64) (by kernel_rfl) g0
 obtain ⟨d1, l1, rfl, g1, hh1⟩ := goodR_cons hh0
 obtain ⟨c1, rfl, k1⟩ := good_str (by kernel_rfl) g1
 obtain ⟨d2, l2, rfl, g2, hh2⟩ := goodR_cons hh1
 obtain ⟨c2, rfl, k2, m2⟩ := good_sl (e := 9) (by kernel_rfl) g2
 obtain rfl := goodR_nil hh2
 exact ⟨c0, c1, c2, rfl, k0, k1, ⟨k2, fun r hr => goodS_9 (m2 r hr)⟩, trivial⟩
theorem goodSI_178 {r : List D} (h : RowS Tryz.prog maxLen 178 r) : RSI maxLen r := by
 have hh := h.open (show ZC Tryz.prog 6 178 = [9, 3] from by kernel_rfl)
 obtain ⟨d0, l0, rfl, g0, hh0⟩ := goodR_cons hh
 obtain ⟨c0, rfl, k0⟩ := good_str (by kernel_rfl) g0
 obtain ⟨d1, l1, rfl, g1, hh1⟩ := goodR_cons hh0
 obtain ⟨c1, rfl, k1⟩ := good_int (k := .i64) (by kernel_rfl) g1
 obtain rfl := goodR_nil hh1
 exact ⟨c0, c1, rfl, k0, k1, trivial⟩
theorem goodILISLSEELSELSIE_26 {r : List D} (h : RowS Tryz.prog maxLen 26 r) : YV maxLen r := by
 have hh := h.open (show ZC Tryz.prog 6 26 = [3, 22, 23, 24] from by kernel_rfl)
 obtain ⟨d0, l0, rfl, g0, hh0⟩ := goodR_cons hh
 obtain ⟨c0, rfl, k0⟩ := good_int (k := .i64) (by kernel_rfl) g0
 obtain ⟨d1, l1, rfl, g1, hh1⟩ := goodR_cons hh0
 obtain ⟨c1, rfl, k1, m1⟩ := good_sl (e := 175) (by kernel_rfl) g1
 obtain ⟨d2, l2, rfl, g2, hh2⟩ := goodR_cons hh1
 obtain ⟨c2, rfl, k2, m2⟩ := good_sl (e := 9) (by kernel_rfl) g2
 obtain ⟨d3, l3, rfl, g3, hh3⟩ := goodR_cons hh2
 obtain ⟨c3, rfl, k3, m3⟩ := good_sl (e := 178) (by kernel_rfl) g3
 obtain rfl := goodR_nil hh3
 exact ⟨c0, c1, c2, c3, rfl, k0, ⟨k1, fun r hr => goodISLSE_175 (m1 r hr)⟩, ⟨k2, fun r hr => goodS_9 (m2 r hr)⟩, ⟨k3, fun r hr => goodSI_178 (m3 r hr)⟩, trivial⟩
theorem goodSS_243 {r : List D} (h : RowS Tryz.prog maxLen 243 r) : RSS maxLen r := by
 have hh := h.open (show ZC Tryz.prog 6 243 = [9, 9] from by kernel_rfl)
 obtain ⟨d0, l0, rfl, g0, hh0⟩ := goodR_cons hh
 obtain ⟨c0, rfl, k0⟩ := good_str (by kernel_rfl) g0
 obtain ⟨d1, l1, rfl, g1, hh1⟩ := goodR_cons hh0
 obtain ⟨c1, rfl, k1⟩ := good_str (by kernel_rfl) g1
 obtain rfl := goodR_nil hh1
 exact ⟨c0, c1, rfl, k0, k1, trivial⟩
theorem goodSLSSELSEI_113 {r : List D} (h : RowS Tryz.prog maxLen 113 r) : Yar maxLen r := by
 have hh := h.open (show ZC Tryz.prog 6 113 = [9, 111, 23, 3] from by kernel_rfl)
 obtain ⟨d0, l0, rfl, g0, hh0⟩ := goodR_cons hh
 obtain ⟨c0, rfl, k0⟩ := good_str (by kernel_rfl) g0
 obtain ⟨d1, l1, rfl, g1, hh1⟩ := goodR_cons hh0
 obtain ⟨c1, rfl, k1, m1⟩ := good_sl (e := 243) (by kernel_rfl) g1
 obtain ⟨d2, l2, rfl, g2, hh2⟩ := goodR_cons hh1
 obtain ⟨c2, rfl, k2, m2⟩ := good_sl (e := 9) (by kernel_rfl) g2
 obtain ⟨d3, l3, rfl, g3, hh3⟩ := goodR_cons hh2
 obtain ⟨c3, rfl, k3⟩ := good_int (k := .i64) (by kernel_rfl) g3
 obtain rfl := goodR_nil hh3
 exact ⟨c0, c1, c2, c3, rfl, k0, ⟨k1, fun r hr => goodSS_243 (m1 r hr)⟩, ⟨k2, fun r hr => goodS_9 (m2 r hr)⟩, k3, trivial⟩
theorem types : lawTys Tryz.prog [26, 175, 9, 178, 113, 243] = true := by kernel_rfl
set_option maxRecDepth 100000 in
theorem lifted (os : Os) (started : os.Started) (H : Type) (enc : TypeId × Value → H) :
  ReturnsInHanded {} Tryz.checked os 4 .any (Rows.fnExactPlansSpec.pre6 enc Tryz.prog Tryz.f4 Rows.fnExactPlansRow.domain false) (Rows.fnExactPlansSpec.post enc Tryz.prog Tryz.f4 false true false false) := by
 refine returnsInHanded_of_change_sized (C := Tryz.checked) own started (by kernel_rfl) Tryz.func4
  (ChangeSpec.witness6 (enc := enc) (C := Tryz.checked) false ⟨#[], #[.slice none 0 0, .slice none 0 0], []⟩ 8 (by kernel_rfl) (by kernel_rfl) (by kernel_rfl) (by kernel_rfl)) ?_
 intro W base args ds gs before hval0 hW hcnd hsz0 _
 have hval : ∀ (j : Nat) t v, Tryz.f4.params[j]? = some t → args[j]? = some v → Value.okWide Tryz.prog W .any base t v := hval0
 have hW' := hW
 obtain ⟨p, q, hA0, hV, rfl, hfz, hnd⟩ := hW
 have hA : DataW.TrodAll enc Tryz.prog W 0 (fun _ => true) true Tryz.f4.params.toList args.toList ds p := hA0
 have hpar : Tryz.f4.params = #[47, 27] := by kernel_rfl
 rw [hpar] at hA hval
 obtain ⟨v0, vs0, d0, ds0, p0, q0, hargs, rfl, rfl, h0, r0⟩ := trodAll_cons hA
 obtain ⟨v1, vs1, d1, ds1, p1, q1, rfl, rfl, rfl, h1, r1⟩ := trodAll_cons r0
 obtain ⟨rfl, rfl, rfl⟩ := trodAll_nil r1
 obtain rfl : args = #[v0, v1] := by cases args; simp_all
 obtain ⟨rfl, rfl⟩ := trodVars_none hV
 have k0 := h0
 have lt0 : ∀ x ∈ p0, x.block < W.heap.size := by obtain ⟨m, hm⟩ := k0; exact DataW.trod_lt m _ _ _ hm
 obtain ⟨sa0, sn0, sc0, rfl⟩ := okWide_slice (e := 26) (by kernel_rfl) (hval 0 47 v0 rfl rfl)
 obtain ⟨ea0, hd0, wa0⟩ := open_cell types (by kernel_rfl) rfl (by kernel_rfl) h0
 obtain ⟨a0, rfl, ka0, ma0⟩ := good_sl (e := 26) (by kernel_rfl) wa0
 have k1 := h1
 have lt1 : ∀ x ∈ p1, x.block < W.heap.size := by obtain ⟨m, hm⟩ := k1; exact DataW.trod_lt m _ _ _ hm
 obtain ⟨sa1, sn1, sc1, rfl⟩ := okWide_slice (e := 113) (by kernel_rfl) (hval 1 27 v1 rfl rfl)
 obtain ⟨ea1, hd1, wa1⟩ := open_cell types (by kernel_rfl) rfl (by kernel_rfl) h1
 obtain ⟨a1, rfl, ka1, ma1⟩ := good_sl (e := 113) (by kernel_rfl) wa1
 clear hA0 hval0 hsz0
 obtain ⟨kb, hkb⟩ : ∃ k, lv 1 ≤ k := ⟨_, Nat.le_refl _⟩
 obtain ⟨z, rfl, hz⟩ := YaX.T ⟨ka0, fun r hr => goodILISLSEELSELSIE_26 (ma0 r hr)⟩ ⟨ka1, fun r hr => goodSLSSELSEI_113 (ma1 r hr)⟩
 refine (law_calls (YaX.ok kb) rfl rfl (by kernel_rfl) (aa := [.d (.sl a0), .d (.sl a1)]) (vs := [.slice sa0 sn0 sc0, .slice sa1 sn1 sc1]) ?_ ⟨(), ?_⟩).mono fun e W' ⟨he, bel⟩ => ?_
 ·exact (ZU.cons' ⟨rfl, hd0⟩ (ZU.cons' ⟨rfl, hd1⟩ ZU.nil'))
 ·exact (ent_run (YaX.e kb) rfl (congrArg some (hz kb hkb)) rfl)
 ·subst he
  exact ⟨_, rfl, _, _, _, [], _, [], hW', trodAll_mk1 (shut_bool (by kernel_rfl) _), (trodAll_cons_mk (Below.trod laidOut (by kernel_rfl) (of_decide_eq_true (by kernel_rfl)) k0 bel lt0) (trodAll_cons_mk (Below.trod laidOut (by kernel_rfl) (of_decide_eq_true (by kernel_rfl)) k1 bel lt1) trodAll_mk0)), rfl, bel.frame _, fun h => by cases h⟩
theorem facts1 : joined1 Tryz.prog 4 Tryz.f4 Rows.fnExactPlansSpec Rows.fnExactPlansRow = true := by kernel_rfl
theorem facts2 : joined2 Tryz.prog 4 Tryz.f4 Rows.fnExactPlansSpec Rows.fnExactPlansRow = true := by kernel_rfl
theorem facts3 : joined3 Tryz.prog 4 Tryz.f4 Rows.fnExactPlansSpec Rows.fnExactPlansRow = true := by kernel_rfl
theorem facts4 : joined4 Tryz.prog 4 Tryz.f4 Rows.fnExactPlansSpec Rows.fnExactPlansRow = true := by kernel_rfl
theorem facts5 : joined5 Tryz.prog 4 Tryz.f4 Rows.fnExactPlansSpec Rows.fnExactPlansRow = true := by kernel_rfl
theorem facts6 : joined6 Tryz.prog 4 Tryz.f4 Rows.fnExactPlansSpec Rows.fnExactPlansRow = true := by kernel_rfl
theorem facts7 : joined7 Tryz.prog 4 Tryz.f4 Rows.fnExactPlansSpec Rows.fnExactPlansRow = true := by kernel_rfl
theorem facts8 : joined8 Tryz.prog 4 Tryz.f4 Rows.fnExactPlansSpec Rows.fnExactPlansRow = true := by kernel_rfl
theorem over : Rows.fnExactPlansRow.holds Tryz.pinned (OpenSpec.ofChange Rows.fnExactPlansSpec) :=
 OpenClaim.holds_of_wide 4 Tryz.f4 rfl rfl rfl rfl rfl rfl rfl ⟨rfl, rfl, rfl, rfl, rfl⟩ rfl rfl rfl rfl rfl (by kernel_rfl) Tryz.func4 (joined_of facts1 facts2 facts3 facts4 facts5 facts6 facts7 facts8)
  (of_decide_eq_true (by kernel_rfl)) (by unfold Func.isWrapper; first | (rw [if_pos (by decide +kernel)]; kernel_rfl) | (rw [if_neg (by decide +kernel)]; exact ⟨rfl, rfl⟩))
  (fun os started H enc _ => lifted os started H enc)
theorem fnExactPlans_holds : Rows.FnExactPlansSaid := over
end Go.Proofs.YtppfencdbabmeaaGreat
