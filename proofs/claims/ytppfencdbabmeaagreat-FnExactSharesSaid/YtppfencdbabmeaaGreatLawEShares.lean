/- FnExactShares: the program's function answers as the reference's, for every input. No condition. -/
import Derived.Test.YtppfencdbabmeaaGreatRows
import Derived.Test.YtppfencdbabmeaaGreatYEShares1
import Derived.KernelRfl
import Derived.WalkKit
import Derived.ProofKit
import Derived.OpenShut
import Derived.ShutString
import Derived.ChangeOld
import Derived.Below
import Derived.SizedLaws
set_option linter.unusedVariables false
set_option linter.unusedSimpArgs false
namespace Go.Proofs.YtppfencdbabmeaaGreat
open Go Go.T Go.Proofs
set_option maxRecDepth 100000 in
set_option maxHeartbeats 8000000 in
theorem YD.T {B : Nat} (hB : B ≤ 1099511627776) {xs : List (List D)} {n : Int} (g : Zi RS B xs) (h0 : 0 ≤ n) (h1 : n + Zp xs ≤ 4611686018427387904) : Tm Z3 (fun k => YD.t k (Zb xs) n) (fun z => ∃ ys, z.2 = Zb ys ∧ ys.length = xs.length ∧ z.1 = n + Zp xs ∧ ∀ k, Z3 k → Z3 k) := by
  have hb : big = 2 ^ 64 := rfl
  have hl := g.1
  have key : Tm Z3 (fun k => YD.t k (Zb xs) n) (fun z => ∃ ys, z.2 = Zb ys ∧ ys.length = xs.length ∧ z.1 = n + Zp xs ∧ ZbX (fun _ _ _ => True) n ys z.1) := by
    unfold YD.t YD.g
    refine Tm.loop (okk := Z3) (p := fun k => k) (fun i hi => hi) (b := fun k => YD.l0 k (fun z0 z1 => some (z0, z1))) (fun v => match v with | (u, i, tab) => ((xs.length : Int) - i).toNat) (fun v => match v with | (u, i, tab) => 0 ≤ i ∧ i ≤ xs.length ∧ ∃ done : List (List D), done.length = i.toNat ∧ tab = Zb done ++ Zb (xs.drop i.toNat) ∧ u = n + Zp (xs.take i.toNat) ∧ ZbX (fun _ _ _ => True) n done u) ?_ ?_ ?_
    · rintro ⟨u, i, tab⟩ hI
      simp only [] at hI ⊢
      omega
    · exact ⟨by omega, by omega, [], rfl, by simp [Zb], by simp [Zp], .nil⟩
    · rintro ⟨u, i, tab⟩ hI L hL
      simp only [] at hI
      obtain ⟨i0, i1, done, hd, rfl, hu, hH⟩ := hI
      have hA : (Zb done).length = i.toNat := by rw [Zw, hd]
      have hT : (Zb done ++ Zb (xs.drop i.toNat)).length = xs.length := by rw [List.length_append, hA, Zw, List.length_drop]; omega
      simp only [YD.l0]
      refine Tm.ite (fun h4 => ?_) (fun h4 => ?_)
      · simp only [decide_eq_true_eq, hT] at h4
        have hx := gR_at i0 h4
        obtain ⟨c0, e, k0, _⟩ := (g.2 _ (gR_mem i0 h4)).open
        rw [e] at hx
        have hdr := drop_at i0 hx
        have hw := wt_take i0 hx
        simp only [ZbG, wtD] at hw
        have hs := wt_split xs (i + 1).toNat
        rw [hdr] at hT ⊢
        simp only [Zb, ZZ, ZbW] at hT ⊢
        have hT2 := hT
        simp only [List.length_append, List.length_cons] at hT2
        try simp (disch := omega) only [Zj]
        refine Ym.tm (fun i hi => hi.1) (Tm.at (ok := Z3) (v := Ym.v _) (fun k hk => Ym.tv (by omega) hk)) (fun y hy => ?_)
        subst hy
        refine Tm.guard (by first | decide | (simp only [List.length_modify, List.length_append, List.length_cons]; omega)) ?_
        refine Tm.guard (by first | decide | (simp only [List.length_modify, List.length_append, List.length_cons]; omega)) ?_
        try simp (disch := omega) only [Zj]
        try simp only [Zaf hA, Zq, List.take_zero, List.take_succ_cons, List.drop_succ_cons, List.drop_zero, List.nil_append, List.cons_append, List.length_cons, List.length_nil, Nat.zero_add, Nat.reduceAdd, List.set_cons_succ, List.set_cons_zero]
        refine hL (_, _, _) ⟨by omega, by omega, done ++ [[.str (Ym.v (u))]], by simp only [List.length_append, List.length_cons, List.length_nil]; omega, ?_, by omega, ZbX.snoc hH trivial⟩ (by simp only []; omega)
        rw [Zai]
        simp only [Zb, ZZ, ZbW, List.append_assoc, List.cons_append, List.nil_append]
      · simp only [decide_eq_false_iff_not, hT] at h4
        refine Tm.ret ⟨done, ?_, by omega, ?_, hH⟩
        · rw [List.drop_eq_nil_of_le (by omega)]
          simp only [Zb, List.append_nil]
        · rw [List.take_of_length_le (by omega)] at hu
          exact hu
  obtain ⟨v, ⟨ys, e1, e2, e3, hH⟩, h2⟩ := key
  exact ⟨v, ⟨ys, e1, e2, e3, fun k hk => hk⟩, h2⟩
set_option maxRecDepth 100000 in
set_option maxHeartbeats 8000000 in
theorem YV.T {B : Nat} (hB : B ≤ 1099511627776) {xs : List (List D)} {n : Int} (g : Zi Yas B xs) (h0 : 0 ≤ n) (h1 : n + Zp xs ≤ 4611686018427387904) : Tm Z3 (fun k => YV.t k (Zb xs) n) (fun z => ∃ ys, z.2 = Zb ys ∧ ys.length = xs.length ∧ z.1 = n + Zp xs ∧ ∀ k, Z3 k → Z3 k) := by
  have hb : big = 2 ^ 64 := rfl
  have hl := g.1
  have key : Tm Z3 (fun k => YV.t k (Zb xs) n) (fun z => ∃ ys, z.2 = Zb ys ∧ ys.length = xs.length ∧ z.1 = n + Zp xs ∧ ZbX (fun _ _ _ => True) n ys z.1) := by
    unfold YV.t YV.g
    refine Tm.loop (okk := Z3) (p := fun k => k) (fun i hi => hi) (b := fun k => YV.l0 k (fun z0 z1 => some (z0, z1))) (fun v => match v with | (u, i, tab) => ((xs.length : Int) - i).toNat) (fun v => match v with | (u, i, tab) => 0 ≤ i ∧ i ≤ xs.length ∧ ∃ done : List (List D), done.length = i.toNat ∧ tab = Zb done ++ Zb (xs.drop i.toNat) ∧ u = n + Zp (xs.take i.toNat) ∧ ZbX (fun _ _ _ => True) n done u) ?_ ?_ ?_
    · rintro ⟨u, i, tab⟩ hI
      simp only [] at hI ⊢
      omega
    · exact ⟨by omega, by omega, [], rfl, by simp [Zb], by simp [Zp], .nil⟩
    · rintro ⟨u, i, tab⟩ hI L hL
      simp only [] at hI
      obtain ⟨i0, i1, done, hd, rfl, hu, hH⟩ := hI
      have hA : (Zb done).length = i.toNat := by rw [Zw, hd]
      have hT : (Zb done ++ Zb (xs.drop i.toNat)).length = xs.length := by rw [List.length_append, hA, Zw, List.length_drop]; omega
      simp only [YV.l0]
      refine Tm.ite (fun h4 => ?_) (fun h4 => ?_)
      · simp only [decide_eq_true_eq, hT] at h4
        have hx := gR_at i0 h4
        obtain ⟨c0, c1, c2, e, k0, k1, k2, _⟩ := (g.2 _ (gR_mem i0 h4)).open
        rw [e] at hx
        have hdr := drop_at i0 hx
        have hw := wt_take i0 hx
        simp only [ZbG, wtD] at hw
        have hs := wt_split xs (i + 1).toNat
        rw [hdr] at hT ⊢
        simp only [Zb, ZZ, ZbW] at hT ⊢
        have hT2 := hT
        simp only [List.length_append, List.length_cons] at hT2
        refine Tm.guard (by first | decide | (simp only [List.length_modify, List.length_append, List.length_cons]; omega)) ?_
        refine Tm.guard (by first | decide | (simp only [List.length_modify, List.length_append, List.length_cons]; omega)) ?_
        try simp (disch := omega) only [Zj]
        refine Ym.tm (fun i hi => hi.1) (Tm.at (ok := Z3) (v := Ym.v _) (fun k hk => Ym.tv (by omega) hk)) (fun y hy => ?_)
        subst hy
        refine Tm.guard (by first | decide | (simp only [List.length_modify, List.length_append, List.length_cons]; omega)) ?_
        refine Tm.guard (by first | decide | (simp only [List.length_modify, List.length_append, List.length_cons]; omega)) ?_
        refine Tm.guard (by first | decide | (simp only [List.length_modify, List.length_append, List.length_cons]; omega)) ?_
        try simp only [Zaf hA, ZaV hA, Zq, List.take_zero, List.take_succ_cons, List.drop_succ_cons, List.drop_zero, List.nil_append, List.cons_append, List.length_cons, List.length_nil, Nat.zero_add, Nat.reduceAdd, List.set_cons_succ, List.set_cons_zero]
        refine Tm.uncons ?_
        refine Tm.cOwn ?_
        try simp (disch := omega) only [Zj]
        refine YD.tm (fun i hi => hi.1) (YD.T hB k2 (by omega) (by omega)) (fun y2 t2 hy => ?_)
        obtain ⟨ys2, et2, el2, en2, hh2⟩ := hy
        simp only [] at et2 en2 hh2
        subst et2 en2
        try simp (disch := omega) only [Zj]
        try simp only [Zaf hA, Zq, List.take_zero, List.take_succ_cons, List.drop_succ_cons, List.drop_zero, List.nil_append, List.cons_append, List.length_cons, List.length_nil, Nat.zero_add, Nat.reduceAdd, List.set_cons_succ, List.set_cons_zero]
        refine hL (_, _, _) ⟨by omega, by omega, done ++ [[.int .i64 (u), .str (Ym.v (u + 1)), .sl ys2]], by simp only [List.length_append, List.length_cons, List.length_nil]; omega, ?_, by omega, ZbX.snoc hH trivial⟩ (by simp only []; omega)
        rw [Zai]
        simp only [Zb, ZZ, ZbW, List.append_assoc, List.cons_append, List.nil_append]
      · simp only [decide_eq_false_iff_not, hT] at h4
        refine Tm.ret ⟨done, ?_, by omega, ?_, hH⟩
        · rw [List.drop_eq_nil_of_le (by omega)]
          simp only [Zb, List.append_nil]
        · rw [List.take_of_length_le (by omega)] at hu
          exact hu
  obtain ⟨v, ⟨ys, e1, e2, e3, hH⟩, h2⟩ := key
  exact ⟨v, ⟨ys, e1, e2, e3, fun k hk => hk⟩, h2⟩
set_option maxRecDepth 100000 in
set_option maxHeartbeats 8000000 in
theorem YS.T {B : Nat} (hB : B ≤ 1099511627776) {xs : List (List D)} {n : Int} (g : Zi RSI B xs) (h0 : 0 ≤ n) (h1 : n + Zp xs ≤ 4611686018427387904) : Tm Z3 (fun k => YS.t k (Zb xs) n) (fun z => ∃ ys, z.2 = Zb ys ∧ ys.length = xs.length ∧ z.1 = n + Zp xs ∧ ∀ k, Z3 k → Z3 k) := by
  have hb : big = 2 ^ 64 := rfl
  have hl := g.1
  have key : Tm Z3 (fun k => YS.t k (Zb xs) n) (fun z => ∃ ys, z.2 = Zb ys ∧ ys.length = xs.length ∧ z.1 = n + Zp xs ∧ ZbX (fun _ _ _ => True) n ys z.1) := by
    unfold YS.t YS.g
    refine Tm.loop (okk := Z3) (p := fun k => k) (fun i hi => hi) (b := fun k => YS.l0 k (fun z0 z1 => some (z0, z1))) (fun v => match v with | (u, i, tab) => ((xs.length : Int) - i).toNat) (fun v => match v with | (u, i, tab) => 0 ≤ i ∧ i ≤ xs.length ∧ ∃ done : List (List D), done.length = i.toNat ∧ tab = Zb done ++ Zb (xs.drop i.toNat) ∧ u = n + Zp (xs.take i.toNat) ∧ ZbX (fun _ _ _ => True) n done u) ?_ ?_ ?_
    · rintro ⟨u, i, tab⟩ hI
      simp only [] at hI ⊢
      omega
    · exact ⟨by omega, by omega, [], rfl, by simp [Zb], by simp [Zp], .nil⟩
    · rintro ⟨u, i, tab⟩ hI L hL
      simp only [] at hI
      obtain ⟨i0, i1, done, hd, rfl, hu, hH⟩ := hI
      have hA : (Zb done).length = i.toNat := by rw [Zw, hd]
      have hT : (Zb done ++ Zb (xs.drop i.toNat)).length = xs.length := by rw [List.length_append, hA, Zw, List.length_drop]; omega
      simp only [YS.l0]
      refine Tm.ite (fun h4 => ?_) (fun h4 => ?_)
      · simp only [decide_eq_true_eq, hT] at h4
        have hx := gR_at i0 h4
        obtain ⟨c0, c1, e, k0, k1, _⟩ := (g.2 _ (gR_mem i0 h4)).open
        rw [e] at hx
        have hdr := drop_at i0 hx
        have hw := wt_take i0 hx
        simp only [ZbG, wtD] at hw
        have hs := wt_split xs (i + 1).toNat
        rw [hdr] at hT ⊢
        simp only [Zb, ZZ, ZbW] at hT ⊢
        have hT2 := hT
        simp only [List.length_append, List.length_cons] at hT2
        try simp (disch := omega) only [Zj]
        refine Ym.tm (fun i hi => hi.1) (Tm.at (ok := Z3) (v := Ym.v _) (fun k hk => Ym.tv (by omega) hk)) (fun y hy => ?_)
        subst hy
        refine Tm.guard (by first | decide | (simp only [List.length_modify, List.length_append, List.length_cons]; omega)) ?_
        refine Tm.guard (by first | decide | (simp only [List.length_modify, List.length_append, List.length_cons]; omega)) ?_
        refine Tm.guard (by first | decide | (simp only [List.length_modify, List.length_append, List.length_cons]; omega)) ?_
        refine Tm.guard (by first | decide | (simp only [List.length_modify, List.length_append, List.length_cons]; omega)) ?_
        try simp (disch := omega) only [Zj]
        try simp only [Zaf hA, Zq, List.take_zero, List.take_succ_cons, List.drop_succ_cons, List.drop_zero, List.nil_append, List.cons_append, List.length_cons, List.length_nil, Nat.zero_add, Nat.reduceAdd, List.set_cons_succ, List.set_cons_zero]
        refine hL (_, _, _) ⟨by omega, by omega, done ++ [[.str (Ym.v (u)), .int .i64 (u + 1)]], by simp only [List.length_append, List.length_cons, List.length_nil]; omega, ?_, by omega, ZbX.snoc hH trivial⟩ (by simp only []; omega)
        rw [Zai]
        simp only [Zb, ZZ, ZbW, List.append_assoc, List.cons_append, List.nil_append]
      · simp only [decide_eq_false_iff_not, hT] at h4
        refine Tm.ret ⟨done, ?_, by omega, ?_, hH⟩
        · rw [List.drop_eq_nil_of_le (by omega)]
          simp only [Zb, List.append_nil]
        · rw [List.take_of_length_le (by omega)] at hu
          exact hu
  obtain ⟨v, ⟨ys, e1, e2, e3, hH⟩, h2⟩ := key
  exact ⟨v, ⟨ys, e1, e2, e3, fun k hk => hk⟩, h2⟩
set_option maxRecDepth 100000 in
set_option maxHeartbeats 8000000 in
theorem YaE.T {B : Nat} (hB : B ≤ 1099511627776) {c0 : Int} {a1 a2 a3 : List (List D)} {n : Int} (g1 : Zi Yas B a1) (g2 : Zi RS B a2) (g3 : Zi RSI B a3) (h0 : 0 ≤ n) (h1 : n + Zp a1 + Zp a2 + Zp a3 ≤ 4611686018427387904) : Tm Z3 (fun k => YaE.t k c0 (Zb a1) (Zb a2) (Zb a3) n) (fun z => ∃ ys1 ys2 ys3, z.1 = n + Zp a1 + Zp a2 + Zp a3 ∧ z.2.1 = Zb ys1 ∧ z.2.2.1 = Zb ys2 ∧ z.2.2.2 = Zb ys3 ∧ ys1.length = a1.length ∧ ys2.length = a2.length ∧ ys3.length = a3.length ∧ ∀ k, Z3 k → Z3 k) := by
  unfold YaE.t YaE.g
  refine YV.tm (fun i hi => hi) (YV.T hB g1 (by omega) (by omega)) (fun y1 t1 hy => ?_)
  obtain ⟨ys1, et1, el1, en1, hh1⟩ := hy
  simp only [] at et1 en1 hh1
  subst et1 en1
  try refine Tm.guard (by rw [Zw, Zw]; exact el1) ?_
  refine YD.tm (fun i hi => hi) (YD.T hB g2 (by omega) (by omega)) (fun y2 t2 hy => ?_)
  obtain ⟨ys2, et2, el2, en2, hh2⟩ := hy
  simp only [] at et2 en2 hh2
  subst et2 en2
  try refine Tm.guard (by rw [Zw, Zw]; exact el2) ?_
  refine YS.tm (fun i hi => hi) (YS.T hB g3 (by omega) (by omega)) (fun y3 t3 hy => ?_)
  obtain ⟨ys3, et3, el3, en3, hh3⟩ := hy
  simp only [] at et3 en3 hh3
  subst et3 en3
  try refine Tm.guard (by rw [Zw, Zw]; exact el3) ?_
  exact Tm.ret ⟨ys1, ys2, ys3, rfl, rfl, rfl, rfl, el1, el2, el3, fun k hk => hk⟩
set_option maxRecDepth 100000 in
set_option maxHeartbeats 8000000 in
theorem YT.T {B : Nat} (hB : B ≤ 1099511627776) {xs : List (List D)} {n : Int} (g : Zi RSS B xs) (h0 : 0 ≤ n) (h1 : n + Zp xs ≤ 4611686018427387904) : Tm Z3 (fun k => YT.t k (Zb xs) n) (fun z => ∃ ys, z.2 = Zb ys ∧ ys.length = xs.length ∧ z.1 = n + Zp xs ∧ ∀ k, Z3 k → Z3 k) := by
  have hb : big = 2 ^ 64 := rfl
  have hl := g.1
  have key : Tm Z3 (fun k => YT.t k (Zb xs) n) (fun z => ∃ ys, z.2 = Zb ys ∧ ys.length = xs.length ∧ z.1 = n + Zp xs ∧ ZbX (fun _ _ _ => True) n ys z.1) := by
    unfold YT.t YT.g
    refine Tm.loop (okk := Z3) (p := fun k => k) (fun i hi => hi) (b := fun k => YT.l0 k (fun z0 z1 => some (z0, z1))) (fun v => match v with | (u, i, tab) => ((xs.length : Int) - i).toNat) (fun v => match v with | (u, i, tab) => 0 ≤ i ∧ i ≤ xs.length ∧ ∃ done : List (List D), done.length = i.toNat ∧ tab = Zb done ++ Zb (xs.drop i.toNat) ∧ u = n + Zp (xs.take i.toNat) ∧ ZbX (fun _ _ _ => True) n done u) ?_ ?_ ?_
    · rintro ⟨u, i, tab⟩ hI
      simp only [] at hI ⊢
      omega
    · exact ⟨by omega, by omega, [], rfl, by simp [Zb], by simp [Zp], .nil⟩
    · rintro ⟨u, i, tab⟩ hI L hL
      simp only [] at hI
      obtain ⟨i0, i1, done, hd, rfl, hu, hH⟩ := hI
      have hA : (Zb done).length = i.toNat := by rw [Zw, hd]
      have hT : (Zb done ++ Zb (xs.drop i.toNat)).length = xs.length := by rw [List.length_append, hA, Zw, List.length_drop]; omega
      simp only [YT.l0]
      refine Tm.ite (fun h4 => ?_) (fun h4 => ?_)
      · simp only [decide_eq_true_eq, hT] at h4
        have hx := gR_at i0 h4
        obtain ⟨c0, c1, e, k0, k1, _⟩ := (g.2 _ (gR_mem i0 h4)).open
        rw [e] at hx
        have hdr := drop_at i0 hx
        have hw := wt_take i0 hx
        simp only [ZbG, wtD] at hw
        have hs := wt_split xs (i + 1).toNat
        rw [hdr] at hT ⊢
        simp only [Zb, ZZ, ZbW] at hT ⊢
        have hT2 := hT
        simp only [List.length_append, List.length_cons] at hT2
        try simp (disch := omega) only [Zj]
        refine Ym.tm (fun i hi => hi.1) (Tm.at (ok := Z3) (v := Ym.v _) (fun k hk => Ym.tv (by omega) hk)) (fun y hy => ?_)
        subst hy
        refine Tm.guard (by first | decide | (simp only [List.length_modify, List.length_append, List.length_cons]; omega)) ?_
        refine Tm.guard (by first | decide | (simp only [List.length_modify, List.length_append, List.length_cons]; omega)) ?_
        try simp (disch := omega) only [Zj]
        refine Ym.tm (fun i hi => hi.1) (Tm.at (ok := Z3) (v := Ym.v _) (fun k hk => Ym.tv (by omega) hk)) (fun y hy => ?_)
        subst hy
        refine Tm.guard (by first | decide | (simp only [List.length_modify, List.length_append, List.length_cons]; omega)) ?_
        refine Tm.guard (by first | decide | (simp only [List.length_modify, List.length_append, List.length_cons]; omega)) ?_
        try simp (disch := omega) only [Zj]
        try simp only [Zaf hA, Zq, List.take_zero, List.take_succ_cons, List.drop_succ_cons, List.drop_zero, List.nil_append, List.cons_append, List.length_cons, List.length_nil, Nat.zero_add, Nat.reduceAdd, List.set_cons_succ, List.set_cons_zero]
        refine hL (_, _, _) ⟨by omega, by omega, done ++ [[.str (Ym.v (u)), .str (Ym.v (u + 1))]], by simp only [List.length_append, List.length_cons, List.length_nil]; omega, ?_, by omega, ZbX.snoc hH trivial⟩ (by simp only []; omega)
        rw [Zai]
        simp only [Zb, ZZ, ZbW, List.append_assoc, List.cons_append, List.nil_append]
      · simp only [decide_eq_false_iff_not, hT] at h4
        refine Tm.ret ⟨done, ?_, by omega, ?_, hH⟩
        · rw [List.drop_eq_nil_of_le (by omega)]
          simp only [Zb, List.append_nil]
        · rw [List.take_of_length_le (by omega)] at hu
          exact hu
  obtain ⟨v, ⟨ys, e1, e2, e3, hH⟩, h2⟩ := key
  exact ⟨v, ⟨ys, e1, e2, e3, fun k hk => hk⟩, h2⟩
set_option maxRecDepth 100000 in
set_option maxHeartbeats 8000000 in
theorem YR.T {B : Nat} (hB : B ≤ 1099511627776) {xs : List (List D)} {n : Int} (g : Zi Yal B xs) (h0 : 0 ≤ n) (h1 : n + Zp xs ≤ 4611686018427387904) : Tm Z3 (fun k => YR.t k (Zb xs) n) (fun z => ∃ ys, z.2 = Zb ys ∧ ys.length = xs.length ∧ z.1 = n + Zp xs ∧ ∀ k, Z3 k → Z3 k) := by
  have hb : big = 2 ^ 64 := rfl
  have hl := g.1
  have key : Tm Z3 (fun k => YR.t k (Zb xs) n) (fun z => ∃ ys, z.2 = Zb ys ∧ ys.length = xs.length ∧ z.1 = n + Zp xs ∧ ZbX (fun _ _ _ => True) n ys z.1) := by
    unfold YR.t YR.g
    refine Tm.loop (okk := Z3) (p := fun k => k) (fun i hi => hi) (b := fun k => YR.l0 k (fun z0 z1 => some (z0, z1))) (fun v => match v with | (u, i, tab) => ((xs.length : Int) - i).toNat) (fun v => match v with | (u, i, tab) => 0 ≤ i ∧ i ≤ xs.length ∧ ∃ done : List (List D), done.length = i.toNat ∧ tab = Zb done ++ Zb (xs.drop i.toNat) ∧ u = n + Zp (xs.take i.toNat) ∧ ZbX (fun _ _ _ => True) n done u) ?_ ?_ ?_
    · rintro ⟨u, i, tab⟩ hI
      simp only [] at hI ⊢
      omega
    · exact ⟨by omega, by omega, [], rfl, by simp [Zb], by simp [Zp], .nil⟩
    · rintro ⟨u, i, tab⟩ hI L hL
      simp only [] at hI
      obtain ⟨i0, i1, done, hd, rfl, hu, hH⟩ := hI
      have hA : (Zb done).length = i.toNat := by rw [Zw, hd]
      have hT : (Zb done ++ Zb (xs.drop i.toNat)).length = xs.length := by rw [List.length_append, hA, Zw, List.length_drop]; omega
      simp only [YR.l0]
      refine Tm.ite (fun h4 => ?_) (fun h4 => ?_)
      · simp only [decide_eq_true_eq, hT] at h4
        have hx := gR_at i0 h4
        obtain ⟨c0, c1, c2, c3, e, k0, k1, k2, k3, _⟩ := (g.2 _ (gR_mem i0 h4)).open
        rw [e] at hx
        have hdr := drop_at i0 hx
        have hw := wt_take i0 hx
        simp only [ZbG, wtD] at hw
        have hs := wt_split xs (i + 1).toNat
        rw [hdr] at hT ⊢
        simp only [Zb, ZZ, ZbW] at hT ⊢
        have hT2 := hT
        simp only [List.length_append, List.length_cons] at hT2
        try simp (disch := omega) only [Zj]
        refine Ym.tm (fun i hi => hi.1) (Tm.at (ok := Z3) (v := Ym.v _) (fun k hk => Ym.tv (by omega) hk)) (fun y hy => ?_)
        subst hy
        refine Tm.guard (by first | decide | (simp only [List.length_modify, List.length_append, List.length_cons]; omega)) ?_
        refine Tm.guard (by first | decide | (simp only [List.length_modify, List.length_append, List.length_cons]; omega)) ?_
        refine Tm.guard (by first | decide | (simp only [List.length_modify, List.length_append, List.length_cons]; omega)) ?_
        try simp only [Zaf hA, ZaV hA, Zq, List.take_zero, List.take_succ_cons, List.drop_succ_cons, List.drop_zero, List.nil_append, List.cons_append, List.length_cons, List.length_nil, Nat.zero_add, Nat.reduceAdd, List.set_cons_succ, List.set_cons_zero]
        refine Tm.uncons ?_
        refine Tm.cOwn ?_
        try simp (disch := omega) only [Zj]
        refine YT.tm (fun i hi => hi.1) (YT.T hB k1 (by omega) (by omega)) (fun y1 t1 hy => ?_)
        obtain ⟨ys1, et1, el1, en1, hh1⟩ := hy
        simp only [] at et1 en1 hh1
        subst et1 en1
        refine Tm.guard (by first | decide | (simp only [List.length_modify, List.length_append, List.length_cons]; omega)) ?_
        try simp only [Zaf hA, ZaV hA, Zq, List.take_zero, List.take_succ_cons, List.drop_succ_cons, List.drop_zero, List.nil_append, List.cons_append, List.length_cons, List.length_nil, Nat.zero_add, Nat.reduceAdd, List.set_cons_succ, List.set_cons_zero]
        refine Tm.uncons ?_
        refine Tm.cOwn ?_
        try simp (disch := omega) only [Zj]
        refine YD.tm (fun i hi => hi.1) (YD.T hB k2 (by omega) (by omega)) (fun y2 t2 hy => ?_)
        obtain ⟨ys2, et2, el2, en2, hh2⟩ := hy
        simp only [] at et2 en2 hh2
        subst et2 en2
        refine Tm.guard (by first | decide | (simp only [List.length_modify, List.length_append, List.length_cons]; omega)) ?_
        refine Tm.guard (by first | decide | (simp only [List.length_modify, List.length_append, List.length_cons]; omega)) ?_
        try simp (disch := omega) only [Zj]
        try simp only [Zaf hA, Zq, List.take_zero, List.take_succ_cons, List.drop_succ_cons, List.drop_zero, List.nil_append, List.cons_append, List.length_cons, List.length_nil, Nat.zero_add, Nat.reduceAdd, List.set_cons_succ, List.set_cons_zero]
        refine hL (_, _, _) ⟨by omega, by omega, done ++ [[.str (Ym.v (u)), .sl ys1, .sl ys2, .int .i64 (u + 1 + (Zp c1 : Int) + (Zp c2 : Int))]], by simp only [List.length_append, List.length_cons, List.length_nil]; omega, ?_, by omega, ZbX.snoc hH trivial⟩ (by simp only []; omega)
        rw [Zai]
        simp only [Zb, ZZ, ZbW, List.append_assoc, List.cons_append, List.nil_append]
      · simp only [decide_eq_false_iff_not, hT] at h4
        refine Tm.ret ⟨done, ?_, by omega, ?_, hH⟩
        · rw [List.drop_eq_nil_of_le (by omega)]
          simp only [Zb, List.append_nil]
        · rw [List.take_of_length_le (by omega)] at hu
          exact hu
  obtain ⟨v, ⟨ys, e1, e2, e3, hH⟩, h2⟩ := key
  exact ⟨v, ⟨ys, e1, e2, e3, fun k hk => hk⟩, h2⟩
theorem YaH.T {aD : Int} {aC aE aG a1 a2 : List (List D)} (ga0_0 : (Lit.int .i64 aD).wf = true) (ga0_1 : Zi Yas maxLen aC) (ga0_2 : Zi RS maxLen aE) (ga0_3 : Zi RSI maxLen aG) (ga1 : Zi Yal maxLen a1) (ga2 : Zi RI maxLen a2) : Tm (ZF 1) (fun k => YaH.t k aD aC aE aG a1 a2) (fun r => r = true) := by
  unfold YaH.t YaH.g
  have hm := Zy
  have hlim : lim = 1048576 := rfl
  refine Tm.ite (fun h1 => ?_) (fun h1 => ?_)
  · try simp only [bz0, bz1, bz2, bz3, bz4, bz5, bz6, bz7, bz8, bz9, bza] at h1
    exact Tm.ret (by first | rfl | (exfalso; omega) | (exfalso; simp [Zu] at *))
  · try simp only [bz0, bz1, bz2, bz3, bz4, bz5, bz6, bz7, bz8, bz9, bza] at h1
    refine YaS.tm (fun i hi => up0 hi) (YaS.T (by first | assumption | omega) (by first | assumption | omega) (by first | assumption | omega) (by first | assumption | omega) (by first | assumption | omega)) (fun y3 hy2 => ?_)
    rcases hy2 with hy2 | ⟨p8, p9, q4, q5, q6, q7, _⟩
    · exact Tm.ite (fun _ => Tm.ret (by rfl)) (fun h => by simp at h; omega)
    refine Tm.ite (fun h10 => ?_) (fun h10 => ?_)
    · try simp only [bz0, bz1, bz2, bz3, bz4, bz5, bz6, bz7, bz8, bz9, bza] at h10
      exact Tm.ret (by first | rfl | (exfalso; omega) | (exfalso; simp [Zu] at *))
    · try simp only [bz0, bz1, bz2, bz3, bz4, bz5, bz6, bz7, bz8, bz9, bza] at h10
      refine YX.tm (fun i hi => up0 hi) (YX.T (by first | assumption | omega) (by first | assumption | omega) (by first | assumption | omega)) (fun y12 hy11 => ?_)
      rcases hy11 with hy11 | ⟨p15, p16, q13, q14, _⟩
      · exact Tm.ite (fun _ => Tm.ret (by rfl)) (fun h => by simp at h; omega)
      refine Tm.ite (fun h17 => ?_) (fun h17 => ?_)
      · try simp only [bz0, bz1, bz2, bz3, bz4, bz5, bz6, bz7, bz8, bz9, bza] at h17
        exact Tm.ret (by first | rfl | (exfalso; omega) | (exfalso; simp [Zu] at *))
      · try simp only [bz0, bz1, bz2, bz3, bz4, bz5, bz6, bz7, bz8, bz9, bza] at h17
        refine Yat.tm (fun i hi => up0 hi) (Yat.T (by first | assumption | omega) (by first | assumption | omega) (by first | assumption | omega)) (fun y19 y20 y21 y22 hy18 => ?_)
        try simp only [] at hy18
        obtain ⟨rfl, rfl, rfl, rfl, _⟩ := hy18
        try simp only [ZO]
        refine YL.tm (fun i hi => up0 hi) (YL.T (by first | assumption | omega)) (fun y24 hy23 => ?_)
        try simp only [] at hy23
        obtain ⟨rfl, _⟩ := hy23
        try simp only [ZO]
        have ga2l : Zi RI lim a2 := ⟨by omega, fun r hr => ga2.2 r hr⟩; have ga2w := RI.wt ga2l.2
        refine Yac.tm (fun i hi => up0 hi) (Yac.T (by first | assumption | omega)) (fun y26 hy25 => ?_)
        try simp only [] at hy25
        obtain ⟨rfl, _⟩ := hy25
        try simp only [ZO]
        refine Y2.tm (fun i hi => up0 hi) (Tm.self (Y2.T (by first | assumption | omega) (by first | assumption | omega) (by first | assumption | omega) (by first | assumption | omega) (by first | assumption | omega) (by first | assumption | omega) (by first | assumption | omega) (by first | assumption | omega))) (fun y28 hy27 => ?_)
        have hf29 := hy27.1
        try simp only [] at hf29
        obtain ⟨q30, q31, _⟩ := hf29
        refine Yat.tm (fun i hi => up0 hi) (Yat.T (by first | assumption | omega) (by first | assumption | omega) (by first | assumption | omega)) (fun y33 y34 y35 y36 hy32 => ?_)
        try simp only [] at hy32
        obtain ⟨rfl, rfl, rfl, rfl, _⟩ := hy32
        try simp only [ZO]
        refine YL.tm (fun i hi => up0 hi) (YL.T (by first | assumption | omega)) (fun y38 hy37 => ?_)
        try simp only [] at hy37
        obtain ⟨rfl, _⟩ := hy37
        try simp only [ZO]
        refine Yac.tm (fun i hi => up0 hi) (Yac.T (by first | assumption | omega)) (fun y40 hy39 => ?_)
        try simp only [] at hy39
        obtain ⟨rfl, _⟩ := hy39
        try simp only [ZO]
        refine Y3.tm (fun i hi => hi) (Tm.at (ok := (ZF 1)) (v := Zb (C.immRows y28)) (fun k hk => Y3.same (by first | assumption | omega) (by first | assumption | omega) (by first | assumption | omega) (by first | assumption | omega) (by first | assumption | omega) (by first | assumption | omega) (by first | assumption | omega) (by first | assumption | omega) hk ((hy27.2) k (up0 hk)))) (fun y42 hy41 => ?_)
        subst y42
        try simp only [ZO]
        refine Yad.tm (fun i hi => up0 hi) (Yad.T (by first | assumption | omega) (by first | assumption | omega)) (fun y44 hy43 => ?_)
        subst hy43
        refine Tm.ite (fun h45 => ?_) (fun h45 => ?_)
        · try simp only [bz0, bz1, bz2, bz3, bz4, bz5, bz6, bz7, bz8, bz9, bza] at h45
          exact Tm.ret (by first | rfl | (exfalso; omega) | (exfalso; simp [Zu] at *))
        · try simp only [bz0, bz1, bz2, bz3, bz4, bz5, bz6, bz7, bz8, bz9, bza] at h45
          refine Yat.tm (fun i hi => up0 hi) (Yat.T (by first | assumption | omega) (by first | assumption | omega) (by first | assumption | omega)) (fun y47 y48 y49 y50 hy46 => ?_)
          try simp only [] at hy46
          obtain ⟨rfl, rfl, rfl, rfl, _⟩ := hy46
          try simp only [ZO]
          refine YaU.tm (fun i hi => up0 hi) (YaU.T (by first | assumption | omega) (by first | assumption | omega) (by first | assumption | omega) (by first | assumption | omega)) (fun y52 hy51 => ?_)
          subst hy51
          refine Tm.ite (fun h53 => ?_) (fun h53 => ?_)
          · try simp only [bz0, bz1, bz2, bz3, bz4, bz5, bz6, bz7, bz8, bz9, bza] at h53
            exact Tm.ret (by first | rfl | (exfalso; omega) | (exfalso; simp [Zu] at *))
          · try simp only [bz0, bz1, bz2, bz3, bz4, bz5, bz6, bz7, bz8, bz9, bza] at h53
            refine YL.tm (fun i hi => up0 hi) (YL.T (by first | assumption | omega)) (fun y55 hy54 => ?_)
            try simp only [] at hy54
            obtain ⟨rfl, _⟩ := hy54
            try simp only [ZO]
            refine YZ.tm (fun i hi => up0 hi) (YZ.T (by first | assumption | omega) (by first | assumption | omega)) (fun y57 hy56 => ?_)
            subst hy56
            refine Tm.ite (fun h58 => ?_) (fun h58 => ?_)
            · try simp only [bz0, bz1, bz2, bz3, bz4, bz5, bz6, bz7, bz8, bz9, bza] at h58
              exact Tm.ret (by first | rfl | (exfalso; omega) | (exfalso; simp [Zu] at *))
            · try simp only [bz0, bz1, bz2, bz3, bz4, bz5, bz6, bz7, bz8, bz9, bza] at h58
              refine Yac.tm (fun i hi => up0 hi) (Yac.T (by first | assumption | omega)) (fun y60 hy59 => ?_)
              try simp only [] at hy59
              obtain ⟨rfl, _⟩ := hy59
              try simp only [ZO]
              refine Yad.tm (fun i hi => up0 hi) (Yad.T (by first | assumption | omega) (by first | assumption | omega)) (fun y62 hy61 => ?_)
              subst hy61
              refine Tm.ite (fun h63 => ?_) (fun h63 => ?_)
              · try simp only [bz0, bz1, bz2, bz3, bz4, bz5, bz6, bz7, bz8, bz9, bza] at h63
                exact Tm.ret (by first | rfl | (exfalso; omega) | (exfalso; simp [Zu] at *))
              · try simp only [bz0, bz1, bz2, bz3, bz4, bz5, bz6, bz7, bz8, bz9, bza] at h63
                refine YaE.tm (fun i hi => up0 hi) (YaE.T (B := 2097152) (by decide) (by first | assumption | exact Yas.wide (by assumption)) (by first | assumption | exact RS.wide (by assumption)) (by first | assumption | exact RSI.wide (by assumption)) (by omega) (by omega)) (fun y65 y66 y67 y68 hy64 => ?_)
                obtain ⟨ys70, ys71, ys72, en79, et73, et74, et75, el76, el77, el78, hh69⟩ := hy64
                simp only [] at en79 et73 et74 et75 hh69
                subst en79 et73 et74 et75
                refine Tm.guard (by first | omega | (simp only [Zw]; assumption) | (simp only [lim, Zy, ZN] at *; omega) | (simp only [lim, ZN] at *; refine ⟨?_, ?_, ?_, ?_⟩ <;> omega)) ?_
                refine Tm.guard (by first | omega | (simp only [Zw]; assumption) | (simp only [lim, Zy, ZN] at *; omega) | (simp only [lim, ZN] at *; refine ⟨?_, ?_, ?_, ?_⟩ <;> omega)) ?_
                refine Tm.guard (by first | omega | (simp only [Zw]; assumption) | (simp only [lim, Zy, ZN] at *; omega) | (simp only [lim, ZN] at *; refine ⟨?_, ?_, ?_, ?_⟩ <;> omega)) ?_
                refine YR.tm (fun i hi => up0 hi) (YR.T (B := 2097152) (by decide) (by first | assumption | exact Yal.wide (by assumption)) (by omega) (by omega)) (fun y81 y82 hy80 => ?_)
                obtain ⟨ys84, et85, el86, en87, hh83⟩ := hy80
                simp only [] at en87 et85 hh83
                subst en87 et85
                refine Tm.guard (by first | omega | (simp only [Zw]; assumption) | (simp only [lim, Zy, ZN] at *; omega) | (simp only [lim, ZN] at *; refine ⟨?_, ?_, ?_, ?_⟩ <;> omega)) ?_
                refine YY.tm (fun i hi => up0 hi) (YY.T (B := 2097152) (by decide) (by first | assumption | exact RI.wide (by assumption)) (by omega) (by omega)) (fun y89 y90 hy88 => ?_)
                obtain ⟨ys92, et93, el94, en95, hh91⟩ := hy88
                simp only [] at en95 et93 hh91
                subst en95 et93
                refine Tm.guard (by first | omega | (simp only [Zw]; assumption) | (simp only [lim, Zy, ZN] at *; omega) | (simp only [lim, ZN] at *; refine ⟨?_, ?_, ?_, ?_⟩ <;> omega)) ?_
                refine Tm.ite (fun h96 => ?_) (fun h96 => ?_)
                · try simp only [bz0, bz1, bz2, bz3, bz4, bz5, bz6, bz7, bz8, bz9, bza] at h96
                  exact Tm.ret (by first | rfl | (exfalso; omega) | (exfalso; simp [Zu] at *))
                · try simp only [bz0, bz1, bz2, bz3, bz4, bz5, bz6, bz7, bz8, bz9, bza] at h96
                  refine Yad.tm (fun i hi => up0 hi) (Yad.T (by first | assumption | omega) (by first | assumption | omega)) (fun y98 hy97 => ?_)
                  subst hy97
                  refine Tm.ite (fun h99 => ?_) (fun h99 => ?_)
                  · try simp only [bz0, bz1, bz2, bz3, bz4, bz5, bz6, bz7, bz8, bz9, bza] at h99
                    exact Tm.ret (by first | rfl | (exfalso; omega) | (exfalso; simp [Zu] at *))
                  · try simp only [bz0, bz1, bz2, bz3, bz4, bz5, bz6, bz7, bz8, bz9, bza] at h99
                    refine YY.tm (fun i hi => up0 hi) (YY.T (B := 2097152) (by decide) (by first | assumption | exact RI.wide (by assumption)) (by omega) (by omega)) (fun y101 y102 hy100 => ?_)
                    obtain ⟨ys104, et105, el106, en107, hh103⟩ := hy100
                    simp only [] at en107 et105 hh103
                    subst en107 et105
                    refine Tm.guard (by first | omega | (simp only [Zw]; assumption) | (simp only [lim, Zy, ZN] at *; omega) | (simp only [lim, ZN] at *; refine ⟨?_, ?_, ?_, ?_⟩ <;> omega)) ?_
                    try simp only [ZO]
                    refine YU.tm (fun i hi => up0 hi) (Tm.at (ok := Z3) (fun k hk => hh103 k hk)) (fun y109 hy108 => ?_)
                    subst hy108
                    refine Tm.ite (fun h110 => ?_) (fun h110 => ?_)
                    · try simp only [bz0, bz1, bz2, bz3, bz4, bz5, bz6, bz7, bz8, bz9, bza] at h110
                      exact Tm.ret (by first | rfl | (exfalso; omega) | (exfalso; simp [Zu] at *))
                    · try simp only [bz0, bz1, bz2, bz3, bz4, bz5, bz6, bz7, bz8, bz9, bza] at h110
                      refine Tm.ite (fun h111 => ?_) (fun h111 => ?_)
                      · try simp only [bz0, bz1, bz2, bz3, bz4, bz5, bz6, bz7, bz8, bz9, bza] at h111
                        exact Tm.ret (by first | rfl | (exfalso; omega) | (exfalso; simp [Zu] at *))
                      · try simp only [bz0, bz1, bz2, bz3, bz4, bz5, bz6, bz7, bz8, bz9, bza] at h111
                        refine Yat.tm (fun i hi => up0 hi) (Yat.T (by first | assumption | omega) (by first | assumption | omega) (by first | assumption | omega)) (fun y113 y114 y115 y116 hy112 => ?_)
                        try simp only [] at hy112
                        obtain ⟨rfl, rfl, rfl, rfl, _⟩ := hy112
                        try simp only [ZO]
                        refine YL.tm (fun i hi => up0 hi) (YL.T (by first | assumption | omega)) (fun y118 hy117 => ?_)
                        try simp only [] at hy117
                        obtain ⟨rfl, _⟩ := hy117
                        try simp only [ZO]
                        refine Yac.tm (fun i hi => up0 hi) (Yac.T (by first | assumption | omega)) (fun y120 hy119 => ?_)
                        try simp only [] at hy119
                        obtain ⟨rfl, _⟩ := hy119
                        try simp only [ZO]
                        refine Y3.tm (fun i hi => hi) (Tm.at (ok := (ZF 1)) (v := Zb (C.immRows y28)) (fun k hk => Y3.same (by first | assumption | omega) (by first | assumption | omega) (by first | assumption | omega) (by first | assumption | omega) (by first | assumption | omega) (by first | assumption | omega) (by first | assumption | omega) (by first | assumption | omega) hk ((hy27.2) k (up0 hk)))) (fun y122 hy121 => ?_)
                        subst y122
                        try simp only [ZO]
                        refine Yad.tm (fun i hi => up0 hi) (Yad.T (by first | assumption | omega) (by first | assumption | omega)) (fun y124 hy123 => ?_)
                        subst hy123
                        refine Tm.ite (fun h125 => ?_) (fun h125 => ?_)
                        · try simp only [bz0, bz1, bz2, bz3, bz4, bz5, bz6, bz7, bz8, bz9, bza] at h125
                          exact Tm.ret (by first | rfl | (exfalso; omega) | (exfalso; simp [Zu] at *))
                        · try simp only [bz0, bz1, bz2, bz3, bz4, bz5, bz6, bz7, bz8, bz9, bza] at h125
                          try simp only [ZO]
                          refine YU.tm (fun i hi => up0 hi) (Tm.at (ok := Z3) (fun k hk => hh103 k hk)) (fun y127 hy126 => ?_)
                          subst hy126
                          refine Tm.ite (fun h128 => ?_) (fun h128 => ?_)
                          · try simp only [bz0, bz1, bz2, bz3, bz4, bz5, bz6, bz7, bz8, bz9, bza] at h128
                            exact Tm.ret (by first | rfl | (exfalso; omega) | (exfalso; simp [Zu] at *))
                          · try simp only [bz0, bz1, bz2, bz3, bz4, bz5, bz6, bz7, bz8, bz9, bza] at h128
                            refine Tm.ite (fun h129 => ?_) (fun h129 => ?_)
                            · try simp only [bz0, bz1, bz2, bz3, bz4, bz5, bz6, bz7, bz8, bz9, bza] at h129
                              exact Tm.ret (by first | rfl | (exfalso; omega) | (exfalso; simp [Zu] at *))
                            · try simp only [bz0, bz1, bz2, bz3, bz4, bz5, bz6, bz7, bz8, bz9, bza] at h129
                              exact Tm.ret (by first | rfl | (exfalso; omega) | (exfalso; simp [Zu] at *))
open Go.ChangeShapes Go.WideShapes Go.ChangeAt Go.RowKit
open Go.ChangeMaps (open_string shut_string)
theorem own : ownKnob Tryz.prog.godebug = none := by kernel_rfl
theorem laidOut : laidOutB Tryz.prog = true := by kernel_rfl
theorem goodS_9 {r : List D} (h : RowS Tryz.prog maxLen 9 r) : RS maxLen r := by
  have hh := h.open (show ZC Tryz.prog 6 9 = [9] from by kernel_rfl)
  obtain ⟨d0, l0, rfl, g0, hh0⟩ := goodR_cons hh
  obtain ⟨c0, rfl, k0⟩ := good_str (by kernel_rfl) g0
  obtain rfl := goodR_nil hh0
  exact ⟨c0, rfl, k0, trivial⟩
theorem goodISLSE_175 {r : List D} (h : RowS Tryz.prog maxLen 175 r) : Yas maxLen r := by
  have hh := h.open (show ZC Tryz.prog 6 175 = [3, 9, 23] from by kernel_rfl)
  obtain ⟨d0, l0, rfl, g0, hh0⟩ := goodR_cons hh
  obtain ⟨c0, rfl, k0⟩ := good_int (k := .i64) (by kernel_rfl) g0
  obtain ⟨d1, l1, rfl, g1, hh1⟩ := goodR_cons hh0
  obtain ⟨c1, rfl, k1⟩ := good_str (by kernel_rfl) g1
  obtain ⟨d2, l2, rfl, g2, hh2⟩ := goodR_cons hh1
  obtain ⟨c2, rfl, k2, m2⟩ := good_sl (e := 9) (by kernel_rfl) g2
  obtain rfl := goodR_nil hh2
  exact ⟨c0, c1, c2, rfl, k0, k1, ⟨k2, fun r hr => goodS_9 (m2 r hr)⟩, trivial⟩
theorem goodSI_178 {r : List D} (h : RowS Tryz.prog maxLen 178 r) : RSI maxLen r := by
  have hh := h.open (show ZC Tryz.prog 6 178 = [9, 3] from by kernel_rfl)
  obtain ⟨d0, l0, rfl, g0, hh0⟩ := goodR_cons hh
  obtain ⟨c0, rfl, k0⟩ := good_str (by kernel_rfl) g0
  obtain ⟨d1, l1, rfl, g1, hh1⟩ := goodR_cons hh0
  obtain ⟨c1, rfl, k1⟩ := good_int (k := .i64) (by kernel_rfl) g1
  obtain rfl := goodR_nil hh1
  exact ⟨c0, c1, rfl, k0, k1, trivial⟩
theorem goodSS_243 {r : List D} (h : RowS Tryz.prog maxLen 243 r) : RSS maxLen r := by
  have hh := h.open (show ZC Tryz.prog 6 243 = [9, 9] from by kernel_rfl)
  obtain ⟨d0, l0, rfl, g0, hh0⟩ := goodR_cons hh
  obtain ⟨c0, rfl, k0⟩ := good_str (by kernel_rfl) g0
  obtain ⟨d1, l1, rfl, g1, hh1⟩ := goodR_cons hh0
  obtain ⟨c1, rfl, k1⟩ := good_str (by kernel_rfl) g1
  obtain rfl := goodR_nil hh1
  exact ⟨c0, c1, rfl, k0, k1, trivial⟩
theorem goodSLSSELSEI_113 {r : List D} (h : RowS Tryz.prog maxLen 113 r) : Yal maxLen r := by
  have hh := h.open (show ZC Tryz.prog 6 113 = [9, 111, 23, 3] from by kernel_rfl)
  obtain ⟨d0, l0, rfl, g0, hh0⟩ := goodR_cons hh
  obtain ⟨c0, rfl, k0⟩ := good_str (by kernel_rfl) g0
  obtain ⟨d1, l1, rfl, g1, hh1⟩ := goodR_cons hh0
  obtain ⟨c1, rfl, k1, m1⟩ := good_sl (e := 243) (by kernel_rfl) g1
  obtain ⟨d2, l2, rfl, g2, hh2⟩ := goodR_cons hh1
  obtain ⟨c2, rfl, k2, m2⟩ := good_sl (e := 9) (by kernel_rfl) g2
  obtain ⟨d3, l3, rfl, g3, hh3⟩ := goodR_cons hh2
  obtain ⟨c3, rfl, k3⟩ := good_int (k := .i64) (by kernel_rfl) g3
  obtain rfl := goodR_nil hh3
  exact ⟨c0, c1, c2, c3, rfl, k0, ⟨k1, fun r hr => goodSS_243 (m1 r hr)⟩, ⟨k2, fun r hr => goodS_9 (m2 r hr)⟩, k3, trivial⟩
theorem goodI_3 {r : List D} (h : RowS Tryz.prog maxLen 3 r) : RI maxLen r := by
  have hh := h.open (show ZC Tryz.prog 6 3 = [3] from by kernel_rfl)
  obtain ⟨d0, l0, rfl, g0, hh0⟩ := goodR_cons hh
  obtain ⟨c0, rfl, k0⟩ := good_int (k := .i64) (by kernel_rfl) g0
  obtain rfl := goodR_nil hh0
  exact ⟨c0, rfl, k0, trivial⟩
theorem types : lawTys Tryz.prog [175, 9, 178, 113, 243, 3] = true := by kernel_rfl
set_option maxRecDepth 100000 in
theorem lifted (os : Os) (started : os.Started) (H : Type) (enc : TypeId × Value → H) :
    ReturnsInHanded {} Tryz.checked os 3 .any (Rows.fnExactSharesSpec.pre6 enc Tryz.prog Tryz.f3 Rows.fnExactSharesRow.domain false) (Rows.fnExactSharesSpec.post enc Tryz.prog Tryz.f3 false true false false) := by
  refine returnsInHanded_of_change_sized (C := Tryz.checked) own started (by kernel_rfl) Tryz.func3
    (ChangeSpec.witness6 (enc := enc) (C := Tryz.checked) false ⟨#[], #[.agg #[.int .i64 0, .slice none 0 0, .slice none 0 0, .slice none 0 0], .slice none 0 0, .slice none 0 0], []⟩ 8 (by kernel_rfl) (by kernel_rfl) (by kernel_rfl) (by kernel_rfl)) ?_
  intro W base args ds gs before hval0 hW hcnd hsz0 _
  have hval : ∀ (j : Nat) t v, Tryz.f3.params[j]? = some t → args[j]? = some v → Value.okWide Tryz.prog W .any base t v := hval0
  have hW' := hW
  obtain ⟨p, q, hA0, hV, rfl, hfz, hnd⟩ := hW
  have hA : DataW.TrodAll enc Tryz.prog W 0 (fun _ => true) true Tryz.f3.params.toList args.toList ds p := hA0
  have hpar : Tryz.f3.params = #[26, 27, 28] := by kernel_rfl
  rw [hpar] at hA hval
  obtain ⟨v0, vs0, d0, ds0, p0, q0, hargs, rfl, rfl, h0, r0⟩ := trodAll_cons hA
  obtain ⟨v1, vs1, d1, ds1, p1, q1, rfl, rfl, rfl, h1, r1⟩ := trodAll_cons r0
  obtain ⟨v2, vs2, d2, ds2, p2, q2, rfl, rfl, rfl, h2, r2⟩ := trodAll_cons r1
  obtain ⟨rfl, rfl, rfl⟩ := trodAll_nil r2
  obtain rfl : args = #[v0, v1, v2] := by cases args; simp_all
  obtain ⟨rfl, rfl⟩ := trodVars_none hV
  have k0 := h0
  have lt0 : ∀ x ∈ p0, x.block < W.heap.size := by obtain ⟨m, hm⟩ := k0; exact DataW.trod_lt m _ _ _ hm
  obtain ⟨cs0, xs0, rfl, hl0, hc0, hg0⟩ := open_agg types (by kernel_rfl) (by kernel_rfl) (hval 0 26 v0 rfl rfl) h0
  have hj0 := hg0.open (show ZC Tryz.prog 6 26 = [3, 22, 23, 24] from by kernel_rfl)
  obtain ⟨ea0_0, la0_0, rfl, wa0_0, hj0_0⟩ := goodR_cons hj0
  obtain ⟨aD, rfl, ka0_0⟩ := good_int (k := .i64) (by kernel_rfl) wa0_0
  obtain ⟨ea0_1, la0_1, rfl, wa0_1, hj0_1⟩ := goodR_cons hj0_0
  obtain ⟨aC, rfl, ka0_1, ma0_1⟩ := good_sl (e := 175) (by kernel_rfl) wa0_1
  obtain ⟨ea0_2, la0_2, rfl, wa0_2, hj0_2⟩ := goodR_cons hj0_1
  obtain ⟨aE, rfl, ka0_2, ma0_2⟩ := good_sl (e := 9) (by kernel_rfl) wa0_2
  obtain ⟨ea0_3, la0_3, rfl, wa0_3, hj0_3⟩ := goodR_cons hj0_2
  obtain ⟨aG, rfl, ka0_3, ma0_3⟩ := good_sl (e := 178) (by kernel_rfl) wa0_3
  obtain rfl := goodR_nil hj0_3
  have k1 := h1
  have lt1 : ∀ x ∈ p1, x.block < W.heap.size := by obtain ⟨m, hm⟩ := k1; exact DataW.trod_lt m _ _ _ hm
  obtain ⟨sa1, sn1, sc1, rfl⟩ := okWide_slice (e := 113) (by kernel_rfl) (hval 1 27 v1 rfl rfl)
  obtain ⟨ea1, hd1, wa1⟩ := open_cell types (by kernel_rfl) rfl (by kernel_rfl) h1
  obtain ⟨a1, rfl, ka1, ma1⟩ := good_sl (e := 113) (by kernel_rfl) wa1
  have k2 := h2
  have lt2 : ∀ x ∈ p2, x.block < W.heap.size := by obtain ⟨m, hm⟩ := k2; exact DataW.trod_lt m _ _ _ hm
  obtain ⟨sa2, sn2, sc2, rfl⟩ := okWide_slice (e := 3) (by kernel_rfl) (hval 2 28 v2 rfl rfl)
  obtain ⟨ea2, hd2, wa2⟩ := open_cell types (by kernel_rfl) rfl (by kernel_rfl) h2
  obtain ⟨a2, rfl, ka2, ma2⟩ := good_sl (e := 3) (by kernel_rfl) wa2
  clear hA0 hval0 hsz0
  obtain ⟨kb, hkb⟩ : ∃ k, lv 1 ≤ k := ⟨_, Nat.le_refl _⟩
  obtain ⟨z, rfl, hz⟩ := YaH.T ka0_0 ⟨ka0_1, fun r hr => goodISLSE_175 (ma0_1 r hr)⟩ ⟨ka0_2, fun r hr => goodS_9 (ma0_2 r hr)⟩ ⟨ka0_3, fun r hr => goodSI_178 (ma0_3 r hr)⟩ ⟨ka1, fun r hr => goodSLSSELSEI_113 (ma1 r hr)⟩ ⟨ka2, fun r hr => goodI_3 (ma2 r hr)⟩
  refine (law_calls (YaH.ok kb) rfl rfl (by kernel_rfl) (aa := [.agg [.int .i64 aD, .sl aC, .sl aE, .sl aG], .d (.sl a1), .d (.sl a2)]) (vs := [.agg cs0.toArray, .slice sa1 sn1 sc1, .slice sa2 sn2 sc2]) ?_ ⟨(), ?_⟩).mono fun e W' ⟨he, bel⟩ => ?_
  · exact (ZU.cons' ⟨rfl, cs0, rfl, hl0, hc0⟩ (ZU.cons' ⟨rfl, hd1⟩ (ZU.cons' ⟨rfl, hd2⟩ ZU.nil')))
  · exact (ent_run (YaH.e kb) rfl (congrArg some (hz kb hkb)) rfl)
  · subst he
    exact ⟨_, rfl, _, _, _, [], _, [], hW', trodAll_mk1 (shut_bool (by kernel_rfl) _), (trodAll_cons_mk (Below.trod laidOut (by kernel_rfl) (of_decide_eq_true (by kernel_rfl)) k0 bel lt0) (trodAll_cons_mk (Below.trod laidOut (by kernel_rfl) (of_decide_eq_true (by kernel_rfl)) k1 bel lt1) (trodAll_cons_mk (Below.trod laidOut (by kernel_rfl) (of_decide_eq_true (by kernel_rfl)) k2 bel lt2) trodAll_mk0))), rfl, bel.frame _, fun h => by cases h⟩
theorem facts1 : joined1 Tryz.prog 3 Tryz.f3 Rows.fnExactSharesSpec Rows.fnExactSharesRow = true := by kernel_rfl
theorem facts2 : joined2 Tryz.prog 3 Tryz.f3 Rows.fnExactSharesSpec Rows.fnExactSharesRow = true := by kernel_rfl
theorem facts3 : joined3 Tryz.prog 3 Tryz.f3 Rows.fnExactSharesSpec Rows.fnExactSharesRow = true := by kernel_rfl
theorem facts4 : joined4 Tryz.prog 3 Tryz.f3 Rows.fnExactSharesSpec Rows.fnExactSharesRow = true := by kernel_rfl
theorem facts5 : joined5 Tryz.prog 3 Tryz.f3 Rows.fnExactSharesSpec Rows.fnExactSharesRow = true := by kernel_rfl
theorem facts6 : joined6 Tryz.prog 3 Tryz.f3 Rows.fnExactSharesSpec Rows.fnExactSharesRow = true := by kernel_rfl
theorem facts7 : joined7 Tryz.prog 3 Tryz.f3 Rows.fnExactSharesSpec Rows.fnExactSharesRow = true := by kernel_rfl
theorem facts8 : joined8 Tryz.prog 3 Tryz.f3 Rows.fnExactSharesSpec Rows.fnExactSharesRow = true := by kernel_rfl
theorem over : Rows.fnExactSharesRow.holds Tryz.pinned (OpenSpec.ofChange Rows.fnExactSharesSpec) :=
  OpenClaim.holds_of_wide 3 Tryz.f3 rfl rfl rfl rfl rfl rfl rfl ⟨rfl, rfl, rfl, rfl, rfl⟩ rfl rfl rfl rfl rfl (by kernel_rfl) Tryz.func3 (joined_of facts1 facts2 facts3 facts4 facts5 facts6 facts7 facts8)
    (of_decide_eq_true (by kernel_rfl)) (by unfold Func.isWrapper; first | (rw [if_pos (by decide +kernel)]; kernel_rfl) | (rw [if_neg (by decide +kernel)]; exact ⟨rfl, rfl⟩))
    (fun os started H enc _ => lifted os started H enc)
theorem fnExactShares_holds : Rows.FnExactSharesSaid := over
end Go.Proofs.YtppfencdbabmeaaGreat
