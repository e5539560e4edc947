/- Printed, and by hand: the functions that FnExactMove reaches come to their end; the program's answer as the reference's. -/
import Derived.Test.YtppfencdbabmeaaYEMove0
import Derived.KernelRfl
set_option linter.unusedVariables false
set_option linter.unusedSimpArgs false
namespace Go.Proofs.Ytppfencdbabmeaa
open Go Go.T Go.Proofs
set_option maxRecDepth 100000 in
set_option maxHeartbeats 8000000 in
theorem Yz.T {B : Nat} (hB : B ≤ 1099511627776) {xs : List (List D)} {n : Int} (g : Zi Yc B xs) (h0 : 0 ≤ n) (h1 : n + Zp xs ≤ 4611686018427387904) : Tm (ZF 1) (fun k => Yz.t k (Zb xs) n) (fun z => ∃ ys, z.2 = Zb ys ∧ ys.length = xs.length ∧ z.1 = n + Zp xs ∧ ∀ k, (ZF 1) k → Yx.t k ys n = some z.1) := by
  have hb : big = 2 ^ 64 := rfl
  have hl := g.1
  have key : Tm (ZF 1) (fun k => Yz.t k (Zb xs) n) (fun z => ∃ ys, z.2 = Zb ys ∧ ys.length = xs.length ∧ z.1 = n + Zp xs ∧ ZbX (fun u r u' => ∀ k, (ZF 1) k → HStep (fun xs L v => Yx.l0 k xs (fun z0 => some z0) L v) u r u') n ys z.1) := by
    unfold Yz.t Yz.g
    refine Tm.loop (okk := (ZF 1)) (p := fun k => k) (fun i hi => up0 hi) (b := fun k => Yz.l0 k (fun z0 z1 => some (z0, z1))) (fun v => match v with | (u, i, tab) => ((xs.length : Int) - i).toNat) (fun v => match v with | (u, i, tab) => 0 ≤ i ∧ i ≤ xs.length ∧ ∃ done : List (List D), done.length = i.toNat ∧ tab = Zb done ++ Zb (xs.drop i.toNat) ∧ u = n + Zp (xs.take i.toNat) ∧ ZbX (fun u r u' => ∀ k, (ZF 1) k → HStep (fun xs L v => Yx.l0 k xs (fun z0 => some z0) L v) u r u') n done u) ?_ ?_ ?_
    · rintro ⟨u, i, tab⟩ hI
      simp only [] at hI ⊢
      omega
    · exact ⟨by omega, by omega, [], rfl, by simp [Zb], by simp [Zp], .nil⟩
    · rintro ⟨u, i, tab⟩ hI L hL
      simp only [] at hI
      obtain ⟨i0, i1, done, hd, rfl, hu, hH⟩ := hI
      have hA : (Zb done).length = i.toNat := by rw [Zw, hd]
      have hT : (Zb done ++ Zb (xs.drop i.toNat)).length = xs.length := by rw [List.length_append, hA, Zw, List.length_drop]; omega
      simp only [Yz.l0]
      refine Tm.ite (fun h4 => ?_) (fun h4 => ?_)
      · simp only [decide_eq_true_eq, hT] at h4
        have hx := gR_at i0 h4
        obtain ⟨c0, c1, c2, c3, c4, c5, c6, e, k0, k1, k2, k3, k4, k5, k6, _⟩ := (g.2 _ (gR_mem i0 h4)).open
        rw [e] at hx
        have hdr := drop_at i0 hx
        have hw := wt_take i0 hx
        simp only [ZbG, wtD] at hw
        have hs := wt_split xs (i + 1).toNat
        rw [hdr] at hT ⊢
        simp only [Zb, ZZ, ZbW] at hT ⊢
        have hT2 := hT
        simp only [List.length_append, List.length_cons] at hT2
        refine Tm.guard (by first | decide | (simp only [List.length_modify, List.length_append, List.length_cons]; omega)) ?_
        refine Tm.guard (by first | decide | (simp only [List.length_modify, List.length_append, List.length_cons]; omega)) ?_
        refine Tm.guard (by first | decide | (simp only [List.length_modify, List.length_append, List.length_cons]; omega)) ?_
        refine Tm.guard (by first | decide | (simp only [List.length_modify, List.length_append, List.length_cons]; omega)) ?_
        refine Tm.guard (by first | decide | (simp only [List.length_modify, List.length_append, List.length_cons]; omega)) ?_
        refine Tm.guard (by first | decide | (simp only [List.length_modify, List.length_append, List.length_cons]; omega)) ?_
        try simp (disch := omega) only [Zj]
        refine Yg.tm (fun i hi => up0 hi.1) (Tm.at (ok := Z3) (v := Yg.v _) (fun k hk => Yg.tv (by omega) hk)) (fun y hy => ?_)
        subst hy
        refine Tm.guard (by first | decide | (simp only [List.length_modify, List.length_append, List.length_cons]; omega)) ?_
        refine Tm.guard (by first | decide | (simp only [List.length_modify, List.length_append, List.length_cons]; omega)) ?_
        refine Tm.guard (by first | decide | (simp only [List.length_modify, List.length_append, List.length_cons]; omega)) ?_
        refine Tm.guard (by first | decide | (simp only [List.length_modify, List.length_append, List.length_cons]; omega)) ?_
        refine Tm.guard (by first | decide | (simp only [List.length_modify, List.length_append, List.length_cons]; omega)) ?_
        try simp only [Zaf hA, ZaV hA, Zq, List.take_zero, List.take_succ_cons, List.drop_succ_cons, List.drop_zero, List.nil_append, List.cons_append, List.length_cons, List.length_nil, Nat.zero_add, Nat.reduceAdd, List.set_cons_succ, List.set_cons_zero]
        refine Tm.uncons ?_
        refine Tm.cOwn ?_
        try simp (disch := omega) only [Zj]
        refine Yt.tm (fun i hi => up0 hi.1) (Yt.T hB k5 (by omega) (by omega)) (fun y5 t5 hy => ?_)
        obtain ⟨ys5, et5, el5, en5, hh5⟩ := hy
        simp only [] at et5 en5 hh5
        subst et5 en5
        refine Tm.guard (by first | decide | (simp only [List.length_modify, List.length_append, List.length_cons]; omega)) ?_
        try simp only [Zaf hA, ZaV hA, Zq, List.take_zero, List.take_succ_cons, List.drop_succ_cons, List.drop_zero, List.nil_append, List.cons_append, List.length_cons, List.length_nil, Nat.zero_add, Nat.reduceAdd, List.set_cons_succ, List.set_cons_zero]
        refine Tm.uncons ?_
        refine Tm.cOwn ?_
        try simp (disch := omega) only [Zj]
        refine Yh.tm (fun i hi => hi.1) (Yh.T hB k6 (by omega) (by omega)) (fun y6 t6 hy => ?_)
        obtain ⟨ys6, et6, el6, en6, hh6⟩ := hy
        simp only [] at et6 en6 hh6
        subst et6 en6
        try simp (disch := omega) only [Zj]
        try simp only [Zaf hA, Zq, List.take_zero, List.take_succ_cons, List.drop_succ_cons, List.drop_zero, List.nil_append, List.cons_append, List.length_cons, List.length_nil, Nat.zero_add, Nat.reduceAdd, List.set_cons_succ, List.set_cons_zero]
        refine hL (_, _, _) ⟨by omega, by omega, done ++ [[.int .i64 (u), .int .i64 (u + 1), .int .i64 (u + 1 + 1), .str (Yg.v (u + 1 + 1 + 1)), .int .i64 (u + 1 + 1 + 1 + 1), .sl ys5, .sl ys6]], by simp only [List.length_append, List.length_cons, List.length_nil]; omega, ?_, by omega, ZbX.snoc hH (fun k hk => Yx.step (by omega) (by omega) hh5 (by omega) hh6 (by omega) hk)⟩ (by simp only []; omega)
        rw [Zai]
        simp only [Zb, ZZ, ZbW, List.append_assoc, List.cons_append, List.nil_append]
      · simp only [decide_eq_false_iff_not, hT] at h4
        refine Tm.ret ⟨done, ?_, by omega, ?_, hH⟩
        · rw [List.drop_eq_nil_of_le (by omega)]
          simp only [Zb, List.append_nil]
        · rw [List.take_of_length_le (by omega)] at hu
          exact hu
  obtain ⟨v, ⟨ys, e1, e2, e3, hH⟩, h2⟩ := key
  exact ⟨v, ⟨ys, e1, e2, e3, fun k hk => by
    have hk0 : Z3 k := up0 hk
    unfold Yx.t Yx.g
    exact held_run (b := fun xs L v => Yx.l0 k xs (fun z0 => some z0) L v) (by omega) (hH.mono fun _ _ _ h => h k hk) (by omega) (fun L => by simp [Yx.l0, atR, rdQ, Q.ask])⟩, h2⟩
theorem YD.f_of {β : Type} {k a0 a1 z0} (h : YD.t k a0 a1 = some z0) (K : Int → Option β) : YD.f k a0 a1 K = K z0 := by unfold YD.f; rw [h]; rfl
set_option maxRecDepth 100000 in
set_option maxHeartbeats 8000000 in
theorem YD.step {u : Int}  (h0 : 0 ≤ u)  (h1 : u + 1 + 1 ≤ 4611686018427387904) {k : Nat} (hk : Z3 k) : HStep (fun xs L v => YD.l0 k xs (fun z0 => some z0) L v) u [.int .i64 (u), .int .i64 (u + 1)] (u + 1 + 1) := by
  have hk0 : Z3 k := hk
  intro xs i i0 i1 hl hr L
  simp (maxSteps := 4000000) (disch := first | assumption | omega) only [YD.l0, atR, rdQ, Q.ask, ZQ i1, cond_true, cond_false, Zbp i0 i1, hr, ZY, Zad, Zaj, ZaQ, Za7, Z6, Zj, Yg.fv, Zu, bne_self_eq_false, beq_self_eq_true, Bool.not_true]
set_option maxRecDepth 100000 in
set_option maxHeartbeats 8000000 in
theorem YH.T {B : Nat} (hB : B ≤ 1099511627776) {xs : List (List D)} {n : Int} (g : Zi RII B xs) (h0 : 0 ≤ n) (h1 : n + Zp xs ≤ 4611686018427387904) : Tm Z3 (fun k => YH.t k (Zb xs) n) (fun z => ∃ ys, z.2 = Zb ys ∧ ys.length = xs.length ∧ z.1 = n + Zp xs ∧ ∀ k, Z3 k → YD.t k ys n = some z.1) := by
  have hb : big = 2 ^ 64 := rfl
  have hl := g.1
  have key : Tm Z3 (fun k => YH.t k (Zb xs) n) (fun z => ∃ ys, z.2 = Zb ys ∧ ys.length = xs.length ∧ z.1 = n + Zp xs ∧ ZbX (fun u r u' => ∀ k, Z3 k → HStep (fun xs L v => YD.l0 k xs (fun z0 => some z0) L v) u r u') n ys z.1) := by
    unfold YH.t YH.g
    refine Tm.loop (okk := Z3) (p := fun k => k) (fun i hi => hi) (b := fun k => YH.l0 k (fun z0 z1 => some (z0, z1))) (fun v => match v with | (u, i, tab) => ((xs.length : Int) - i).toNat) (fun v => match v with | (u, i, tab) => 0 ≤ i ∧ i ≤ xs.length ∧ ∃ done : List (List D), done.length = i.toNat ∧ tab = Zb done ++ Zb (xs.drop i.toNat) ∧ u = n + Zp (xs.take i.toNat) ∧ ZbX (fun u r u' => ∀ k, Z3 k → HStep (fun xs L v => YD.l0 k xs (fun z0 => some z0) L v) u r u') n done u) ?_ ?_ ?_
    · rintro ⟨u, i, tab⟩ hI
      simp only [] at hI ⊢
      omega
    · exact ⟨by omega, by omega, [], rfl, by simp [Zb], by simp [Zp], .nil⟩
    · rintro ⟨u, i, tab⟩ hI L hL
      simp only [] at hI
      obtain ⟨i0, i1, done, hd, rfl, hu, hH⟩ := hI
      have hA : (Zb done).length = i.toNat := by rw [Zw, hd]
      have hT : (Zb done ++ Zb (xs.drop i.toNat)).length = xs.length := by rw [List.length_append, hA, Zw, List.length_drop]; omega
      simp only [YH.l0]
      refine Tm.ite (fun h4 => ?_) (fun h4 => ?_)
      · simp only [decide_eq_true_eq, hT] at h4
        have hx := gR_at i0 h4
        obtain ⟨c0, c1, e, k0, k1, _⟩ := (g.2 _ (gR_mem i0 h4)).open
        rw [e] at hx
        have hdr := drop_at i0 hx
        have hw := wt_take i0 hx
        simp only [ZbG, wtD] at hw
        have hs := wt_split xs (i + 1).toNat
        rw [hdr] at hT ⊢
        simp only [Zb, ZZ, ZbW] at hT ⊢
        have hT2 := hT
        simp only [List.length_append, List.length_cons] at hT2
        refine Tm.guard (by first | decide | (simp only [List.length_modify, List.length_append, List.length_cons]; omega)) ?_
        refine Tm.guard (by first | decide | (simp only [List.length_modify, List.length_append, List.length_cons]; omega)) ?_
        refine Tm.guard (by first | decide | (simp only [List.length_modify, List.length_append, List.length_cons]; omega)) ?_
        refine Tm.guard (by first | decide | (simp only [List.length_modify, List.length_append, List.length_cons]; omega)) ?_
        try simp (disch := omega) only [Zj]
        try simp only [Zaf hA, Zq, List.take_zero, List.take_succ_cons, List.drop_succ_cons, List.drop_zero, List.nil_append, List.cons_append, List.length_cons, List.length_nil, Nat.zero_add, Nat.reduceAdd, List.set_cons_succ, List.set_cons_zero]
        refine hL (_, _, _) ⟨by omega, by omega, done ++ [[.int .i64 (u), .int .i64 (u + 1)]], by simp only [List.length_append, List.length_cons, List.length_nil]; omega, ?_, by omega, ZbX.snoc hH (fun k hk => YD.step (by omega) (by omega) hk)⟩ (by simp only []; omega)
        rw [Zai]
        simp only [Zb, ZZ, ZbW, List.append_assoc, List.cons_append, List.nil_append]
      · simp only [decide_eq_false_iff_not, hT] at h4
        refine Tm.ret ⟨done, ?_, by omega, ?_, hH⟩
        · rw [List.drop_eq_nil_of_le (by omega)]
          simp only [Zb, List.append_nil]
        · rw [List.take_of_length_le (by omega)] at hu
          exact hu
  obtain ⟨v, ⟨ys, e1, e2, e3, hH⟩, h2⟩ := key
  exact ⟨v, ⟨ys, e1, e2, e3, fun k hk => by
    have hk0 : Z3 k := hk
    unfold YD.t YD.g
    exact held_run (b := fun xs L v => YD.l0 k xs (fun z0 => some z0) L v) (by omega) (hH.mono fun _ _ _ h => h k hk) (by omega) (fun L => by simp [YD.l0, atR, rdQ, Q.ask])⟩, h2⟩
theorem Yag.tm {ι α : Type} {ok : ι → Prop} {ψ : α → Prop} {p : ι → Nat} {B : Nat} (hp : ∀ i, ok i → B ≤ p i) {aA aB aH aF aD a1 φ} (h : Tm (fun k => B ≤ k) (fun k => Yag.t k aA aB aH aF aD a1) φ) {G : ι → Int → Option α} (hG : ∀ z0, φ z0 → Tm ok (fun i => G i z0) ψ) : Tm ok (fun i => Yag.f (p i) aA aB aH aF aD a1 (G i)) ψ := ZK (t := fun k => Yag.t k aA aB aH aF aD a1) hp h hG
set_option maxRecDepth 100000 in
set_option maxHeartbeats 8000000 in
theorem Yac.T {B : Nat} (hB : B ≤ 1099511627776) {c0 : ByteArray} {c1 c2 : Int} {a3 a4 : List (List D)} {n : Int} (g3 : Zi Yc B a3) (g4 : Zi RII B a4) (h0 : 0 ≤ n) (h1 : n + Zp a3 + Zp a4 ≤ 4611686018427387904) : Tm (ZF 1) (fun k => Yac.t k c0 c1 c2 (Zb a3) (Zb a4) n) (fun z => ∃ ys3 ys4, z.1 = n + Zp a3 + Zp a4 ∧ z.2.1 = Zb ys3 ∧ z.2.2 = Zb ys4 ∧ ys3.length = a3.length ∧ ys4.length = a4.length ∧ ∀ k, (ZF 1) k → Yag.t k c0 c1 c2 ys3 ys4 n = some z.1) := by
  unfold Yac.t Yac.g
  refine Yz.tm (fun i hi => hi) (Yz.T hB g3 (by omega) (by omega)) (fun y3 t3 hy => ?_)
  obtain ⟨ys3, et3, el3, en3, hh3⟩ := hy
  simp only [] at et3 en3 hh3
  subst et3 en3
  try refine Tm.guard (by rw [Zw, Zw]; exact el3) ?_
  refine YH.tm (fun i hi => up0 hi) (YH.T hB g4 (by omega) (by omega)) (fun y4 t4 hy => ?_)
  obtain ⟨ys4, et4, el4, en4, hh4⟩ := hy
  simp only [] at et4 en4 hh4
  subst et4 en4
  try refine Tm.guard (by rw [Zw, Zw]; exact el4) ?_
  exact Tm.ret ⟨ys3, ys4, rfl, rfl, rfl, el3, el4, fun k hk => by
    unfold Yag.t Yag.g
    rw [Yx.f_of (hh3 k hk)]; simp only [ZV (show ¬ (n + (Zp a3 : Int)) < 0 by omega), cond_false]
    rw [YD.f_of (hh4 k (up0 hk))]; simp only [ZV (show ¬ (n + (Zp a3 : Int) + (Zp a4 : Int)) < 0 by omega), cond_false]⟩
end Go.Proofs.Ytppfencdbabmeaa
