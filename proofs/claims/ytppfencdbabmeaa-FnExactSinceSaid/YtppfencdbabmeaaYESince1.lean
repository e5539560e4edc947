/- Printed, and by hand: the functions that FnExactSince reaches come to their end; the program's answer as the reference's. -/
import Derived.Test.YtppfencdbabmeaaYESince0
import Derived.KernelRfl
set_option linter.unusedVariables false
set_option linter.unusedSimpArgs false
namespace Go.Proofs.Ytppfencdbabmeaa
open Go Go.T Go.Proofs
set_option maxRecDepth 100000 in
set_option maxHeartbeats 8000000 in
theorem Yj.T {B : Nat} (hB : B ≤ 1099511627776) {xs : List (List D)} {n : Int} (g : Zi RS B xs) (h0 : 0 ≤ n) (h1 : n + Zp xs ≤ 4611686018427387904) : Tm Z3 (fun k => Yj.t k (Zb xs) n) (fun z => ∃ ys, z.2 = Zb ys ∧ ys.length = xs.length ∧ z.1 = n + Zp xs ∧ ∀ k, Z3 k → Yl.t k ys n = some z.1) := by
  have hb : big = 2 ^ 64 := rfl
  have hl := g.1
  have key : Tm Z3 (fun k => Yj.t k (Zb xs) n) (fun z => ∃ ys, z.2 = Zb ys ∧ ys.length = xs.length ∧ z.1 = n + Zp xs ∧ ZbX (fun u r u' => ∀ k, Z3 k → HStep (fun xs L v => Yl.l0 k xs (fun z0 => some z0) L v) u r u') n ys z.1) := by
    unfold Yj.t Yj.g
    refine Tm.loop (okk := Z3) (p := fun k => k) (fun i hi => hi) (b := fun k => Yj.l0 k (fun z0 z1 => some (z0, z1))) (fun v => match v with | (u, i, tab) => ((xs.length : Int) - i).toNat) (fun v => match v with | (u, i, tab) => 0 ≤ i ∧ i ≤ xs.length ∧ ∃ done : List (List D), done.length = i.toNat ∧ tab = Zb done ++ Zb (xs.drop i.toNat) ∧ u = n + Zp (xs.take i.toNat) ∧ ZbX (fun u r u' => ∀ k, Z3 k → HStep (fun xs L v => Yl.l0 k xs (fun z0 => some z0) L v) u r u') n done u) ?_ ?_ ?_
    · rintro ⟨u, i, tab⟩ hI
      simp only [] at hI ⊢
      omega
    · exact ⟨by omega, by omega, [], rfl, by simp [Zb], by simp [Zp], .nil⟩
    · rintro ⟨u, i, tab⟩ hI L hL
      simp only [] at hI
      obtain ⟨i0, i1, done, hd, rfl, hu, hH⟩ := hI
      have hA : (Zb done).length = i.toNat := by rw [Zw, hd]
      have hT : (Zb done ++ Zb (xs.drop i.toNat)).length = xs.length := by rw [List.length_append, hA, Zw, List.length_drop]; omega
      simp only [Yj.l0]
      refine Tm.ite (fun h4 => ?_) (fun h4 => ?_)
      · simp only [decide_eq_true_eq, hT] at h4
        have hx := gR_at i0 h4
        obtain ⟨c0, e, k0, _⟩ := (g.2 _ (gR_mem i0 h4)).open
        rw [e] at hx
        have hdr := drop_at i0 hx
        have hw := wt_take i0 hx
        simp only [ZbG, wtD] at hw
        have hs := wt_split xs (i + 1).toNat
        rw [hdr] at hT ⊢
        simp only [Zb, ZZ, ZbW] at hT ⊢
        have hT2 := hT
        simp only [List.length_append, List.length_cons] at hT2
        try simp (disch := omega) only [Zj]
        refine Ye.tm (fun i hi => hi.1) (Tm.at (ok := Z3) (v := Ye.v _) (fun k hk => Ye.tv (by omega) hk)) (fun y hy => ?_)
        subst hy
        refine Tm.guard (by first | decide | (simp only [List.length_modify, List.length_append, List.length_cons]; omega)) ?_
        refine Tm.guard (by first | decide | (simp only [List.length_modify, List.length_append, List.length_cons]; omega)) ?_
        try simp (disch := omega) only [Zj]
        try simp only [Zaf hA, Zq, List.take_zero, List.take_succ_cons, List.drop_succ_cons, List.drop_zero, List.nil_append, List.cons_append, List.length_cons, List.length_nil, Nat.zero_add, Nat.reduceAdd, List.set_cons_succ, List.set_cons_zero]
        refine hL (_, _, _) ⟨by omega, by omega, done ++ [[.str (Ye.v (u))]], by simp only [List.length_append, List.length_cons, List.length_nil]; omega, ?_, by omega, ZbX.snoc hH (fun k hk => Yl.step (by omega) (by omega) hk)⟩ (by simp only []; omega)
        rw [Zai]
        simp only [Zb, ZZ, ZbW, List.append_assoc, List.cons_append, List.nil_append]
      · simp only [decide_eq_false_iff_not, hT] at h4
        refine Tm.ret ⟨done, ?_, by omega, ?_, hH⟩
        · rw [List.drop_eq_nil_of_le (by omega)]
          simp only [Zb, List.append_nil]
        · rw [List.take_of_length_le (by omega)] at hu
          exact hu
  obtain ⟨v, ⟨ys, e1, e2, e3, hH⟩, h2⟩ := key
  exact ⟨v, ⟨ys, e1, e2, e3, fun k hk => by
    have hk0 : Z3 k := hk
    unfold Yl.t Yl.g
    exact held_run (b := fun xs L v => Yl.l0 k xs (fun z0 => some z0) L v) (by omega) (hH.mono fun _ _ _ h => h k hk) (by omega) (fun L => by simp [Yl.l0, atR, rdQ, Q.ask])⟩, h2⟩
theorem Yh.f_of {β : Type} {k a0 a1 z0} (h : Yh.t k a0 a1 = some z0) (K : Int → Option β) : Yh.f k a0 a1 K = K z0 := by unfold Yh.f Yh.w; rw [h]; rfl
set_option maxRecDepth 100000 in
theorem Yh.step {N : Nat} {u : Int} {ys3 : List (List D)} {n3 : Int} {ys4 : List (List D)} {n4 : Int} (h0 : 0 ≤ u) (hn3 : u + 1 + 1 + 1 ≤ n3) (hh3 : ∀ k, Z3 k → Yl.t k ys3 (u + 1 + 1 + 1) = some n3) (hn4 : n3 ≤ n4) (hh4 : ∀ k, N ≤ k → Yh.t k ys4 (n3) = some n4) (h1 : n4 ≤ 4611686018427387904) {k : Nat} (hk : N ≤ k) (hk0 : Z3 k) : HStep (fun xs L v => Yh.l0 k (Yh.f k) xs (fun z0 => some z0) L v) u [.int .i64 (u), .str (Ye.v (u + 1)), .int .i64 (u + 1 + 1), .sl ys3, .sl ys4] (n4) := by
  intro xs i i0 i1 hl hr L
  simp (disch := first | assumption | omega) only [Yh.l0, atR, rdQ, Q.ask, ZQ i1, cond_true, cond_false, Zbp i0 i1, hr, ZY, Zad, Zaj, ZaQ, Za7, Z6, Zj, Ye.fv, Zu, bne_self_eq_false, beq_self_eq_true, Bool.not_true, Yl.f_of (hh3 k hk0), ZV (show ¬ n3 < 0 by omega), Yh.f_of (hh4 k hk), ZV (show ¬ n4 < 0 by omega)]
set_option maxRecDepth 100000 in
theorem markVal {B : Nat} (hB : B ≤ 1099511627776) (h : Nat) : ∀ {xs : List (List D)} {n : Int}, xs.length ≤ B → (∀ r ∈ xs, YW B h r) → 0 ≤ n → n + Zp xs ≤ 4611686018427387904 → Tm (fun k => big + h + 1 ≤ k) (fun k => Yg.t k (Zb xs) n) (fun z => ∃ ys, z.2 = Zb ys ∧ ys.length = xs.length ∧ z.1 = n + Zp xs ∧ ∀ k, big + h + 1 ≤ k → Yh.t k ys n = some z.1) := by
  have hb : big = 2 ^ 64 := rfl
  induction h using Nat.strongRecOn with
  | ind h ih =>
  intro xs n hl g h0 h1
  have key : Tm (fun k => big + h ≤ k) (fun k => Yg.g k (Zb xs) n (fun z0 z1 => some (z0, z1))) (fun z => ∃ ys, z.2 = Zb ys ∧ ys.length = xs.length ∧ z.1 = n + Zp xs ∧ ZbX (fun u r u' => ∀ k, big + h ≤ k → HStep (fun xs L v => Yh.l0 k (Yh.f k) xs (fun z0 => some z0) L v) u r u') n ys z.1) := by
    unfold Yg.g Yg.body
    refine Tm.loop (okk := fun k => big + h ≤ k) (p := fun k => k) (fun i hi => by omega) (b := fun k => Yg.l0 k (Yg.f k) (fun z0 z1 => some (z0, z1))) (fun v => match v with | (u, i, tab) => ((xs.length : Int) - i).toNat) (fun v => match v with | (u, i, tab) => 0 ≤ i ∧ i ≤ xs.length ∧ ∃ done : List (List D), done.length = i.toNat ∧ tab = Zb done ++ Zb (xs.drop i.toNat) ∧ u = n + Zp (xs.take i.toNat) ∧ ZbX (fun u r u' => ∀ k, big + h ≤ k → HStep (fun xs L v => Yh.l0 k (Yh.f k) xs (fun z0 => some z0) L v) u r u') n done u) ?_ ?_ ?_
    · rintro ⟨u, i, tab⟩ hI
      simp only [] at hI ⊢
      omega
    · exact ⟨by omega, by omega, [], rfl, by simp [Zb], by simp [Zp], .nil⟩
    · rintro ⟨u, i, tab⟩ hI L hL
      simp only [] at hI
      obtain ⟨i0, i1, done, hd, rfl, hu, hH⟩ := hI
      have hA : (Zb done).length = i.toNat := by rw [Zw, hd]
      have hT : (Zb done ++ Zb (xs.drop i.toNat)).length = xs.length := by rw [List.length_append, hA, Zw, List.length_drop]; omega
      simp only [Yg.l0]
      refine Tm.ite (fun h4 => ?_) (fun h4 => ?_)
      · simp only [decide_eq_true_eq, hT] at h4
        have hx := gR_at i0 h4
        obtain ⟨h', hh', c0, c1, c2, c3, c4, e, k3, l4, k4⟩ : ∃ h', h = h' + 1 ∧ ∃ c0 c1 c2 c3 c4, gR xs i = [.int .i64 c0, .str c1, .int .i64 c2, .sl c3, .sl c4] ∧ Zi RS B c3 ∧ c4.length ≤ B ∧ ∀ r ∈ c4, YW B h' r := by
          have := g _ (gR_mem i0 h4)
          generalize gR xs i = r at this
          cases this with
          | mk c0 c1 c2 c3 c4 w0 g1 w2 g3 l4 g4 => exact ⟨_, rfl, _, _, _, _, _, rfl, g3, l4, g4⟩
        rw [e] at hx
        have hdr := drop_at i0 hx
        have hw := wt_take i0 hx
        simp only [ZbG, wtD] at hw
        have hs := wt_split xs (i + 1).toNat
        rw [hdr] at hT ⊢
        simp only [Zb, ZZ, ZbW] at hT ⊢
        have hT2 := hT
        simp only [List.length_append, List.length_cons] at hT2
        refine Tm.guard (by first | decide | (simp only [List.length_modify, List.length_append, List.length_cons]; omega)) ?_
        refine Tm.guard (by first | decide | (simp only [List.length_modify, List.length_append, List.length_cons]; omega)) ?_
        try simp (disch := omega) only [Zj]
        refine Ye.tm (B := big) (fun i hi => by have := hi.1; omega) (Tm.at (ok := Z3) (v := Ye.v _) (fun k hk => Ye.tv (by omega) hk)) (fun y hy => ?_)
        subst hy
        refine Tm.guard (by first | decide | (simp only [List.length_modify, List.length_append, List.length_cons]; omega)) ?_
        refine Tm.guard (by first | decide | (simp only [List.length_modify, List.length_append, List.length_cons]; omega)) ?_
        refine Tm.guard (by first | decide | (simp only [List.length_modify, List.length_append, List.length_cons]; omega)) ?_
        refine Tm.guard (by first | decide | (simp only [List.length_modify, List.length_append, List.length_cons]; omega)) ?_
        refine Tm.guard (by first | decide | (simp only [List.length_modify, List.length_append, List.length_cons]; omega)) ?_
        try simp only [Zaf hA, ZaV hA, Zq, List.take_zero, List.take_succ_cons, List.drop_succ_cons, List.drop_zero, List.nil_append, List.cons_append, List.length_cons, List.length_nil, Nat.zero_add, Nat.reduceAdd, List.set_cons_succ, List.set_cons_zero]
        refine Tm.uncons ?_
        refine Tm.cOwn ?_
        try simp (disch := omega) only [Zj]
        refine Yj.tm (B := big) (fun i hi => by have := hi.1; omega) (Yj.T hB k3 (by omega) (by omega)) (fun y3 t3 hy => ?_)
        obtain ⟨ys3, et3, el3, en3, hh3⟩ := hy
        simp only [] at et3 en3 hh3
        subst et3 en3
        refine Tm.guard (by first | decide | (simp only [List.length_modify, List.length_append, List.length_cons]; omega)) ?_
        try simp only [Zaf hA, ZaV hA, Zq, List.take_zero, List.take_succ_cons, List.drop_succ_cons, List.drop_zero, List.nil_append, List.cons_append, List.length_cons, List.length_nil, Nat.zero_add, Nat.reduceAdd, List.set_cons_succ, List.set_cons_zero]
        refine Tm.uncons ?_
        refine Tm.cOwn ?_
        try simp (disch := omega) only [Zj]
        refine Yg.tm (B := big + h' + 1) (fun i hi => by have := hi.1; omega) (ih h' (by omega) l4 k4 (by omega) (by omega)) (fun y4 t4 hy => ?_)
        obtain ⟨ys4, et4, el4, en4, hh4⟩ := hy
        simp only [] at et4 en4 hh4
        subst et4 en4
        try simp (disch := omega) only [Zj]
        try simp only [Zaf hA, Zq, List.take_zero, List.take_succ_cons, List.drop_succ_cons, List.drop_zero, List.nil_append, List.cons_append, List.length_cons, List.length_nil, Nat.zero_add, Nat.reduceAdd, List.set_cons_succ, List.set_cons_zero]
        refine hL (_, _, _) ⟨by omega, by omega, done ++ [[.int .i64 (u), .str (Ye.v (u + 1)), .int .i64 (u + 1 + 1), .sl ys3, .sl ys4]], by simp only [List.length_append, List.length_cons, List.length_nil]; omega, ?_, by omega, ZbX.snoc hH (fun k hk => Yh.step (by omega) (by omega) hh3 (by omega) hh4 (by omega) (by omega) (by unfold Z3; omega))⟩ (by simp only []; omega)
        rw [Zai]
        simp only [Zb, ZZ, ZbW, List.append_assoc, List.cons_append, List.nil_append]
      · simp only [decide_eq_false_iff_not, hT] at h4
        refine Tm.ret ⟨done, ?_, by omega, ?_, hH⟩
        · rw [List.drop_eq_nil_of_le (by omega)]
          simp only [Zb, List.append_nil]
        · rw [List.take_of_length_le (by omega)] at hu
          exact hu
  refine Tm.succ (g := fun k => Yg.g k (Zb xs) n (fun z0 z1 => some (z0, z1))) (fun k => Yg.t_succ k (Zb xs) n) ?_
  refine key.mono fun z hz => ?_
  obtain ⟨ys, e1, e2, e3, hH⟩ := hz
  refine ⟨ys, e1, e2, e3, fun k hk => ?_⟩
  cases k with
  | zero => omega
  | succ k =>
    rw [Yh.t_succ]
    unfold Yh.g Yh.body
    exact held_run (b := fun xs L v => Yh.l0 k (Yh.f k) xs (fun z0 => some z0) L v) (by omega) (hH.mono fun _ _ _ h => h k (by omega)) (by omega) (fun L => by simp [Yh.l0, atR, rdQ, Q.ask])
theorem Yg.T {B : Nat} (hB : B ≤ 1099511627776) {xs : List (List D)} {n : Int} (g : Zi Yp B xs) (h0 : 0 ≤ n) (h1 : n + Zp xs ≤ 4611686018427387904) : Tm (ZF 1) (fun k => Yg.t k (Zb xs) n) (fun z => ∃ ys, z.2 = Zb ys ∧ ys.length = xs.length ∧ z.1 = n + Zp xs ∧ ∀ k, (ZF 1) k → Yh.t k ys n = some z.1) := by
  have hb : big = 2 ^ 64 := rfl
  have h2 : lv 1 = 2 ^ 65 := rfl
  obtain ⟨H, hH⟩ : ∃ H : Nat, H = 1099511627776 := ⟨_, rfl⟩
  have g' : ∀ x ∈ xs, YW B H x := fun x hx => by
    obtain ⟨h, hh, hx⟩ := g.2 x hx
    exact hx.mono (by have := hh hB; omega)
  have hN : big + H + 1 ≤ lv 1 := by omega
  refine ((markVal hB H g.1 g' h0 h1).up hN).mono fun z hz => ?_
  obtain ⟨ys, e1, e2, e3, hh⟩ := hz
  exact ⟨ys, e1, e2, e3, fun k hk => hh k (Nat.le_trans hN hk)⟩
theorem Yv.tm {ι α : Type} {ok : ι → Prop} {ψ : α → Prop} {p : ι → Nat} {B : Nat} (hp : ∀ i, ok i → B ≤ p i) {a0 a1 φ} (h : Tm (fun k => B ≤ k) (fun k => Yv.t k a0 a1) φ) {G : ι → Int → Option α} (hG : ∀ z0, φ z0 → Tm ok (fun i => G i z0) ψ) : Tm ok (fun i => Yv.f (p i) a0 a1 (G i)) ψ := ZK (t := fun k => Yv.t k a0 a1) hp h hG
set_option maxRecDepth 100000 in
set_option maxHeartbeats 8000000 in
theorem Yv.step {u : Int} {ys8 : List (List D)} {n8 : Int} {ys12 : List (List D)} {n12 : Int} {ys13 : List (List D)} {n13 : Int} {ys17 : List (List D)} {n17 : Int} {ys18 : List (List D)} {n18 : Int} (h0 : 0 ≤ u) (hn8 : u + 1 + 1 + 1 + 1 + 1 + 1 + 1 + 1 ≤ n8) (hh8 : ∀ k, Z3 k → Yl.t k ys8 (u + 1 + 1 + 1 + 1 + 1 + 1 + 1 + 1) = some n8) (hn12 : n8 + 1 + 1 + 1 ≤ n12) (hh12 : ∀ k, Z3 k → Yl.t k ys12 (n8 + 1 + 1 + 1) = some n12) (hn13 : n12 ≤ n13) (hh13 : ∀ k, (ZF 1) k → Yh.t k ys13 (n12) = some n13) (hn17 : n13 + 1 + 1 + 1 ≤ n17) (hh17 : ∀ k, Z3 k → Yl.t k ys17 (n13 + 1 + 1 + 1) = some n17) (hn18 : n17 ≤ n18) (hh18 : ∀ k, (ZF 1) k → Yh.t k ys18 (n17) = some n18) (h1 : n18 ≤ 4611686018427387904) {k : Nat} (hk : (ZF 1) k) : HStep (fun xs L v => Yv.l0 k xs (fun z0 => some z0) L v) u [.int .i64 (u), .bool (Int.tmod (u + 1) 3 == 0), .int .i64 (u + 1 + 1), .str (Ye.v (u + 1 + 1 + 1)), .int .i64 (u + 1 + 1 + 1 + 1), .int .i64 (u + 1 + 1 + 1 + 1 + 1), .int .i64 (u + 1 + 1 + 1 + 1 + 1 + 1), .bool (Int.tmod (u + 1 + 1 + 1 + 1 + 1 + 1 + 1) 3 == 0), .sl ys8, .int .i64 (n8), .str (Ye.v (n8 + 1)), .int .i64 (n8 + 1 + 1), .sl ys12, .sl ys13, .int .i64 (n13), .str (Ye.v (n13 + 1)), .int .i64 (n13 + 1 + 1), .sl ys17, .sl ys18] (n18) := by
  have hk0 : Z3 k := up0 hk
  intro xs i i0 i1 hl hr L
  simp (maxSteps := 4000000) (disch := first | assumption | omega) only [Yv.l0, atR, rdQ, Q.ask, ZQ i1, cond_true, cond_false, Zbp i0 i1, hr, ZY, Zad, Zaj, ZaQ, Za7, Z6, Zj, Ye.fv, Zu, bne_self_eq_false, beq_self_eq_true, Bool.not_true, ZaP (show (3 : Int) ≠ 0 by decide), ZaP (show (3 : Int) ≠ 0 by decide), Yl.f_of (hh8 k (up0 hk)), ZV (show ¬ n8 < 0 by omega), Yl.f_of (hh12 k (up0 hk)), ZV (show ¬ n12 < 0 by omega), Yh.f_of (hh13 k hk), ZV (show ¬ n13 < 0 by omega), Yl.f_of (hh17 k (up0 hk)), ZV (show ¬ n17 < 0 by omega), Yh.f_of (hh18 k hk), ZV (show ¬ n18 < 0 by omega)]
set_option maxRecDepth 100000 in
set_option maxHeartbeats 8000000 in
theorem Yu.T {B : Nat} (hB : B ≤ 1099511627776) {xs : List (List D)} {n : Int} (g : Zi Ya B xs) (h0 : 0 ≤ n) (h1 : n + Zp xs ≤ 4611686018427387904) : Tm (ZF 1) (fun k => Yu.t k (Zb xs) n) (fun z => ∃ ys, z.2 = Zb ys ∧ ys.length = xs.length ∧ z.1 = n + Zp xs ∧ ∀ k, (ZF 1) k → Yv.t k ys n = some z.1) := by
  have hb : big = 2 ^ 64 := rfl
  have hl := g.1
  have key : Tm (ZF 1) (fun k => Yu.t k (Zb xs) n) (fun z => ∃ ys, z.2 = Zb ys ∧ ys.length = xs.length ∧ z.1 = n + Zp xs ∧ ZbX (fun u r u' => ∀ k, (ZF 1) k → HStep (fun xs L v => Yv.l0 k xs (fun z0 => some z0) L v) u r u') n ys z.1) := by
    unfold Yu.t Yu.g
    refine Tm.loop (okk := (ZF 1)) (p := fun k => k) (fun i hi => up0 hi) (b := fun k => Yu.l0 k (fun z0 z1 => some (z0, z1))) (fun v => match v with | (u, i, tab) => ((xs.length : Int) - i).toNat) (fun v => match v with | (u, i, tab) => 0 ≤ i ∧ i ≤ xs.length ∧ ∃ done : List (List D), done.length = i.toNat ∧ tab = Zb done ++ Zb (xs.drop i.toNat) ∧ u = n + Zp (xs.take i.toNat) ∧ ZbX (fun u r u' => ∀ k, (ZF 1) k → HStep (fun xs L v => Yv.l0 k xs (fun z0 => some z0) L v) u r u') n done u) ?_ ?_ ?_
    · rintro ⟨u, i, tab⟩ hI
      simp only [] at hI ⊢
      omega
    · exact ⟨by omega, by omega, [], rfl, by simp [Zb], by simp [Zp], .nil⟩
    · rintro ⟨u, i, tab⟩ hI L hL
      simp only [] at hI
      obtain ⟨i0, i1, done, hd, rfl, hu, hH⟩ := hI
      have hA : (Zb done).length = i.toNat := by rw [Zw, hd]
      have hT : (Zb done ++ Zb (xs.drop i.toNat)).length = xs.length := by rw [List.length_append, hA, Zw, List.length_drop]; omega
      simp only [Yu.l0]
      refine Tm.ite (fun h4 => ?_) (fun h4 => ?_)
      · simp only [decide_eq_true_eq, hT] at h4
        have hx := gR_at i0 h4
        obtain ⟨c0, c1, c2, c3, c4, c5, c6, c7, c8, c9, c10, c11, c12, c13, c14, c15, c16, c17, c18, e, k0, k2, k3, k4, k5, k6, k8, k9, k10, k11, k12, k13, k14, k15, k16, k17, k18, _⟩ := (g.2 _ (gR_mem i0 h4)).open
        rw [e] at hx
        have hdr := drop_at i0 hx
        have hw := wt_take i0 hx
        simp only [ZbG, wtD] at hw
        have hs := wt_split xs (i + 1).toNat
        rw [hdr] at hT ⊢
        simp only [Zb, ZZ, ZbW] at hT ⊢
        have hT2 := hT
        simp only [List.length_append, List.length_cons] at hT2
        refine Tm.guard (by first | decide | (simp only [List.length_modify, List.length_append, List.length_cons]; omega)) ?_
        refine Tm.guard (by first | decide | (simp only [List.length_modify, List.length_append, List.length_cons]; omega)) ?_
        refine Tm.guard (by first | decide | (simp only [List.length_modify, List.length_append, List.length_cons]; omega)) ?_
        refine Tm.guard (by first | decide | (simp only [List.length_modify, List.length_append, List.length_cons]; omega)) ?_
        refine Tm.guard (by first | decide | (simp only [List.length_modify, List.length_append, List.length_cons]; omega)) ?_
        refine Tm.guard (by first | decide | (simp only [List.length_modify, List.length_append, List.length_cons]; omega)) ?_
        refine Tm.guard (by first | decide | (simp only [List.length_modify, List.length_append, List.length_cons]; omega)) ?_
        try simp (disch := omega) only [Zj]
        refine Ye.tm (fun i hi => up0 hi.1) (Tm.at (ok := Z3) (v := Ye.v _) (fun k hk => Ye.tv (by omega) hk)) (fun y hy => ?_)
        subst hy
        refine Tm.guard (by first | decide | (simp only [List.length_modify, List.length_append, List.length_cons]; omega)) ?_
        refine Tm.guard (by first | decide | (simp only [List.length_modify, List.length_append, List.length_cons]; omega)) ?_
        refine Tm.guard (by first | decide | (simp only [List.length_modify, List.length_append, List.length_cons]; omega)) ?_
        refine Tm.guard (by first | decide | (simp only [List.length_modify, List.length_append, List.length_cons]; omega)) ?_
        refine Tm.guard (by first | decide | (simp only [List.length_modify, List.length_append, List.length_cons]; omega)) ?_
        refine Tm.guard (by first | decide | (simp only [List.length_modify, List.length_append, List.length_cons]; omega)) ?_
        refine Tm.guard (by first | decide | (simp only [List.length_modify, List.length_append, List.length_cons]; omega)) ?_
        refine Tm.guard (by first | decide | (simp only [List.length_modify, List.length_append, List.length_cons]; omega)) ?_
        refine Tm.guard (by first | decide | (simp only [List.length_modify, List.length_append, List.length_cons]; omega)) ?_
        refine Tm.guard (by first | decide | (simp only [List.length_modify, List.length_append, List.length_cons]; omega)) ?_
        refine Tm.guard (by first | decide | (simp only [List.length_modify, List.length_append, List.length_cons]; omega)) ?_
        refine Tm.guard (by first | decide | (simp only [List.length_modify, List.length_append, List.length_cons]; omega)) ?_
        try simp only [Zaf hA, ZaV hA, Zq, List.take_zero, List.take_succ_cons, List.drop_succ_cons, List.drop_zero, List.nil_append, List.cons_append, List.length_cons, List.length_nil, Nat.zero_add, Nat.reduceAdd, List.set_cons_succ, List.set_cons_zero]
        refine Tm.uncons ?_
        refine Tm.cOwn ?_
        try simp (disch := omega) only [Zj]
        refine Yj.tm (fun i hi => up0 hi.1) (Yj.T hB k8 (by omega) (by omega)) (fun y8 t8 hy => ?_)
        obtain ⟨ys8, et8, el8, en8, hh8⟩ := hy
        simp only [] at et8 en8 hh8
        subst et8 en8
        refine Tm.guard (by first | decide | (simp only [List.length_modify, List.length_append, List.length_cons]; omega)) ?_
        refine Tm.guard (by first | decide | (simp only [List.length_modify, List.length_append, List.length_cons]; omega)) ?_
        try simp (disch := omega) only [Zj]
        refine Ye.tm (fun i hi => up0 hi.1) (Tm.at (ok := Z3) (v := Ye.v _) (fun k hk => Ye.tv (by omega) hk)) (fun y hy => ?_)
        subst hy
        refine Tm.guard (by first | decide | (simp only [List.length_modify, List.length_append, List.length_cons]; omega)) ?_
        refine Tm.guard (by first | decide | (simp only [List.length_modify, List.length_append, List.length_cons]; omega)) ?_
        refine Tm.guard (by first | decide | (simp only [List.length_modify, List.length_append, List.length_cons]; omega)) ?_
        refine Tm.guard (by first | decide | (simp only [List.length_modify, List.length_append, List.length_cons]; omega)) ?_
        refine Tm.guard (by first | decide | (simp only [List.length_modify, List.length_append, List.length_cons]; omega)) ?_
        try simp only [Zaf hA, ZaV hA, Zq, List.take_zero, List.take_succ_cons, List.drop_succ_cons, List.drop_zero, List.nil_append, List.cons_append, List.length_cons, List.length_nil, Nat.zero_add, Nat.reduceAdd, List.set_cons_succ, List.set_cons_zero]
        refine Tm.uncons ?_
        refine Tm.cOwn ?_
        try simp (disch := omega) only [Zj]
        refine Yj.tm (fun i hi => up0 hi.1) (Yj.T hB k12 (by omega) (by omega)) (fun y12 t12 hy => ?_)
        obtain ⟨ys12, et12, el12, en12, hh12⟩ := hy
        simp only [] at et12 en12 hh12
        subst et12 en12
        refine Tm.guard (by first | decide | (simp only [List.length_modify, List.length_append, List.length_cons]; omega)) ?_
        try simp only [Zaf hA, ZaV hA, Zq, List.take_zero, List.take_succ_cons, List.drop_succ_cons, List.drop_zero, List.nil_append, List.cons_append, List.length_cons, List.length_nil, Nat.zero_add, Nat.reduceAdd, List.set_cons_succ, List.set_cons_zero]
        refine Tm.uncons ?_
        refine Tm.cOwn ?_
        try simp (disch := omega) only [Zj]
        refine Yg.tm (fun i hi => hi.1) (Yg.T hB k13 (by omega) (by omega)) (fun y13 t13 hy => ?_)
        obtain ⟨ys13, et13, el13, en13, hh13⟩ := hy
        simp only [] at et13 en13 hh13
        subst et13 en13
        refine Tm.guard (by first | decide | (simp only [List.length_modify, List.length_append, List.length_cons]; omega)) ?_
        refine Tm.guard (by first | decide | (simp only [List.length_modify, List.length_append, List.length_cons]; omega)) ?_
        try simp (disch := omega) only [Zj]
        refine Ye.tm (fun i hi => up0 hi.1) (Tm.at (ok := Z3) (v := Ye.v _) (fun k hk => Ye.tv (by omega) hk)) (fun y hy => ?_)
        subst hy
        refine Tm.guard (by first | decide | (simp only [List.length_modify, List.length_append, List.length_cons]; omega)) ?_
        refine Tm.guard (by first | decide | (simp only [List.length_modify, List.length_append, List.length_cons]; omega)) ?_
        refine Tm.guard (by first | decide | (simp only [List.length_modify, List.length_append, List.length_cons]; omega)) ?_
        refine Tm.guard (by first | decide | (simp only [List.length_modify, List.length_append, List.length_cons]; omega)) ?_
        refine Tm.guard (by first | decide | (simp only [List.length_modify, List.length_append, List.length_cons]; omega)) ?_
        try simp only [Zaf hA, ZaV hA, Zq, List.take_zero, List.take_succ_cons, List.drop_succ_cons, List.drop_zero, List.nil_append, List.cons_append, List.length_cons, List.length_nil, Nat.zero_add, Nat.reduceAdd, List.set_cons_succ, List.set_cons_zero]
        refine Tm.uncons ?_
        refine Tm.cOwn ?_
        try simp (disch := omega) only [Zj]
        refine Yj.tm (fun i hi => up0 hi.1) (Yj.T hB k17 (by omega) (by omega)) (fun y17 t17 hy => ?_)
        obtain ⟨ys17, et17, el17, en17, hh17⟩ := hy
        simp only [] at et17 en17 hh17
        subst et17 en17
        refine Tm.guard (by first | decide | (simp only [List.length_modify, List.length_append, List.length_cons]; omega)) ?_
        try simp only [Zaf hA, ZaV hA, Zq, List.take_zero, List.take_succ_cons, List.drop_succ_cons, List.drop_zero, List.nil_append, List.cons_append, List.length_cons, List.length_nil, Nat.zero_add, Nat.reduceAdd, List.set_cons_succ, List.set_cons_zero]
        refine Tm.uncons ?_
        refine Tm.cOwn ?_
        try simp (disch := omega) only [Zj]
        refine Yg.tm (fun i hi => hi.1) (Yg.T hB k18 (by omega) (by omega)) (fun y18 t18 hy => ?_)
        obtain ⟨ys18, et18, el18, en18, hh18⟩ := hy
        simp only [] at et18 en18 hh18
        subst et18 en18
        try simp (disch := omega) only [Zj]
        try simp only [Zaf hA, Zq, List.take_zero, List.take_succ_cons, List.drop_succ_cons, List.drop_zero, List.nil_append, List.cons_append, List.length_cons, List.length_nil, Nat.zero_add, Nat.reduceAdd, List.set_cons_succ, List.set_cons_zero]
        refine hL (_, _, _) ⟨by omega, by omega, done ++ [[.int .i64 (u), .bool (Int.tmod (u + 1) 3 == 0), .int .i64 (u + 1 + 1), .str (Ye.v (u + 1 + 1 + 1)), .int .i64 (u + 1 + 1 + 1 + 1), .int .i64 (u + 1 + 1 + 1 + 1 + 1), .int .i64 (u + 1 + 1 + 1 + 1 + 1 + 1), .bool (Int.tmod (u + 1 + 1 + 1 + 1 + 1 + 1 + 1) 3 == 0), .sl ys8, .int .i64 (u + 1 + 1 + 1 + 1 + 1 + 1 + 1 + 1 + (Zp c8 : Int)), .str (Ye.v (u + 1 + 1 + 1 + 1 + 1 + 1 + 1 + 1 + (Zp c8 : Int) + 1)), .int .i64 (u + 1 + 1 + 1 + 1 + 1 + 1 + 1 + 1 + (Zp c8 : Int) + 1 + 1), .sl ys12, .sl ys13, .int .i64 (u + 1 + 1 + 1 + 1 + 1 + 1 + 1 + 1 + (Zp c8 : Int) + 1 + 1 + 1 + (Zp c12 : Int) + (Zp c13 : Int)), .str (Ye.v (u + 1 + 1 + 1 + 1 + 1 + 1 + 1 + 1 + (Zp c8 : Int) + 1 + 1 + 1 + (Zp c12 : Int) + (Zp c13 : Int) + 1)), .int .i64 (u + 1 + 1 + 1 + 1 + 1 + 1 + 1 + 1 + (Zp c8 : Int) + 1 + 1 + 1 + (Zp c12 : Int) + (Zp c13 : Int) + 1 + 1), .sl ys17, .sl ys18]], by simp only [List.length_append, List.length_cons, List.length_nil]; omega, ?_, by omega, ZbX.snoc hH (fun k hk => Yv.step (by omega) (by omega) hh8 (by omega) hh12 (by omega) hh13 (by omega) hh17 (by omega) hh18 (by omega) hk)⟩ (by simp only []; omega)
        rw [Zai]
        simp only [Zb, ZZ, ZbW, List.append_assoc, List.cons_append, List.nil_append]
      · simp only [decide_eq_false_iff_not, hT] at h4
        refine Tm.ret ⟨done, ?_, by omega, ?_, hH⟩
        · rw [List.drop_eq_nil_of_le (by omega)]
          simp only [Zb, List.append_nil]
        · rw [List.take_of_length_le (by omega)] at hu
          exact hu
  obtain ⟨v, ⟨ys, e1, e2, e3, hH⟩, h2⟩ := key
  exact ⟨v, ⟨ys, e1, e2, e3, fun k hk => by
    have hk0 : Z3 k := up0 hk
    unfold Yv.t Yv.g
    exact held_run (b := fun xs L v => Yv.l0 k xs (fun z0 => some z0) L v) (by omega) (hH.mono fun _ _ _ h => h k hk) (by omega) (fun L => by simp [Yv.l0, atR, rdQ, Q.ask])⟩, h2⟩
end Go.Proofs.Ytppfencdbabmeaa
