/- FnExactTell: the program's function answers as the reference's, for every input. No condition. -/
import Derived.Test.YtlobhlnahhjpjaaRows
import Derived.Test.YtlobhlnahhjpjaaYETell0
import Derived.KernelRfl
import Derived.WalkKit
import Derived.ProofKit
import Derived.OpenShut
import Derived.ShutString
import Derived.ChangeOld
import Derived.Below
import Derived.SizedLaws
set_option linter.unusedVariables false
set_option linter.unusedSimpArgs false
namespace Go.Proofs.Ytlobhlnahhjpjaa
open Go Go.T Go.Proofs
set_option maxRecDepth 100000 in
set_option maxHeartbeats 8000000 in
theorem Yn.T {B : Nat} (hB : B ≤ 1099511627776) {xs : List (List D)} {n : Int} (g : ZB RS B xs) (h0 : 0 ≤ n) (h1 : n + Zu xs ≤ 4611686018427387904) : Tm Fuel (fun k => Yn.t k (Zc xs) n) (fun z => ∃ ys, z.2 = Zc ys ∧ ys.length = xs.length ∧ z.1 = n + Zu xs ∧ ∀ k, Fuel k → Fuel k) := by
  have hb : big = 2 ^ 64 := rfl
  have hl := g.1
  have key : Tm Fuel (fun k => Yn.t k (Zc xs) n) (fun z => ∃ ys, z.2 = Zc ys ∧ ys.length = xs.length ∧ z.1 = n + Zu xs ∧ HeldL (fun _ _ _ => True) n ys z.1) := by
    unfold Yn.t Yn.g
    refine Tm.loop (okk := Fuel) (p := fun k => k) (fun i hi => hi) (b := fun k => Yn.l0 k (fun z0 z1 => some (z0, z1))) (fun v => match v with | (u, i, tab) => ((xs.length : Int) - i).toNat) (fun v => match v with | (u, i, tab) => 0 ≤ i ∧ i ≤ xs.length ∧ ∃ done : List (List D), done.length = i.toNat ∧ tab = Zc done ++ Zc (xs.drop i.toNat) ∧ u = n + Zu (xs.take i.toNat) ∧ HeldL (fun _ _ _ => True) n done u) ?_ ?_ ?_
    · rintro ⟨u, i, tab⟩ hI
      simp only [] at hI ⊢
      omega
    · exact ⟨by omega, by omega, [], rfl, by simp [Zc], by simp [Zu], .nil⟩
    · rintro ⟨u, i, tab⟩ hI L hL
      simp only [] at hI
      obtain ⟨i0, i1, done, hd, rfl, hu, hH⟩ := hI
      have hA : (Zc done).length = i.toNat := by rw [ZS, hd]
      have hT : (Zc done ++ Zc (xs.drop i.toNat)).length = xs.length := by rw [List.length_append, hA, ZS, List.length_drop]; omega
      simp only [Yn.l0]
      refine Tm.ite (fun h4 => ?_) (fun h4 => ?_)
      · simp only [decide_eq_true_eq, hT] at h4
        have hx := gR_at i0 h4
        obtain ⟨c0, e, k0, _⟩ := (g.2 _ (gR_mem i0 h4)).open
        rw [e] at hx
        have hdr := drop_at i0 hx
        have hw := wt_take i0 hx
        simp only [ZbY, wtD] at hw
        have hs := wt_split xs (i + 1).toNat
        rw [hdr] at hT ⊢
        simp only [Zc, ZN, deepD] at hT ⊢
        have hT2 := hT
        simp only [List.length_append, List.length_cons] at hT2
        try simp (disch := omega) only [Z9]
        refine Yi.tm (fun i hi => hi.1) (Tm.at (ok := Fuel) (v := Yi.v _) (fun k hk => Yi.tv (by omega) hk)) (fun y hy => ?_)
        subst hy
        refine Tm.guard (by first | decide | (simp only [List.length_modify, List.length_append, List.length_cons]; omega)) ?_
        refine Tm.guard (by first | decide | (simp only [List.length_modify, List.length_append, List.length_cons]; omega)) ?_
        try simp (disch := omega) only [Z9]
        try simp only [modify_mid hA, Zs, List.take_zero, List.take_succ_cons, List.drop_succ_cons, List.drop_zero, List.nil_append, List.cons_append, List.length_cons, List.length_nil, Nat.zero_add, Nat.reduceAdd, List.set_cons_succ, List.set_cons_zero]
        refine hL (_, _, _) ⟨by omega, by omega, done ++ [[.str (Yi.v (u))]], by simp only [List.length_append, List.length_cons, List.length_nil]; omega, ?_, by omega, HeldL.snoc hH trivial⟩ (by simp only []; omega)
        rw [Zbb]
        simp only [Zc, ZN, deepD, List.append_assoc, List.cons_append, List.nil_append]
      · simp only [decide_eq_false_iff_not, hT] at h4
        refine Tm.ret ⟨done, ?_, by omega, ?_, hH⟩
        · rw [List.drop_eq_nil_of_le (by omega)]
          simp only [Zc, List.append_nil]
        · rw [List.take_of_length_le (by omega)] at hu
          exact hu
  obtain ⟨v, ⟨ys, e1, e2, e3, hH⟩, h2⟩ := key
  exact ⟨v, ⟨ys, e1, e2, e3, fun k hk => hk⟩, h2⟩
theorem markVal {B : Nat} (hB : B ≤ 1099511627776) (h : Nat) : ∀ {xs : List (List D)} {n : Int}, xs.length ≤ B → (∀ r ∈ xs, YH B h r) → 0 ≤ n → n + Zu xs ≤ 4611686018427387904 → Tm (fun k => big + h + 1 ≤ k) (fun k => Yg.t k (Zc xs) n) (fun z => ∃ ys, z.2 = Zc ys ∧ ys.length = xs.length ∧ z.1 = n + Zu xs ∧ ∀ k, big + h + 1 ≤ k → big + h + 1 ≤ k) := by
  have hb : big = 2 ^ 64 := rfl
  induction h using Nat.strongRecOn with
  | ind h ih =>
  intro xs n hl g h0 h1
  have key : Tm (fun k => big + h ≤ k) (fun k => Yg.g k (Zc xs) n (fun z0 z1 => some (z0, z1))) (fun z => ∃ ys, z.2 = Zc ys ∧ ys.length = xs.length ∧ z.1 = n + Zu xs ∧ HeldL (fun _ _ _ => True) n ys z.1) := by
    unfold Yg.g Yg.body
    refine Tm.loop (okk := fun k => big + h ≤ k) (p := fun k => k) (fun i hi => by omega) (b := fun k => Yg.l0 k (Yg.f k) (fun z0 z1 => some (z0, z1))) (fun v => match v with | (u, i, tab) => ((xs.length : Int) - i).toNat) (fun v => match v with | (u, i, tab) => 0 ≤ i ∧ i ≤ xs.length ∧ ∃ done : List (List D), done.length = i.toNat ∧ tab = Zc done ++ Zc (xs.drop i.toNat) ∧ u = n + Zu (xs.take i.toNat) ∧ HeldL (fun _ _ _ => True) n done u) ?_ ?_ ?_
    · rintro ⟨u, i, tab⟩ hI
      simp only [] at hI ⊢
      omega
    · exact ⟨by omega, by omega, [], rfl, by simp [Zc], by simp [Zu], .nil⟩
    · rintro ⟨u, i, tab⟩ hI L hL
      simp only [] at hI
      obtain ⟨i0, i1, done, hd, rfl, hu, hH⟩ := hI
      have hA : (Zc done).length = i.toNat := by rw [ZS, hd]
      have hT : (Zc done ++ Zc (xs.drop i.toNat)).length = xs.length := by rw [List.length_append, hA, ZS, List.length_drop]; omega
      simp only [Yg.l0]
      refine Tm.ite (fun h4 => ?_) (fun h4 => ?_)
      · simp only [decide_eq_true_eq, hT] at h4
        have hx := gR_at i0 h4
        obtain ⟨h', hh', c0, c1, c2, c3, c4, e, k3, l4, k4⟩ : ∃ h', h = h' + 1 ∧ ∃ c0 c1 c2 c3 c4, gR xs i = [.int .i64 c0, .str c1, .int .i64 c2, .sl c3, .sl c4] ∧ ZB RS B c3 ∧ c4.length ≤ B ∧ ∀ r ∈ c4, YH B h' r := by
          have := g _ (gR_mem i0 h4)
          generalize gR xs i = r at this
          cases this with
          | mk c0 c1 c2 c3 c4 w0 g1 w2 g3 l4 g4 => exact ⟨_, rfl, _, _, _, _, _, rfl, g3, l4, g4⟩
        rw [e] at hx
        have hdr := drop_at i0 hx
        have hw := wt_take i0 hx
        simp only [ZbY, wtD] at hw
        have hs := wt_split xs (i + 1).toNat
        rw [hdr] at hT ⊢
        simp only [Zc, ZN, deepD] at hT ⊢
        have hT2 := hT
        simp only [List.length_append, List.length_cons] at hT2
        refine Tm.guard (by first | decide | (simp only [List.length_modify, List.length_append, List.length_cons]; omega)) ?_
        refine Tm.guard (by first | decide | (simp only [List.length_modify, List.length_append, List.length_cons]; omega)) ?_
        try simp (disch := omega) only [Z9]
        refine Yi.tm (B := big) (fun i hi => by have := hi.1; omega) (Tm.at (ok := Fuel) (v := Yi.v _) (fun k hk => Yi.tv (by omega) hk)) (fun y hy => ?_)
        subst hy
        refine Tm.guard (by first | decide | (simp only [List.length_modify, List.length_append, List.length_cons]; omega)) ?_
        refine Tm.guard (by first | decide | (simp only [List.length_modify, List.length_append, List.length_cons]; omega)) ?_
        refine Tm.guard (by first | decide | (simp only [List.length_modify, List.length_append, List.length_cons]; omega)) ?_
        refine Tm.guard (by first | decide | (simp only [List.length_modify, List.length_append, List.length_cons]; omega)) ?_
        refine Tm.guard (by first | decide | (simp only [List.length_modify, List.length_append, List.length_cons]; omega)) ?_
        try simp only [modify_mid hA, atNat_mid hA, Zs, List.take_zero, List.take_succ_cons, List.drop_succ_cons, List.drop_zero, List.nil_append, List.cons_append, List.length_cons, List.length_nil, Nat.zero_add, Nat.reduceAdd, List.set_cons_succ, List.set_cons_zero]
        refine Tm.uncons ?_
        refine Tm.cOwn ?_
        try simp (disch := omega) only [Z9]
        refine Yn.tm (B := big) (fun i hi => by have := hi.1; omega) (Yn.T hB k3 (by omega) (by omega)) (fun y3 t3 hy => ?_)
        obtain ⟨ys3, et3, el3, en3, hh3⟩ := hy
        simp only [] at et3 en3 hh3
        subst et3 en3
        refine Tm.guard (by first | decide | (simp only [List.length_modify, List.length_append, List.length_cons]; omega)) ?_
        try simp only [modify_mid hA, atNat_mid hA, Zs, List.take_zero, List.take_succ_cons, List.drop_succ_cons, List.drop_zero, List.nil_append, List.cons_append, List.length_cons, List.length_nil, Nat.zero_add, Nat.reduceAdd, List.set_cons_succ, List.set_cons_zero]
        refine Tm.uncons ?_
        refine Tm.cOwn ?_
        try simp (disch := omega) only [Z9]
        refine Yg.tm (B := big + h' + 1) (fun i hi => by have := hi.1; omega) (ih h' (by omega) l4 k4 (by omega) (by omega)) (fun y4 t4 hy => ?_)
        obtain ⟨ys4, et4, el4, en4, hh4⟩ := hy
        simp only [] at et4 en4 hh4
        subst et4 en4
        try simp (disch := omega) only [Z9]
        try simp only [modify_mid hA, Zs, List.take_zero, List.take_succ_cons, List.drop_succ_cons, List.drop_zero, List.nil_append, List.cons_append, List.length_cons, List.length_nil, Nat.zero_add, Nat.reduceAdd, List.set_cons_succ, List.set_cons_zero]
        refine hL (_, _, _) ⟨by omega, by omega, done ++ [[.int .i64 (u), .str (Yi.v (u + 1)), .int .i64 (u + 1 + 1), .sl ys3, .sl ys4]], by simp only [List.length_append, List.length_cons, List.length_nil]; omega, ?_, by omega, HeldL.snoc hH trivial⟩ (by simp only []; omega)
        rw [Zbb]
        simp only [Zc, ZN, deepD, List.append_assoc, List.cons_append, List.nil_append]
      · simp only [decide_eq_false_iff_not, hT] at h4
        refine Tm.ret ⟨done, ?_, by omega, ?_, hH⟩
        · rw [List.drop_eq_nil_of_le (by omega)]
          simp only [Zc, List.append_nil]
        · rw [List.take_of_length_le (by omega)] at hu
          exact hu
  refine Tm.succ (g := fun k => Yg.g k (Zc xs) n (fun z0 z1 => some (z0, z1))) (fun k => Yg.t_succ k (Zc xs) n) ?_
  refine key.mono fun z hz => ?_
  obtain ⟨ys, e1, e2, e3, hH⟩ := hz
  exact ⟨ys, e1, e2, e3, fun k hk => hk⟩
theorem Yg.T {B : Nat} (hB : B ≤ 1099511627776) {xs : List (List D)} {n : Int} (g : ZB YG B xs) (h0 : 0 ≤ n) (h1 : n + Zu xs ≤ 4611686018427387904) : Tm (Zai 1) (fun k => Yg.t k (Zc xs) n) (fun z => ∃ ys, z.2 = Zc ys ∧ ys.length = xs.length ∧ z.1 = n + Zu xs ∧ ∀ k, (Zai 1) k → (Zai 1) k) := by
  have hb : big = 2 ^ 64 := rfl
  have h2 : lv 1 = 2 ^ 65 := rfl
  obtain ⟨H, hH⟩ : ∃ H : Nat, H = 1099511627776 := ⟨_, rfl⟩
  have g' : ∀ x ∈ xs, YH B H x := fun x hx => by
    obtain ⟨h, hh, hx⟩ := g.2 x hx
    exact hx.mono (by have := hh hB; omega)
  have hN : big + H + 1 ≤ lv 1 := by omega
  refine ((markVal hB H g.1 g' h0 h1).up hN).mono fun z hz => ?_
  obtain ⟨ys, e1, e2, e3, hh⟩ := hz
  exact ⟨ys, e1, e2, e3, fun k hk => hk⟩
set_option maxRecDepth 100000 in
set_option maxHeartbeats 8000000 in
theorem Yr.T {B : Nat} (hB : B ≤ 1099511627776) {xs : List (List D)} {n : Int} (g : ZB Yj B xs) (h0 : 0 ≤ n) (h1 : n + Zu xs ≤ 4611686018427387904) : Tm (Zai 1) (fun k => Yr.t k (Zc xs) n) (fun z => ∃ ys, z.2 = Zc ys ∧ ys.length = xs.length ∧ z.1 = n + Zu xs ∧ ∀ k, (Zai 1) k → (Zai 1) k) := by
  have hb : big = 2 ^ 64 := rfl
  have hl := g.1
  have key : Tm (Zai 1) (fun k => Yr.t k (Zc xs) n) (fun z => ∃ ys, z.2 = Zc ys ∧ ys.length = xs.length ∧ z.1 = n + Zu xs ∧ HeldL (fun _ _ _ => True) n ys z.1) := by
    unfold Yr.t Yr.g
    refine Tm.loop (okk := (Zai 1)) (p := fun k => k) (fun i hi => up0 hi) (b := fun k => Yr.l0 k (fun z0 z1 => some (z0, z1))) (fun v => match v with | (u, i, tab) => ((xs.length : Int) - i).toNat) (fun v => match v with | (u, i, tab) => 0 ≤ i ∧ i ≤ xs.length ∧ ∃ done : List (List D), done.length = i.toNat ∧ tab = Zc done ++ Zc (xs.drop i.toNat) ∧ u = n + Zu (xs.take i.toNat) ∧ HeldL (fun _ _ _ => True) n done u) ?_ ?_ ?_
    · rintro ⟨u, i, tab⟩ hI
      simp only [] at hI ⊢
      omega
    · exact ⟨by omega, by omega, [], rfl, by simp [Zc], by simp [Zu], .nil⟩
    · rintro ⟨u, i, tab⟩ hI L hL
      simp only [] at hI
      obtain ⟨i0, i1, done, hd, rfl, hu, hH⟩ := hI
      have hA : (Zc done).length = i.toNat := by rw [ZS, hd]
      have hT : (Zc done ++ Zc (xs.drop i.toNat)).length = xs.length := by rw [List.length_append, hA, ZS, List.length_drop]; omega
      simp only [Yr.l0]
      refine Tm.ite (fun h4 => ?_) (fun h4 => ?_)
      · simp only [decide_eq_true_eq, hT] at h4
        have hx := gR_at i0 h4
        obtain ⟨c0, c1, c2, c3, c4, c5, c6, e, k0, k1, k2, k3, k4, k5, k6, _⟩ := (g.2 _ (gR_mem i0 h4)).open
        rw [e] at hx
        have hdr := drop_at i0 hx
        have hw := wt_take i0 hx
        simp only [ZbY, wtD] at hw
        have hs := wt_split xs (i + 1).toNat
        rw [hdr] at hT ⊢
        simp only [Zc, ZN, deepD] at hT ⊢
        have hT2 := hT
        simp only [List.length_append, List.length_cons] at hT2
        refine Tm.guard (by first | decide | (simp only [List.length_modify, List.length_append, List.length_cons]; omega)) ?_
        refine Tm.guard (by first | decide | (simp only [List.length_modify, List.length_append, List.length_cons]; omega)) ?_
        refine Tm.guard (by first | decide | (simp only [List.length_modify, List.length_append, List.length_cons]; omega)) ?_
        refine Tm.guard (by first | decide | (simp only [List.length_modify, List.length_append, List.length_cons]; omega)) ?_
        refine Tm.guard (by first | decide | (simp only [List.length_modify, List.length_append, List.length_cons]; omega)) ?_
        refine Tm.guard (by first | decide | (simp only [List.length_modify, List.length_append, List.length_cons]; omega)) ?_
        try simp (disch := omega) only [Z9]
        refine Yi.tm (fun i hi => up0 hi.1) (Tm.at (ok := Fuel) (v := Yi.v _) (fun k hk => Yi.tv (by omega) hk)) (fun y hy => ?_)
        subst hy
        refine Tm.guard (by first | decide | (simp only [List.length_modify, List.length_append, List.length_cons]; omega)) ?_
        refine Tm.guard (by first | decide | (simp only [List.length_modify, List.length_append, List.length_cons]; omega)) ?_
        refine Tm.guard (by first | decide | (simp only [List.length_modify, List.length_append, List.length_cons]; omega)) ?_
        refine Tm.guard (by first | decide | (simp only [List.length_modify, List.length_append, List.length_cons]; omega)) ?_
        refine Tm.guard (by first | decide | (simp only [List.length_modify, List.length_append, List.length_cons]; omega)) ?_
        try simp only [modify_mid hA, atNat_mid hA, Zs, List.take_zero, List.take_succ_cons, List.drop_succ_cons, List.drop_zero, List.nil_append, List.cons_append, List.length_cons, List.length_nil, Nat.zero_add, Nat.reduceAdd, List.set_cons_succ, List.set_cons_zero]
        refine Tm.uncons ?_
        refine Tm.cOwn ?_
        try simp (disch := omega) only [Z9]
        refine Yn.tm (fun i hi => up0 hi.1) (Yn.T hB k5 (by omega) (by omega)) (fun y5 t5 hy => ?_)
        obtain ⟨ys5, et5, el5, en5, hh5⟩ := hy
        simp only [] at et5 en5 hh5
        subst et5 en5
        refine Tm.guard (by first | decide | (simp only [List.length_modify, List.length_append, List.length_cons]; omega)) ?_
        try simp only [modify_mid hA, atNat_mid hA, Zs, List.take_zero, List.take_succ_cons, List.drop_succ_cons, List.drop_zero, List.nil_append, List.cons_append, List.length_cons, List.length_nil, Nat.zero_add, Nat.reduceAdd, List.set_cons_succ, List.set_cons_zero]
        refine Tm.uncons ?_
        refine Tm.cOwn ?_
        try simp (disch := omega) only [Z9]
        refine Yg.tm (fun i hi => hi.1) (Yg.T hB k6 (by omega) (by omega)) (fun y6 t6 hy => ?_)
        obtain ⟨ys6, et6, el6, en6, hh6⟩ := hy
        simp only [] at et6 en6 hh6
        subst et6 en6
        try simp (disch := omega) only [Z9]
        try simp only [modify_mid hA, Zs, List.take_zero, List.take_succ_cons, List.drop_succ_cons, List.drop_zero, List.nil_append, List.cons_append, List.length_cons, List.length_nil, Nat.zero_add, Nat.reduceAdd, List.set_cons_succ, List.set_cons_zero]
        refine hL (_, _, _) ⟨by omega, by omega, done ++ [[.int .i64 (u), .int .i64 (u + 1), .int .i64 (u + 1 + 1), .str (Yi.v (u + 1 + 1 + 1)), .int .i64 (u + 1 + 1 + 1 + 1), .sl ys5, .sl ys6]], by simp only [List.length_append, List.length_cons, List.length_nil]; omega, ?_, by omega, HeldL.snoc hH trivial⟩ (by simp only []; omega)
        rw [Zbb]
        simp only [Zc, ZN, deepD, List.append_assoc, List.cons_append, List.nil_append]
      · simp only [decide_eq_false_iff_not, hT] at h4
        refine Tm.ret ⟨done, ?_, by omega, ?_, hH⟩
        · rw [List.drop_eq_nil_of_le (by omega)]
          simp only [Zc, List.append_nil]
        · rw [List.take_of_length_le (by omega)] at hu
          exact hu
  obtain ⟨v, ⟨ys, e1, e2, e3, hH⟩, h2⟩ := key
  exact ⟨v, ⟨ys, e1, e2, e3, fun k hk => hk⟩, h2⟩
set_option maxRecDepth 100000 in
set_option maxHeartbeats 8000000 in
theorem YJ.T {B : Nat} (hB : B ≤ 1099511627776) {c0 : ByteArray} {c1 c2 : Int} {a3 a4 : List (List D)} {n : Int} (g3 : ZB Yj B a3) (g4 : ZB RII B a4) (h0 : 0 ≤ n) (h1 : n + Zu a3 + Zu a4 ≤ 4611686018427387904) : Tm (Zai 1) (fun k => YJ.t k c0 c1 c2 (Zc a3) (Zc a4) n) (fun z => ∃ ys3 ys4, z.1 = n + Zu a3 + Zu a4 ∧ z.2.1 = Zc ys3 ∧ z.2.2 = Zc ys4 ∧ ys3.length = a3.length ∧ ys4.length = a4.length ∧ ∀ k, (Zai 1) k → (Zai 1) k) := by
  unfold YJ.t YJ.g
  refine Yr.tm (fun i hi => hi) (Yr.T hB g3 (by omega) (by omega)) (fun y3 t3 hy => ?_)
  obtain ⟨ys3, et3, el3, en3, hh3⟩ := hy
  simp only [] at et3 en3 hh3
  subst et3 en3
  try refine Tm.guard (by rw [ZS, ZS]; first | exact el3 | exact el3.1) ?_
  refine Yp.tm (fun i hi => up0 hi) (Yp.T hB g4 (by omega) (by omega)) (fun y4 t4 hy => ?_)
  obtain ⟨ys4, et4, el4, en4, hh4⟩ := hy
  simp only [] at et4 en4 hh4
  subst et4 en4
  try refine Tm.guard (by rw [ZS, ZS]; first | exact el4 | exact el4.1) ?_
  exact Tm.ret ⟨ys3, ys4, rfl, rfl, rfl, (by first | exact el3 | exact el3.1), (by first | exact el4 | exact el4.1), fun k hk => hk⟩
theorem YM.T {aC : ByteArray} {aD aI : Int} {aF aH : List (List D)} (ga0_0 : aC.size ≤ maxLen) (ga0_1 : (Lit.int .i64 aD).wf = true) (ga0_2 : (Lit.int .i64 aI).wf = true) (ga0_3 : ZB Yj maxLen aF) (ga0_4 : ZB RII maxLen aH) : Tm (Zai 1) (fun k => YM.t k aC aD aI aF aH) (fun r => r = true) := by
  unfold YM.t YM.g
  have hm := maxLen_eq
  have hlim : lim = 1048576 := rfl
  refine YQ.tm (fun i hi => hi) (YQ.T (by first | assumption | omega) (by first | assumption | omega) (by first | assumption | omega) (by first | assumption | omega) (by first | assumption | omega)) (fun y2 hy1 => ?_)
  rcases hy1 with hy1 | ⟨p7, p8, q3, q4, q5, q6, _⟩
  · exact Tm.ite (fun _ => Tm.ret (by rfl)) (fun h => by simp at h; omega)
  refine Tm.ite (fun h9 => ?_) (fun h9 => ?_)
  · try simp only [bz0, bz1, bz2, bz3, bz4, bz5, bz6, bz7, bz8, bz9, bza] at h9
    exact Tm.ret (by first | rfl | (exfalso; omega) | (exfalso; simp [strEq_self] at *))
  · try simp only [bz0, bz1, bz2, bz3, bz4, bz5, bz6, bz7, bz8, bz9, bza] at h9
    refine YI.tm (fun i hi => hi) (YI.T (by first | assumption | omega) (by first | assumption | omega) (by first | assumption | omega)) (fun y11 y12 y13 y14 y15 hy10 => ?_)
    try simp only [] at hy10
    obtain ⟨rfl, rfl, rfl, rfl, rfl, _⟩ := hy10
    try simp only [ZK]
    refine Yo.tm (fun i hi => up0 hi) (Tm.self (Yo.T (by first | assumption | omega) (by first | assumption | omega) (by first | assumption | omega) (by first | assumption | omega) (by first | assumption | omega) (by first | assumption | omega))) (fun y17 hy16 => ?_)
    have hf18 := hy16.1
    try simp only [] at hf18
    obtain ⟨q19, q20, _⟩ := hf18
    refine YI.tm (fun i hi => hi) (YI.T (by first | assumption | omega) (by first | assumption | omega) (by first | assumption | omega)) (fun y22 y23 y24 y25 y26 hy21 => ?_)
    try simp only [] at hy21
    obtain ⟨rfl, rfl, rfl, rfl, rfl, _⟩ := hy21
    try simp only [ZK]
    refine YF.tm (fun i hi => hi) (Tm.at (ok := (Zai 1)) (v := Zc (C.immRows y17)) (fun k hk => YF.same (by first | assumption | omega) (by first | assumption | omega) (by first | assumption | omega) (by first | assumption | omega) (by first | assumption | omega) (by first | assumption | omega) hk ((hy16.2) k (up0 hk)))) (fun y28 hy27 => ?_)
    subst y28
    try simp only [ZK]
    refine Yv.tm (fun i hi => up0 hi) (Yv.T (by first | assumption | omega) (by first | assumption | omega)) (fun y30 hy29 => ?_)
    subst hy29
    refine Tm.ite (fun h31 => ?_) (fun h31 => ?_)
    · try simp only [bz0, bz1, bz2, bz3, bz4, bz5, bz6, bz7, bz8, bz9, bza] at h31
      exact Tm.ret (by first | rfl | (exfalso; omega) | (exfalso; simp [strEq_self] at *))
    · try simp only [bz0, bz1, bz2, bz3, bz4, bz5, bz6, bz7, bz8, bz9, bza] at h31
      refine YI.tm (fun i hi => hi) (YI.T (by first | assumption | omega) (by first | assumption | omega) (by first | assumption | omega)) (fun y33 y34 y35 y36 y37 hy32 => ?_)
      try simp only [] at hy32
      obtain ⟨rfl, rfl, rfl, rfl, rfl, _⟩ := hy32
      try simp only [ZK]
      refine YS.tm (fun i hi => hi) (YS.T (by first | assumption | omega) (by first | assumption | omega) (by first | assumption | omega) (by first | assumption | omega)) (fun y39 hy38 => ?_)
      subst hy38
      refine Tm.ite (fun h40 => ?_) (fun h40 => ?_)
      · try simp only [bz0, bz1, bz2, bz3, bz4, bz5, bz6, bz7, bz8, bz9, bza] at h40
        exact Tm.ret (by first | rfl | (exfalso; omega) | (exfalso; simp [strEq_self] at *))
      · try simp only [bz0, bz1, bz2, bz3, bz4, bz5, bz6, bz7, bz8, bz9, bza] at h40
        refine YJ.tm (fun i hi => hi) (YJ.T (B := 2097152) (by decide) (by first | assumption | exact Yj.wide (by assumption)) (by first | assumption | exact RII.wide (by assumption)) (by omega) (by omega)) (fun y42 y43 y44 hy41 => ?_)
        obtain ⟨ys46, ys47, en52, et48, et49, el50, el51, hh45⟩ := hy41
        simp only [] at en52 et48 et49 hh45
        subst en52 et48 et49
        refine Tm.guard (by first | omega | (simp only [ZS]; assumption) | (simp only [lim, maxLen_eq, Z8] at *; omega) | (simp only [lim, Z8] at *; refine ⟨?_, ?_, ?_, ?_⟩ <;> omega)) ?_
        refine Tm.guard (by first | omega | (simp only [ZS]; assumption) | (simp only [lim, maxLen_eq, Z8] at *; omega) | (simp only [lim, Z8] at *; refine ⟨?_, ?_, ?_, ?_⟩ <;> omega)) ?_
        refine Tm.ite (fun h53 => ?_) (fun h53 => ?_)
        · try simp only [bz0, bz1, bz2, bz3, bz4, bz5, bz6, bz7, bz8, bz9, bza] at h53
          exact Tm.ret (by first | rfl | (exfalso; omega) | (exfalso; simp [strEq_self] at *))
        · try simp only [bz0, bz1, bz2, bz3, bz4, bz5, bz6, bz7, bz8, bz9, bza] at h53
          refine Yv.tm (fun i hi => up0 hi) (Yv.T (by first | assumption | omega) (by first | assumption | omega)) (fun y55 hy54 => ?_)
          subst hy54
          refine Tm.ite (fun h56 => ?_) (fun h56 => ?_)
          · try simp only [bz0, bz1, bz2, bz3, bz4, bz5, bz6, bz7, bz8, bz9, bza] at h56
            exact Tm.ret (by first | rfl | (exfalso; omega) | (exfalso; simp [strEq_self] at *))
          · try simp only [bz0, bz1, bz2, bz3, bz4, bz5, bz6, bz7, bz8, bz9, bza] at h56
            refine Yp.tm (fun i hi => up0 hi) (Yp.T (B := 2097152) (by decide) (by first | assumption | exact RII.wide (by assumption)) (by omega) (by omega)) (fun y58 y59 hy57 => ?_)
            obtain ⟨ys61, et62, el63, en64, hh60⟩ := hy57
            simp only [] at en64 et62 hh60
            subst en64 et62
            refine Tm.guard (by first | omega | (simp only [ZS]; assumption) | (simp only [lim, maxLen_eq, Z8] at *; omega) | (simp only [lim, Z8] at *; refine ⟨?_, ?_, ?_, ?_⟩ <;> omega)) ?_
            try simp only [ZK]
            refine Yq.tm (fun i hi => up0 hi) (Tm.at (ok := Fuel) (fun k hk => hh60 k hk)) (fun y66 hy65 => ?_)
            subst hy65
            refine Tm.ite (fun h67 => ?_) (fun h67 => ?_)
            · try simp only [bz0, bz1, bz2, bz3, bz4, bz5, bz6, bz7, bz8, bz9, bza] at h67
              exact Tm.ret (by first | rfl | (exfalso; omega) | (exfalso; simp [strEq_self] at *))
            · try simp only [bz0, bz1, bz2, bz3, bz4, bz5, bz6, bz7, bz8, bz9, bza] at h67
              refine Tm.ite (fun h68 => ?_) (fun h68 => ?_)
              · try simp only [bz0, bz1, bz2, bz3, bz4, bz5, bz6, bz7, bz8, bz9, bza] at h68
                exact Tm.ret (by first | rfl | (exfalso; omega) | (exfalso; simp [strEq_self] at *))
              · try simp only [bz0, bz1, bz2, bz3, bz4, bz5, bz6, bz7, bz8, bz9, bza] at h68
                refine YI.tm (fun i hi => hi) (YI.T (by first | assumption | omega) (by first | assumption | omega) (by first | assumption | omega)) (fun y70 y71 y72 y73 y74 hy69 => ?_)
                try simp only [] at hy69
                obtain ⟨rfl, rfl, rfl, rfl, rfl, _⟩ := hy69
                try simp only [ZK]
                refine YF.tm (fun i hi => hi) (Tm.at (ok := (Zai 1)) (v := Zc (C.immRows y17)) (fun k hk => YF.same (by first | assumption | omega) (by first | assumption | omega) (by first | assumption | omega) (by first | assumption | omega) (by first | assumption | omega) (by first | assumption | omega) hk ((hy16.2) k (up0 hk)))) (fun y76 hy75 => ?_)
                subst y76
                try simp only [ZK]
                refine Yv.tm (fun i hi => up0 hi) (Yv.T (by first | assumption | omega) (by first | assumption | omega)) (fun y78 hy77 => ?_)
                subst hy77
                refine Tm.ite (fun h79 => ?_) (fun h79 => ?_)
                · try simp only [bz0, bz1, bz2, bz3, bz4, bz5, bz6, bz7, bz8, bz9, bza] at h79
                  exact Tm.ret (by first | rfl | (exfalso; omega) | (exfalso; simp [strEq_self] at *))
                · try simp only [bz0, bz1, bz2, bz3, bz4, bz5, bz6, bz7, bz8, bz9, bza] at h79
                  try simp only [ZK]
                  refine Yq.tm (fun i hi => up0 hi) (Tm.at (ok := Fuel) (fun k hk => hh60 k hk)) (fun y81 hy80 => ?_)
                  subst hy80
                  refine Tm.ite (fun h82 => ?_) (fun h82 => ?_)
                  · try simp only [bz0, bz1, bz2, bz3, bz4, bz5, bz6, bz7, bz8, bz9, bza] at h82
                    exact Tm.ret (by first | rfl | (exfalso; omega) | (exfalso; simp [strEq_self] at *))
                  · try simp only [bz0, bz1, bz2, bz3, bz4, bz5, bz6, bz7, bz8, bz9, bza] at h82
                    refine Tm.ite (fun h83 => ?_) (fun h83 => ?_)
                    · try simp only [bz0, bz1, bz2, bz3, bz4, bz5, bz6, bz7, bz8, bz9, bza] at h83
                      exact Tm.ret (by first | rfl | (exfalso; omega) | (exfalso; simp [strEq_self] at *))
                    · try simp only [bz0, bz1, bz2, bz3, bz4, bz5, bz6, bz7, bz8, bz9, bza] at h83
                      exact Tm.ret (by first | rfl | (exfalso; omega) | (exfalso; simp [strEq_self] at *))
open Go.ChangeShapes Go.WideShapes Go.ChangeAt Go.RowKit
open Go.ChangeMaps (open_string shut_string)
theorem own : ownKnob Try.prog.godebug = none := by kernel_rfl
theorem laidOut : laidOutB Try.prog = true := by kernel_rfl
theorem goodS_9 {r : List D} (h : RowS Try.prog maxLen 9 r) : RS maxLen r := by
  have hh := h.open (show Zq Try.prog 6 9 = [9] from by kernel_rfl)
  obtain ⟨d0, l0, rfl, g0, hh0⟩ := goodR_cons hh
  obtain ⟨c0, rfl, k0⟩ := good_str (by kernel_rfl) g0
  obtain rfl := goodR_nil hh0
  exact ⟨c0, rfl, k0, trivial⟩
theorem goodISILSELXE_83_n (n : Nat) : ∀ r : List D, SizeOf.sizeOf r = n → RowS Try.prog maxLen 83 r → ∃ h, YH maxLen h r := by
  induction n using Nat.strongRecOn with
  | ind n ih =>
  intro r hn h
  have hh := h.open (show Zq Try.prog 6 83 = [3, 9, 3, 59, 81] from by kernel_rfl)
  obtain ⟨d0, l0, rfl, g0, hh0⟩ := goodR_cons hh
  obtain ⟨c0, rfl, k0⟩ := good_int (k := .i64) (by kernel_rfl) g0
  obtain ⟨d1, l1, rfl, g1, hh1⟩ := goodR_cons hh0
  obtain ⟨c1, rfl, k1⟩ := good_str (by kernel_rfl) g1
  obtain ⟨d2, l2, rfl, g2, hh2⟩ := goodR_cons hh1
  obtain ⟨c2, rfl, k2⟩ := good_int (k := .i64) (by kernel_rfl) g2
  obtain ⟨d3, l3, rfl, g3, hh3⟩ := goodR_cons hh2
  obtain ⟨c3, rfl, k3, m3⟩ := good_sl (e := 9) (by kernel_rfl) g3
  obtain ⟨d4, l4, rfl, g4, hh4⟩ := goodR_cons hh3
  obtain ⟨c4, rfl, k4, m4⟩ := good_sl (e := 83) (by kernel_rfl) g4
  obtain rfl := goodR_nil hh4
  have hs : ∀ r' ∈ c4, SizeOf.sizeOf r' < n := fun r' hr => by have := List.sizeOf_lt_of_mem hr; simp at hn; omega
  obtain ⟨hq, q4⟩ := common (Q := YH maxLen) (fun _ _ _ => YH.mono) c4 fun r' hr => ih _ (hs r' hr) r' rfl (m4 r' hr)
  exact ⟨hq + 1, .mk c0 c1 c2 c3 c4 k0 k1 k2 ⟨k3, fun r hr => goodS_9 (m3 r hr)⟩ k4 q4⟩
theorem goodISILSELXE_83 {r : List D} (h : RowS Try.prog maxLen 83 r) : YG maxLen r := by
  obtain ⟨h1, h2⟩ := goodISILSELXE_83_n _ r rfl h
  exact ⟨h1, fun hb => absurd (show (9223372036854775807 : Nat) ≤ 1099511627776 from hb) (by decide), h2⟩
theorem Yab {r : List D} (h : RowS Try.prog maxLen 107 r) : Yj maxLen r := by
  have hh := h.open (show Zq Try.prog 6 107 = [3, 3, 3, 9, 3, 59, 81] from by kernel_rfl)
  obtain ⟨d0, l0, rfl, g0, hh0⟩ := goodR_cons hh
  obtain ⟨c0, rfl, k0⟩ := good_int (k := .i64) (by kernel_rfl) g0
  obtain ⟨d1, l1, rfl, g1, hh1⟩ := goodR_cons hh0
  obtain ⟨c1, rfl, k1⟩ := good_int (k := .i64) (by kernel_rfl) g1
  obtain ⟨d2, l2, rfl, g2, hh2⟩ := goodR_cons hh1
  obtain ⟨c2, rfl, k2⟩ := good_int (k := .i64) (by kernel_rfl) g2
  obtain ⟨d3, l3, rfl, g3, hh3⟩ := goodR_cons hh2
  obtain ⟨c3, rfl, k3⟩ := good_str (by kernel_rfl) g3
  obtain ⟨d4, l4, rfl, g4, hh4⟩ := goodR_cons hh3
  obtain ⟨c4, rfl, k4⟩ := good_int (k := .i64) (by kernel_rfl) g4
  obtain ⟨d5, l5, rfl, g5, hh5⟩ := goodR_cons hh4
  obtain ⟨c5, rfl, k5, m5⟩ := good_sl (e := 9) (by kernel_rfl) g5
  obtain ⟨d6, l6, rfl, g6, hh6⟩ := goodR_cons hh5
  obtain ⟨c6, rfl, k6, m6⟩ := good_sl (e := 83) (by kernel_rfl) g6
  obtain rfl := goodR_nil hh6
  exact ⟨c0, c1, c2, c3, c4, c5, c6, rfl, k0, k1, k2, k3, k4, ⟨k5, fun r hr => goodS_9 (m5 r hr)⟩, ⟨k6, fun r hr => goodISILSELXE_83 (m6 r hr)⟩, trivial⟩
theorem goodII_110 {r : List D} (h : RowS Try.prog maxLen 110 r) : RII maxLen r := by
  have hh := h.open (show Zq Try.prog 6 110 = [3, 3] from by kernel_rfl)
  obtain ⟨d0, l0, rfl, g0, hh0⟩ := goodR_cons hh
  obtain ⟨c0, rfl, k0⟩ := good_int (k := .i64) (by kernel_rfl) g0
  obtain ⟨d1, l1, rfl, g1, hh1⟩ := goodR_cons hh0
  obtain ⟨c1, rfl, k1⟩ := good_int (k := .i64) (by kernel_rfl) g1
  obtain rfl := goodR_nil hh1
  exact ⟨c0, c1, rfl, k0, k1, trivial⟩
theorem types : lawTys Try.prog [107, 9, 83, 110] = true := by kernel_rfl
set_option maxRecDepth 100000 in
theorem lifted (os : Os) (started : os.Started) (H : Type) (enc : TypeId × Value → H) :
    ReturnsInHanded {} Try.checked os 3 .any (Rows.fnExactTellSpec.pre6 enc Try.prog Try.f3 Rows.fnExactTellRow.domain false) (Rows.fnExactTellSpec.post enc Try.prog Try.f3 false true false false) := by
  refine returnsInHanded_of_change_sized (C := Try.checked) own started (by kernel_rfl) Try.func3
    (ChangeSpec.witness6 (enc := enc) (C := Try.checked) false ⟨#[], #[.agg #[.string ByteArray.empty, .int .i64 0, .int .i64 0, .slice none 0 0, .slice none 0 0]], []⟩ 8 (by kernel_rfl) (by kernel_rfl) (by kernel_rfl) (by kernel_rfl)) ?_
  intro W base args ds gs before hval0 hW hcnd hsz0 _
  have hval : ∀ (j : Nat) t v, Try.f3.params[j]? = some t → args[j]? = some v → Value.okWide Try.prog W .any base t v := hval0
  have hW' := hW
  obtain ⟨p, q, hA0, hV, rfl, hfz, hnd⟩ := hW
  have hA : DataW.TrodAll enc Try.prog W 0 (fun _ => true) true Try.f3.params.toList args.toList ds p := hA0
  have hpar : Try.f3.params = #[25] := by kernel_rfl
  rw [hpar] at hA hval
  obtain ⟨v0, vs0, d0, ds0, p0, q0, hargs, rfl, rfl, h0, r0⟩ := trodAll_cons hA
  obtain ⟨rfl, rfl, rfl⟩ := trodAll_nil r0
  obtain rfl : args = #[v0] := by cases args; simp_all
  obtain ⟨rfl, rfl⟩ := trodVars_none hV
  have k0 := h0
  have lt0 : ∀ x ∈ p0, x.block < W.heap.size := by obtain ⟨m, hm⟩ := k0; exact DataW.trod_lt m _ _ _ hm
  obtain ⟨cs0, xs0, rfl, hl0, hc0, hg0⟩ := open_agg types (by kernel_rfl) (by kernel_rfl) (hval 0 25 v0 rfl rfl) h0
  have hj0 := hg0.open (show Zq Try.prog 6 25 = [9, 3, 3, 22, 23] from by kernel_rfl)
  obtain ⟨ea0_0, la0_0, rfl, wa0_0, hj0_0⟩ := goodR_cons hj0
  obtain ⟨aC, rfl, ka0_0⟩ := good_str (by kernel_rfl) wa0_0
  obtain ⟨ea0_1, la0_1, rfl, wa0_1, hj0_1⟩ := goodR_cons hj0_0
  obtain ⟨aD, rfl, ka0_1⟩ := good_int (k := .i64) (by kernel_rfl) wa0_1
  obtain ⟨ea0_2, la0_2, rfl, wa0_2, hj0_2⟩ := goodR_cons hj0_1
  obtain ⟨aI, rfl, ka0_2⟩ := good_int (k := .i64) (by kernel_rfl) wa0_2
  obtain ⟨ea0_3, la0_3, rfl, wa0_3, hj0_3⟩ := goodR_cons hj0_2
  obtain ⟨aF, rfl, ka0_3, ma0_3⟩ := good_sl (e := 107) (by kernel_rfl) wa0_3
  obtain ⟨ea0_4, la0_4, rfl, wa0_4, hj0_4⟩ := goodR_cons hj0_3
  obtain ⟨aH, rfl, ka0_4, ma0_4⟩ := good_sl (e := 110) (by kernel_rfl) wa0_4
  obtain rfl := goodR_nil hj0_4
  clear hA0 hval0 hsz0
  obtain ⟨kb, hkb⟩ : ∃ k, lv 1 ≤ k := ⟨_, Nat.le_refl _⟩
  obtain ⟨z, rfl, hz⟩ := YM.T ka0_0 ka0_1 ka0_2 ⟨ka0_3, fun r hr => Yab (ma0_3 r hr)⟩ ⟨ka0_4, fun r hr => goodII_110 (ma0_4 r hr)⟩
  refine (law_calls (YM.ok kb) rfl rfl (by kernel_rfl) (aa := [.agg [.str aC, .int .i64 aD, .int .i64 aI, .sl aF, .sl aH]]) (vs := [.agg cs0.toArray]) ?_ ⟨(), ?_⟩).mono fun e W' ⟨he, bel⟩ => ?_
  · exact (ZO.cons' ⟨rfl, cs0, rfl, hl0, hc0⟩ ZO.nil')
  · exact (ent_run (YM.e kb) rfl (congrArg some (hz kb hkb)) rfl)
  · subst he
    exact ⟨_, rfl, _, _, _, [], _, [], hW', trodAll_mk1 (shut_bool (by kernel_rfl) _), (trodAll_cons_mk (Below.trod laidOut (by kernel_rfl) (of_decide_eq_true (by kernel_rfl)) k0 bel lt0) trodAll_mk0), rfl, bel.frame _, fun h => by cases h⟩
theorem facts1 : joined1 Try.prog 3 Try.f3 Rows.fnExactTellSpec Rows.fnExactTellRow = true := by kernel_rfl
theorem facts2 : joined2 Try.prog 3 Try.f3 Rows.fnExactTellSpec Rows.fnExactTellRow = true := by kernel_rfl
theorem facts3 : joined3 Try.prog 3 Try.f3 Rows.fnExactTellSpec Rows.fnExactTellRow = true := by kernel_rfl
theorem facts4 : joined4 Try.prog 3 Try.f3 Rows.fnExactTellSpec Rows.fnExactTellRow = true := by kernel_rfl
theorem facts5 : joined5 Try.prog 3 Try.f3 Rows.fnExactTellSpec Rows.fnExactTellRow = true := by kernel_rfl
theorem facts6 : joined6 Try.prog 3 Try.f3 Rows.fnExactTellSpec Rows.fnExactTellRow = true := by kernel_rfl
theorem facts7 : joined7 Try.prog 3 Try.f3 Rows.fnExactTellSpec Rows.fnExactTellRow = true := by kernel_rfl
theorem facts8 : joined8 Try.prog 3 Try.f3 Rows.fnExactTellSpec Rows.fnExactTellRow = true := by kernel_rfl
theorem over : Rows.fnExactTellRow.holds Try.pinned (OpenSpec.ofChange Rows.fnExactTellSpec) :=
  OpenClaim.holds_of_wide 3 Try.f3 rfl rfl rfl rfl rfl rfl rfl ⟨rfl, rfl, rfl, rfl, rfl⟩ rfl rfl rfl rfl rfl (by kernel_rfl) Try.func3 (joined_of facts1 facts2 facts3 facts4 facts5 facts6 facts7 facts8)
    (of_decide_eq_true (by kernel_rfl)) (by unfold Func.isWrapper; first | (rw [if_pos (by decide +kernel)]; kernel_rfl) | (rw [if_neg (by decide +kernel)]; exact ⟨rfl, rfl⟩))
    (fun os started H enc _ => lifted os started H enc)
theorem fnExactTell_holds : Rows.FnExactTellSaid := over
end Go.Proofs.Ytlobhlnahhjpjaa
