/- Printed, and by hand: the functions that FnExactList reaches come to their end; the program's answer as the reference's. -/
import Derived.Test.YtljkbknnnpjmgaaYEList0
import Derived.KernelRfl
set_option linter.unusedVariables false
set_option linter.unusedSimpArgs false
namespace Go.Proofs.Ytljkbknnnpjmgaa
open Go Go.T Go.Proofs
theorem Ye.T {a0 : Int} (h1 : a0 ≤ 4611686018427387904) : Tm Zar (fun k => Ye.t k a0) (fun _ => True) := by
 unfold Ye.t Ye.g
 have hb : big = 2 ^ 64 := rfl
 refine Tm.ite (fun _ => Tm.ret trivial) (fun h => ?_)
 simp only [decide_eq_false_iff_not, Int.not_le] at h
 refine Tm.loop (okk := Zar) (p := fun k => k) (fun i hi => hi) (b := fun k => Ye.l0 k (fun z0 => some z0)) (fun v => match v with | (u, s) => u.toNat) (fun v => match v with | (u, s) => 0 ≤ u ∧ u + s.size ≤ a0) ?_ ?_ ?_
 ·rintro ⟨u, s⟩ hI
  simp only [] at hI ⊢
  omega
 ·simp only []
  have : (⟨#[]⟩ : BA).size = 0 := rfl
  omega
 ·rintro ⟨u, s⟩ hI L hL
  simp only [] at hI
  obtain ⟨u0, u1⟩ := hI
  simp only [Ye.l0]
  refine Tm.ite (fun h4 => ?_) (fun h4 => ?_)
  ·simp only [decide_eq_true_eq] at h4
   have e1 : ∀ x : UInt8, (⟨#[x]⟩ : BA).size = 1 := fun _ => rfl
   have ed : Int.tdiv u 10 = u / 10 := Int.tdiv_eq_ediv_of_nonneg (by omega)
   refine Tm.guard (by decide) (Tm.guard (by rw [e1]; omega) (Tm.guard (by decide) ?_))
   rw [ed, ZC (x := u / 10) (by omega) (by omega)]
   refine hL (_, _) ⟨by omega, ?_⟩ (by simp only []; omega)
   rw [ByteArray.size_append, e1]
   omega
  ·have e1 : (⟨#[109]⟩ : BA).size = 1 := rfl
   exact Tm.guard (by rw [e1]; omega) (Tm.ret trivial)
noncomputable def Ye.v (a0 : Int) : BA := (Ye.t big a0).getD default
theorem Ye.tv {a0 : Int} (h1 : a0 ≤ 4611686018427387904) {k : Nat} (hk : Zar k) : Ye.t k a0 = some (Ye.v a0) := (Ye.T h1).val hk
theorem Ye.fv {a0 : Int} (h1 : a0 ≤ 4611686018427387904) {k : Nat} (hk : Zar k) {β : Type} (K : BA → Option β) : Ye.f k a0 K = K (Ye.v a0) := Ye.f_of (Ye.tv h1 hk) K
theorem Yh.f_of {β : Type} {k : Nat} {a0 : LC} {a1 z0 : Int} {z1 : LC} (h : Yh.t k a0 a1 = some (z0, z1)) (K : Int → LC → Option β) : Yh.f k a0 a1 K = K z0 z1 := by
 unfold Yh.f
 rw [h]
theorem Yh.tm {ι α : Type} {ok : ι → Prop} {ψ : α → Prop} {p : ι → Nat} {B : Nat} (hp : ∀ i, ok i → B ≤ p i) {a0 : LC} {a1 : Int} {φ : Int × LC → Prop} (h : Tm (fun k => B ≤ k) (fun k => Yh.t k a0 a1) φ) {G : ι → Int → LC → Option α} (hG : ∀ z0 z1, φ (z0, z1) → Tm ok (fun ι0 => G ι0 z0 z1) ψ) : Tm ok (fun ι0 => Yh.f (p ι0) a0 a1 (G ι0)) ψ := by
 obtain ⟨⟨z0, z1⟩, h1, h2⟩ := h
 exact (hG z0 z1 h1).congr fun i0 hi0 => Yh.f_of (h2 (p i0) (hp i0 hi0)) _
theorem Yf.f_of {β : Type} {k : Nat} {a0 : LC} {a1 z0 : Int} {z1 : LC} (h : Yf.t k a0 a1 = some (z0, z1)) (K : Int → LC → Option β) : Yf.f k a0 a1 K = K z0 z1 := by
 unfold Yf.f
 unfold Yf.w
 rw [h]
theorem Yf.tm {ι α : Type} {ok : ι → Prop} {ψ : α → Prop} {p : ι → Nat} {B : Nat} (hp : ∀ i, ok i → B ≤ p i) {a0 : LC} {a1 : Int} {φ : Int × LC → Prop} (h : Tm (fun k => B ≤ k) (fun k => Yf.t k a0 a1) φ) {G : ι → Int → LC → Option α} (hG : ∀ z0 z1, φ (z0, z1) → Tm ok (fun ι0 => G ι0 z0 z1) ψ) : Tm ok (fun ι0 => Yf.f (p ι0) a0 a1 (G ι0)) ψ := by
 obtain ⟨⟨z0, z1⟩, h1, h2⟩ := h
 exact (hG z0 z1 h1).congr fun i0 hi0 => Yf.f_of (h2 (p i0) (hp i0 hi0)) _
theorem YA.f_of {β : Type} {k : Nat} {a0 : LC} {a1 z0 : Int} {z1 : LC} (h : YA.t k a0 a1 = some (z0, z1)) (K : Int → LC → Option β) : YA.f k a0 a1 K = K z0 z1 := by
 unfold YA.f
 rw [h]
theorem YA.tm {ι α : Type} {ok : ι → Prop} {ψ : α → Prop} {p : ι → Nat} {B : Nat} (hp : ∀ i, ok i → B ≤ p i) {a0 : LC} {a1 : Int} {φ : Int × LC → Prop} (h : Tm (fun k => B ≤ k) (fun k => YA.t k a0 a1) φ) {G : ι → Int → LC → Option α} (hG : ∀ z0 z1, φ (z0, z1) → Tm ok (fun ι0 => G ι0 z0 z1) ψ) : Tm ok (fun ι0 => YA.f (p ι0) a0 a1 (G ι0)) ψ := by
 obtain ⟨⟨z0, z1⟩, h1, h2⟩ := h
 exact (hG z0 z1 h1).congr fun i0 hi0 => YA.f_of (h2 (p i0) (hp i0 hi0)) _
theorem Yp.f_of {β : Type} {k : Nat} {a0 : LC} {a1 z0 : Int} {z1 : LC} (h : Yp.t k a0 a1 = some (z0, z1)) (K : Int → LC → Option β) : Yp.f k a0 a1 K = K z0 z1 := by
 unfold Yp.f
 rw [h]
theorem Yp.tm {ι α : Type} {ok : ι → Prop} {ψ : α → Prop} {p : ι → Nat} {B : Nat} (hp : ∀ i, ok i → B ≤ p i) {a0 : LC} {a1 : Int} {φ : Int × LC → Prop} (h : Tm (fun k => B ≤ k) (fun k => Yp.t k a0 a1) φ) {G : ι → Int → LC → Option α} (hG : ∀ z0 z1, φ (z0, z1) → Tm ok (fun ι0 => G ι0 z0 z1) ψ) : Tm ok (fun ι0 => Yp.f (p ι0) a0 a1 (G ι0)) ψ := by
 obtain ⟨⟨z0, z1⟩, h1, h2⟩ := h
 exact (hG z0 z1 h1).congr fun i0 hi0 => Yp.f_of (h2 (p i0) (hp i0 hi0)) _
theorem Y3.f_of {β : Type} {k : Nat} {aB : LC} {aA aE : Int} {aD : LC} {a1 z0 : Int} {z1 z2 : LC} (h : Y3.t k aB aA aE aD a1 = some (z0, z1, z2)) (K : Int → LC → LC → Option β) : Y3.f k aB aA aE aD a1 K = K z0 z1 z2 := by
 unfold Y3.f
 rw [h]
theorem Y3.tm {ι α : Type} {ok : ι → Prop} {ψ : α → Prop} {p : ι → Nat} {B : Nat} (hp : ∀ i, ok i → B ≤ p i) {aB : LC} {aA aE : Int} {aD : LC} {a1 : Int} {φ : Int × LC × LC → Prop} (h : Tm (fun k => B ≤ k) (fun k => Y3.t k aB aA aE aD a1) φ) {G : ι → Int → LC → LC → Option α} (hG : ∀ z0 z1 z2, φ (z0, z1, z2) → Tm ok (fun ι0 => G ι0 z0 z1 z2) ψ) : Tm ok (fun ι0 => Y3.f (p ι0) aB aA aE aD a1 (G ι0)) ψ := by
 obtain ⟨⟨z0, z1, z2⟩, h1, h2⟩ := h
 exact (hG z0 z1 z2 h1).congr fun i0 hi0 => Y3.f_of (h2 (p i0) (hp i0 hi0)) _
theorem YR.f_of {β : Type} {k : Nat} {aB : Int} {aA : LC} {a1 z0 : Int} {z1 : LC} (h : YR.t k aB aA a1 = some (z0, z1)) (K : Int → LC → Option β) : YR.f k aB aA a1 K = K z0 z1 := by
 unfold YR.f
 rw [h]
theorem YR.tm {ι α : Type} {ok : ι → Prop} {ψ : α → Prop} {p : ι → Nat} {B : Nat} (hp : ∀ i, ok i → B ≤ p i) {aB : Int} {aA : LC} {a1 : Int} {φ : Int × LC → Prop} (h : Tm (fun k => B ≤ k) (fun k => YR.t k aB aA a1) φ) {G : ι → Int → LC → Option α} (hG : ∀ z0 z1, φ (z0, z1) → Tm ok (fun ι0 => G ι0 z0 z1) ψ) : Tm ok (fun ι0 => YR.f (p ι0) aB aA a1 (G ι0)) ψ := by
 obtain ⟨⟨z0, z1⟩, h1, h2⟩ := h
 exact (hG z0 z1 h1).congr fun i0 hi0 => YR.f_of (h2 (p i0) (hp i0 hi0)) _
theorem Yj.f_of {β : Type} {k : Nat} {a0 : LD} {a1 z0 : Int} (h : Yj.t k a0 a1 = some z0) (K : Int → Option β) : Yj.f k a0 a1 K = K z0 := by
 unfold Yj.f
 rw [h]
set_option maxRecDepth 100000 in
set_option maxHeartbeats 8000000 in
theorem Yj.step {u : Int}  (h0 : 0 ≤ u)  (h1 : u + 1 ≤ 4611686018427387904) {k : Nat} (hk : Zar k) : HStep (fun xs L v => Yj.l0 k xs (fun z0 => some z0) L v) u [.str (Ye.v (u))] (u + 1) := by
 have hk0 : Zar k := hk
 intro xs i i0 i1 hl hr L
 simp (maxSteps := 4000000) (disch := first | assumption | omega) only [Yj.l0, dec_true i1, cond_true, cond_false, ZbB i0 i1, hr, uncons_at, dInt_self, dStr_at, dBool_at, dSl_at, atEnd_at, ZC, Ye.fv, Zi, bne_self_eq_false, beq_self_eq_true, Bool.not_true]
set_option maxRecDepth 100000 in
set_option maxHeartbeats 8000000 in
theorem Yh.T {B : Nat} (hB : B ≤ 1099511627776) {xs : LD} {n : Int} (g : Zm RS B xs) (h0 : 0 ≤ n) (h1 : n + ZE xs ≤ 4611686018427387904) : Tm Zar (fun k => Yh.t k (Zs xs) n) (fun z => ∃ ys, z.2 = Zs ys ∧ ys.length = xs.length ∧ z.1 = n + ZE xs ∧ ∀ k, Zar k → Yj.t k ys n = some z.1) := by
 have hb : big = 2 ^ 64 := rfl
 have hl := g.1
 have key : Tm Zar (fun k => Yh.t k (Zs xs) n) (fun z => ∃ ys, z.2 = Zs ys ∧ ys.length = xs.length ∧ z.1 = n + ZE xs ∧ HeldL (fun u r u' => ∀ k, Zar k → HStep (fun xs L v => Yj.l0 k xs (fun z0 => some z0) L v) u r u') n ys z.1) := by
  unfold Yh.t Yh.g
  refine Tm.loop (okk := Zar) (p := fun k => k) (fun i hi => hi) (b := fun k => Yh.l0 k (fun z0 z1 => some (z0, z1))) (fun v => match v with | (u, i, tab) => ((xs.length : Int) - i).toNat) (fun v => match v with | (u, i, tab) => 0 ≤ i ∧ i ≤ xs.length ∧ ∃ done : LD, done.length = i.toNat ∧ tab = Zs done ++ Zs (xs.drop i.toNat) ∧ u = n + ZE (xs.take i.toNat) ∧ HeldL (fun u r u' => ∀ k, Zar k → HStep (fun xs L v => Yj.l0 k xs (fun z0 => some z0) L v) u r u') n done u) ?_ ?_ ?_
  ·rintro ⟨u, i, tab⟩ hI
   simp only [] at hI ⊢
   omega
  ·exact ⟨by omega, by omega, [], rfl, by simp [Zs], by simp [ZE], .nil⟩
  ·rintro ⟨u, i, tab⟩ hI L hL
   simp only [] at hI
   obtain ⟨i0, i1, done, hd, rfl, hu, hH⟩ := hI
   have hA : (Zs done).length = i.toNat := by rw [deepRows_length, hd]
   have hT : (Zs done ++ Zs (xs.drop i.toNat)).length = xs.length := by rw [List.length_append, hA, deepRows_length, List.length_drop]; omega
   simp only [Yh.l0]
   refine Tm.ite (fun h4 => ?_) (fun h4 => ?_)
   ·simp only [decide_eq_true_eq, hT] at h4
    have hx := gR_at i0 h4
    obtain ⟨c0, e, k0, _⟩ := (g.2 _ (gR_mem i0 h4)).open
    rw [e] at hx
    have hdr := drop_at i0 hx
    have hw := Zb4 i0 hx
    simp only [Zbi, wtD] at hw
    have hs := wt_split xs (i + 1).toNat
    rw [hdr] at hT ⊢
    simp only [Zs, Zal, deepD] at hT ⊢
    have hT2 := hT
    simp only [List.length_append, List.length_cons] at hT2
    try simp (disch := omega) only [ZC]
    refine Ye.tm (fun i hi => hi.1) (Tm.at (ok := Zar) (v := Ye.v _) (fun k hk => Ye.tv (by omega) hk)) (fun y hy => ?_)
    subst hy
    refine Tm.guard (by first | decide | (simp only [List.length_modify, List.length_append, List.length_cons]; omega)) ?_
    refine Tm.guard (by first | decide | (simp only [List.length_modify, List.length_append, List.length_cons]; omega)) ?_
    try simp (disch := omega) only [ZC]
    try simp only [modify_mid hA, Z1, List.take_zero, List.take_succ_cons, List.drop_succ_cons, List.drop_zero, List.nil_append, List.cons_append, List.length_cons, List.length_nil, Nat.zero_add, Nat.reduceAdd, List.set_cons_succ, List.set_cons_zero]
    refine hL (_, _, _) ⟨by omega, by omega, done ++ [[.str (Ye.v (u))]], by simp only [List.length_append, List.length_cons, List.length_nil]; omega, ?_, by omega, HeldL.snoc hH (fun k hk => Yj.step (by omega) (by omega) hk)⟩ (by simp only []; omega)
    rw [Zcf]
    simp only [Zs, Zal, deepD, List.append_assoc, List.cons_append, List.nil_append]
   ·simp only [decide_eq_false_iff_not, hT] at h4
    refine Tm.ret ⟨done, ?_, by omega, ?_, hH⟩
    ·rw [List.drop_eq_nil_of_le (by omega)]
     simp only [Zs, List.append_nil]
    ·rw [List.take_of_length_le (by omega)] at hu
     exact hu
 obtain ⟨v, ⟨ys, e1, e2, e3, hH⟩, h2⟩ := key
 exact ⟨v, ⟨ys, e1, e2, e3, fun k hk => by
  have hk0 : Zar k := hk
  unfold Yj.t Yj.g
  exact held_run (b := fun xs L v => Yj.l0 k xs (fun z0 => some z0) L v) (by omega) (hH.mono fun _ _ _ h => h k hk) (by omega) (fun L => by simp [Yj.l0])⟩, h2⟩
theorem Yg.f_of {β : Type} {k : Nat} {a0 : LD} {a1 z0 : Int} (h : Yg.t k a0 a1 = some z0) (K : Int → Option β) : Yg.f k a0 a1 K = K z0 := by
 unfold Yg.f
 unfold Yg.w
 rw [h]
theorem Yg.step {N : Nat} {u : Int} {ys3 : LD} {n3 : Int} {ys4 : LD} {n4 : Int} (h0 : 0 ≤ u) (hn3 : u + 1 + 1 + 1 ≤ n3) (hh3 : ∀ k, Zar k → Yj.t k ys3 (u + 1 + 1 + 1) = some n3) (hn4 : n3 ≤ n4) (hh4 : ∀ k, N ≤ k → Yg.t k ys4 (n3) = some n4) (h1 : n4 ≤ 4611686018427387904) {k : Nat} (hk : N ≤ k) (hk0 : Zar k) : HStep (fun xs L v => Yg.l0 k (Yg.f k) xs (fun z0 => some z0) L v) u [.int .i64 (u), .str (Ye.v (u + 1)), .int .i64 (u + 1 + 1), .sl ys3, .sl ys4] (n4) := by
 intro xs i i0 i1 hl hr L
 simp (disch := first | assumption | omega) only [Yg.l0, dec_true i1, cond_true, cond_false, ZbB i0 i1, hr, uncons_at, dInt_self, dStr_at, dBool_at, dSl_at, atEnd_at, ZC, Ye.fv, Zi, bne_self_eq_false, beq_self_eq_true, Bool.not_true, Yj.f_of (hh3 k hk0), dec_false (show ¬ n3 < 0 by omega), Yg.f_of (hh4 k hk), dec_false (show ¬ n4 < 0 by omega)]
theorem markVal {B : Nat} (hB : B ≤ 1099511627776) (h : Nat) : ∀ {xs : LD} {n : Int}, xs.length ≤ B → (∀ r ∈ xs, Yap B h r) → 0 ≤ n → n + ZE xs ≤ 4611686018427387904 → Tm (fun k => big + h + 1 ≤ k) (fun k => Yf.t k (Zs xs) n) (fun z => ∃ ys, z.2 = Zs ys ∧ ys.length = xs.length ∧ z.1 = n + ZE xs ∧ ∀ k, big + h + 1 ≤ k → Yg.t k ys n = some z.1) := by
 have hb : big = 2 ^ 64 := rfl
 induction h using Nat.strongRecOn with
 | ind h ih =>
 intro xs n hl g h0 h1
 have key : Tm (fun k => big + h ≤ k) (fun k => Yf.g k (Zs xs) n (fun z0 z1 => some (z0, z1))) (fun z => ∃ ys, z.2 = Zs ys ∧ ys.length = xs.length ∧ z.1 = n + ZE xs ∧ HeldL (fun u r u' => ∀ k, big + h ≤ k → HStep (fun xs L v => Yg.l0 k (Yg.f k) xs (fun z0 => some z0) L v) u r u') n ys z.1) := by
  unfold Yf.g Yf.body
  refine Tm.loop (okk := fun k => big + h ≤ k) (p := fun k => k) (fun i hi => by omega) (b := fun k => Yf.l0 k (Yf.f k) (fun z0 z1 => some (z0, z1))) (fun v => match v with | (u, i, tab) => ((xs.length : Int) - i).toNat) (fun v => match v with | (u, i, tab) => 0 ≤ i ∧ i ≤ xs.length ∧ ∃ done : LD, done.length = i.toNat ∧ tab = Zs done ++ Zs (xs.drop i.toNat) ∧ u = n + ZE (xs.take i.toNat) ∧ HeldL (fun u r u' => ∀ k, big + h ≤ k → HStep (fun xs L v => Yg.l0 k (Yg.f k) xs (fun z0 => some z0) L v) u r u') n done u) ?_ ?_ ?_
  ·rintro ⟨u, i, tab⟩ hI
   simp only [] at hI ⊢
   omega
  ·exact ⟨by omega, by omega, [], rfl, by simp [Zs], by simp [ZE], .nil⟩
  ·rintro ⟨u, i, tab⟩ hI L hL
   simp only [] at hI
   obtain ⟨i0, i1, done, hd, rfl, hu, hH⟩ := hI
   have hA : (Zs done).length = i.toNat := by rw [deepRows_length, hd]
   have hT : (Zs done ++ Zs (xs.drop i.toNat)).length = xs.length := by rw [List.length_append, hA, deepRows_length, List.length_drop]; omega
   simp only [Yf.l0]
   refine Tm.ite (fun h4 => ?_) (fun h4 => ?_)
   ·simp only [decide_eq_true_eq, hT] at h4
    have hx := gR_at i0 h4
    obtain ⟨h', hh', c0, c1, c2, c3, c4, e, k3, l4, k4⟩ : ∃ h', h = h' + 1 ∧ ∃ c0 c1 c2 c3 c4, gR xs i = [.int .i64 c0, .str c1, .int .i64 c2, .sl c3, .sl c4] ∧ Zm RS B c3 ∧ c4.length ≤ B ∧ ∀ r ∈ c4, Yap B h' r := by
     have := g _ (gR_mem i0 h4)
     generalize gR xs i = r at this
     cases this with
     | mk c0 c1 c2 c3 c4 w0 g1 w2 g3 l4 g4 => exact ⟨_, rfl, _, _, _, _, _, rfl, g3, l4, g4⟩
    rw [e] at hx
    have hdr := drop_at i0 hx
    have hw := Zb4 i0 hx
    simp only [Zbi, wtD] at hw
    have hs := wt_split xs (i + 1).toNat
    rw [hdr] at hT ⊢
    simp only [Zs, Zal, deepD] at hT ⊢
    have hT2 := hT
    simp only [List.length_append, List.length_cons] at hT2
    refine Tm.guard (by first | decide | (simp only [List.length_modify, List.length_append, List.length_cons]; omega)) ?_
    refine Tm.guard (by first | decide | (simp only [List.length_modify, List.length_append, List.length_cons]; omega)) ?_
    try simp (disch := omega) only [ZC]
    refine Ye.tm (B := big) (fun i hi => by have := hi.1; omega) (Tm.at (ok := Zar) (v := Ye.v _) (fun k hk => Ye.tv (by omega) hk)) (fun y hy => ?_)
    subst hy
    refine Tm.guard (by first | decide | (simp only [List.length_modify, List.length_append, List.length_cons]; omega)) ?_
    refine Tm.guard (by first | decide | (simp only [List.length_modify, List.length_append, List.length_cons]; omega)) ?_
    refine Tm.guard (by first | decide | (simp only [List.length_modify, List.length_append, List.length_cons]; omega)) ?_
    refine Tm.guard (by first | decide | (simp only [List.length_modify, List.length_append, List.length_cons]; omega)) ?_
    refine Tm.guard (by first | decide | (simp only [List.length_modify, List.length_append, List.length_cons]; omega)) ?_
    try simp only [modify_mid hA, atNat_mid hA, Z1, List.take_zero, List.take_succ_cons, List.drop_succ_cons, List.drop_zero, List.nil_append, List.cons_append, List.length_cons, List.length_nil, Nat.zero_add, Nat.reduceAdd, List.set_cons_succ, List.set_cons_zero]
    refine Tm.uncons ?_
    refine Tm.cOwn ?_
    try simp (disch := omega) only [ZC]
    refine Yh.tm (B := big) (fun i hi => by have := hi.1; omega) (Yh.T hB k3 (by omega) (by omega)) (fun y3 t3 hy => ?_)
    obtain ⟨ys3, et3, el3, en3, hh3⟩ := hy
    simp only [] at et3 en3 hh3
    subst et3 en3
    refine Tm.guard (by first | decide | (simp only [List.length_modify, List.length_append, List.length_cons]; omega)) ?_
    try simp only [modify_mid hA, atNat_mid hA, Z1, List.take_zero, List.take_succ_cons, List.drop_succ_cons, List.drop_zero, List.nil_append, List.cons_append, List.length_cons, List.length_nil, Nat.zero_add, Nat.reduceAdd, List.set_cons_succ, List.set_cons_zero]
    refine Tm.uncons ?_
    refine Tm.cOwn ?_
    try simp (disch := omega) only [ZC]
    refine Yf.tm (B := big + h' + 1) (fun i hi => by have := hi.1; omega) (ih h' (by omega) l4 k4 (by omega) (by omega)) (fun y4 t4 hy => ?_)
    obtain ⟨ys4, et4, el4, en4, hh4⟩ := hy
    simp only [] at et4 en4 hh4
    subst et4 en4
    try simp (disch := omega) only [ZC]
    try simp only [modify_mid hA, Z1, List.take_zero, List.take_succ_cons, List.drop_succ_cons, List.drop_zero, List.nil_append, List.cons_append, List.length_cons, List.length_nil, Nat.zero_add, Nat.reduceAdd, List.set_cons_succ, List.set_cons_zero]
    refine hL (_, _, _) ⟨by omega, by omega, done ++ [[.int .i64 (u), .str (Ye.v (u + 1)), .int .i64 (u + 1 + 1), .sl ys3, .sl ys4]], by simp only [List.length_append, List.length_cons, List.length_nil]; omega, ?_, by omega, HeldL.snoc hH (fun k hk => Yg.step (by omega) (by omega) hh3 (by omega) hh4 (by omega) (by omega) (by unfold Zar; omega))⟩ (by simp only []; omega)
    rw [Zcf]
    simp only [Zs, Zal, deepD, List.append_assoc, List.cons_append, List.nil_append]
   ·simp only [decide_eq_false_iff_not, hT] at h4
    refine Tm.ret ⟨done, ?_, by omega, ?_, hH⟩
    ·rw [List.drop_eq_nil_of_le (by omega)]
     simp only [Zs, List.append_nil]
    ·rw [List.take_of_length_le (by omega)] at hu
     exact hu
 refine Tm.succ (g := fun k => Yf.g k (Zs xs) n (fun z0 z1 => some (z0, z1))) (fun k => Yf.t_succ k (Zs xs) n) ?_
 refine key.mono fun z hz => ?_
 obtain ⟨ys, e1, e2, e3, hH⟩ := hz
 refine ⟨ys, e1, e2, e3, fun k hk => ?_⟩
 cases k with
 | zero => omega
 | succ k =>
  rw [Yg.t_succ]
  unfold Yg.g Yg.body
  exact held_run (b := fun xs L v => Yg.l0 k (Yg.f k) xs (fun z0 => some z0) L v) (by omega) (hH.mono fun _ _ _ h => h k (by omega)) (by omega) (fun L => by simp [Yg.l0])
theorem Yf.T {B : Nat} (hB : B ≤ 1099511627776) {xs : LD} {n : Int} (g : Zm YQ B xs) (h0 : 0 ≤ n) (h1 : n + ZE xs ≤ 4611686018427387904) : Tm (Zay 1) (fun k => Yf.t k (Zs xs) n) (fun z => ∃ ys, z.2 = Zs ys ∧ ys.length = xs.length ∧ z.1 = n + ZE xs ∧ ∀ k, (Zay 1) k → Yg.t k ys n = some z.1) := by
 have hb : big = 2 ^ 64 := rfl
 have h2 : lv 1 = 2 ^ 65 := rfl
 obtain ⟨H, hH⟩ : ∃ H : Nat, H = 1099511627776 := ⟨_, rfl⟩
 have g' : ∀ x ∈ xs, Yap B H x := fun x hx => by
  obtain ⟨h, hh, hx⟩ := g.2 x hx
  exact hx.mono (by have := hh hB; omega)
 have hN : big + H + 1 ≤ lv 1 := by omega
 refine ((markVal hB H g.1 g' h0 h1).up hN).mono fun z hz => ?_
 obtain ⟨ys, e1, e2, e3, hh⟩ := hz
 exact ⟨ys, e1, e2, e3, fun k hk => hh k (Nat.le_trans hN hk)⟩
theorem YE.f_of {β : Type} {k : Nat} {a0 : LD} {a1 z0 : Int} (h : YE.t k a0 a1 = some z0) (K : Int → Option β) : YE.f k a0 a1 K = K z0 := by
 unfold YE.f
 rw [h]
set_option maxRecDepth 100000 in
set_option maxHeartbeats 8000000 in
theorem YE.step {u : Int} {ys6 : LD} {n6 : Int} {ys10 : LD} {n10 : Int} {ys11 : LD} {n11 : Int} {ys15 : LD} {n15 : Int} {ys16 : LD} {n16 : Int} (h0 : 0 ≤ u) (hn6 : u + 1 + 1 + 1 + 1 + 1 + 1 ≤ n6) (hh6 : ∀ k, Zar k → Yj.t k ys6 (u + 1 + 1 + 1 + 1 + 1 + 1) = some n6) (hn10 : n6 + 1 + 1 + 1 ≤ n10) (hh10 : ∀ k, Zar k → Yj.t k ys10 (n6 + 1 + 1 + 1) = some n10) (hn11 : n10 ≤ n11) (hh11 : ∀ k, (Zay 1) k → Yg.t k ys11 (n10) = some n11) (hn15 : n11 + 1 + 1 + 1 ≤ n15) (hh15 : ∀ k, Zar k → Yj.t k ys15 (n11 + 1 + 1 + 1) = some n15) (hn16 : n15 ≤ n16) (hh16 : ∀ k, (Zay 1) k → Yg.t k ys16 (n15) = some n16) (h1 : n16 ≤ 4611686018427387904) {k : Nat} (hk : (Zay 1) k) : HStep (fun xs L v => YE.l0 k xs (fun z0 => some z0) L v) u [.int .i64 (u), .str (Ye.v (u + 1)), .int .i64 (u + 1 + 1), .int .i64 (u + 1 + 1 + 1), .int .i64 (u + 1 + 1 + 1 + 1), .bool (Int.tmod (u + 1 + 1 + 1 + 1 + 1) 3 == 0), .sl ys6, .int .i64 (n6), .str (Ye.v (n6 + 1)), .int .i64 (n6 + 1 + 1), .sl ys10, .sl ys11, .int .i64 (n11), .str (Ye.v (n11 + 1)), .int .i64 (n11 + 1 + 1), .sl ys15, .sl ys16] (n16) := by
 have hk0 : Zar k := up0 hk
 intro xs i i0 i1 hl hr L
 simp (maxSteps := 4000000) (disch := first | assumption | omega) only [YE.l0, dec_true i1, cond_true, cond_false, ZbB i0 i1, hr, uncons_at, dInt_self, dStr_at, dBool_at, dSl_at, atEnd_at, ZC, Ye.fv, Zi, bne_self_eq_false, beq_self_eq_true, Bool.not_true, guard_at (show (3 : Int) ≠ 0 by decide), Yj.f_of (hh6 k (up0 hk)), dec_false (show ¬ n6 < 0 by omega), Yj.f_of (hh10 k (up0 hk)), dec_false (show ¬ n10 < 0 by omega), Yg.f_of (hh11 k hk), dec_false (show ¬ n11 < 0 by omega), Yj.f_of (hh15 k (up0 hk)), dec_false (show ¬ n15 < 0 by omega), Yg.f_of (hh16 k hk), dec_false (show ¬ n16 < 0 by omega)]
set_option maxRecDepth 100000 in
set_option maxHeartbeats 8000000 in
theorem YA.T {B : Nat} (hB : B ≤ 1099511627776) {xs : LD} {n : Int} (g : Zm Yb B xs) (h0 : 0 ≤ n) (h1 : n + ZE xs ≤ 4611686018427387904) : Tm (Zay 1) (fun k => YA.t k (Zs xs) n) (fun z => ∃ ys, z.2 = Zs ys ∧ ys.length = xs.length ∧ z.1 = n + ZE xs ∧ ∀ k, (Zay 1) k → YE.t k ys n = some z.1) := by
 have hb : big = 2 ^ 64 := rfl
 have hl := g.1
 have key : Tm (Zay 1) (fun k => YA.t k (Zs xs) n) (fun z => ∃ ys, z.2 = Zs ys ∧ ys.length = xs.length ∧ z.1 = n + ZE xs ∧ HeldL (fun u r u' => ∀ k, (Zay 1) k → HStep (fun xs L v => YE.l0 k xs (fun z0 => some z0) L v) u r u') n ys z.1) := by
  unfold YA.t YA.g
  refine Tm.loop (okk := (Zay 1)) (p := fun k => k) (fun i hi => up0 hi) (b := fun k => YA.l0 k (fun z0 z1 => some (z0, z1))) (fun v => match v with | (u, i, tab) => ((xs.length : Int) - i).toNat) (fun v => match v with | (u, i, tab) => 0 ≤ i ∧ i ≤ xs.length ∧ ∃ done : LD, done.length = i.toNat ∧ tab = Zs done ++ Zs (xs.drop i.toNat) ∧ u = n + ZE (xs.take i.toNat) ∧ HeldL (fun u r u' => ∀ k, (Zay 1) k → HStep (fun xs L v => YE.l0 k xs (fun z0 => some z0) L v) u r u') n done u) ?_ ?_ ?_
  ·rintro ⟨u, i, tab⟩ hI
   simp only [] at hI ⊢
   omega
  ·exact ⟨by omega, by omega, [], rfl, by simp [Zs], by simp [ZE], .nil⟩
  ·rintro ⟨u, i, tab⟩ hI L hL
   simp only [] at hI
   obtain ⟨i0, i1, done, hd, rfl, hu, hH⟩ := hI
   have hA : (Zs done).length = i.toNat := by rw [deepRows_length, hd]
   have hT : (Zs done ++ Zs (xs.drop i.toNat)).length = xs.length := by rw [List.length_append, hA, deepRows_length, List.length_drop]; omega
   simp only [YA.l0]
   refine Tm.ite (fun h4 => ?_) (fun h4 => ?_)
   ·simp only [decide_eq_true_eq, hT] at h4
    have hx := gR_at i0 h4
    obtain ⟨c0, c1, c2, c3, c4, c5, c6, c7, c8, c9, c10, c11, c12, c13, c14, c15, c16, e, k0, k1, k2, k3, k4, k6, k7, k8, k9, k10, k11, k12, k13, k14, k15, k16, _⟩ := (g.2 _ (gR_mem i0 h4)).open
    rw [e] at hx
    have hdr := drop_at i0 hx
    have hw := Zb4 i0 hx
    simp only [Zbi, wtD] at hw
    have hs := wt_split xs (i + 1).toNat
    rw [hdr] at hT ⊢
    simp only [Zs, Zal, deepD] at hT ⊢
    have hT2 := hT
    simp only [List.length_append, List.length_cons] at hT2
    refine Tm.guard (by first | decide | (simp only [List.length_modify, List.length_append, List.length_cons]; omega)) ?_
    refine Tm.guard (by first | decide | (simp only [List.length_modify, List.length_append, List.length_cons]; omega)) ?_
    try simp (disch := omega) only [ZC]
    refine Ye.tm (fun i hi => up0 hi.1) (Tm.at (ok := Zar) (v := Ye.v _) (fun k hk => Ye.tv (by omega) hk)) (fun y hy => ?_)
    subst hy
    refine Tm.guard (by first | decide | (simp only [List.length_modify, List.length_append, List.length_cons]; omega)) ?_
    refine Tm.guard (by first | decide | (simp only [List.length_modify, List.length_append, List.length_cons]; omega)) ?_
    refine Tm.guard (by first | decide | (simp only [List.length_modify, List.length_append, List.length_cons]; omega)) ?_
    refine Tm.guard (by first | decide | (simp only [List.length_modify, List.length_append, List.length_cons]; omega)) ?_
    refine Tm.guard (by first | decide | (simp only [List.length_modify, List.length_append, List.length_cons]; omega)) ?_
    refine Tm.guard (by first | decide | (simp only [List.length_modify, List.length_append, List.length_cons]; omega)) ?_
    refine Tm.guard (by first | decide | (simp only [List.length_modify, List.length_append, List.length_cons]; omega)) ?_
    refine Tm.guard (by first | decide | (simp only [List.length_modify, List.length_append, List.length_cons]; omega)) ?_
    refine Tm.guard (by first | decide | (simp only [List.length_modify, List.length_append, List.length_cons]; omega)) ?_
    refine Tm.guard (by first | decide | (simp only [List.length_modify, List.length_append, List.length_cons]; omega)) ?_
    refine Tm.guard (by first | decide | (simp only [List.length_modify, List.length_append, List.length_cons]; omega)) ?_
    refine Tm.guard (by first | decide | (simp only [List.length_modify, List.length_append, List.length_cons]; omega)) ?_
    try simp only [modify_mid hA, atNat_mid hA, Z1, List.take_zero, List.take_succ_cons, List.drop_succ_cons, List.drop_zero, List.nil_append, List.cons_append, List.length_cons, List.length_nil, Nat.zero_add, Nat.reduceAdd, List.set_cons_succ, List.set_cons_zero]
    refine Tm.uncons ?_
    refine Tm.cOwn ?_
    try simp (disch := omega) only [ZC]
    refine Yh.tm (fun i hi => up0 hi.1) (Yh.T hB k6 (by omega) (by omega)) (fun y6 t6 hy => ?_)
    obtain ⟨ys6, et6, el6, en6, hh6⟩ := hy
    simp only [] at et6 en6 hh6
    subst et6 en6
    refine Tm.guard (by first | decide | (simp only [List.length_modify, List.length_append, List.length_cons]; omega)) ?_
    refine Tm.guard (by first | decide | (simp only [List.length_modify, List.length_append, List.length_cons]; omega)) ?_
    try simp (disch := omega) only [ZC]
    refine Ye.tm (fun i hi => up0 hi.1) (Tm.at (ok := Zar) (v := Ye.v _) (fun k hk => Ye.tv (by omega) hk)) (fun y hy => ?_)
    subst hy
    refine Tm.guard (by first | decide | (simp only [List.length_modify, List.length_append, List.length_cons]; omega)) ?_
    refine Tm.guard (by first | decide | (simp only [List.length_modify, List.length_append, List.length_cons]; omega)) ?_
    refine Tm.guard (by first | decide | (simp only [List.length_modify, List.length_append, List.length_cons]; omega)) ?_
    refine Tm.guard (by first | decide | (simp only [List.length_modify, List.length_append, List.length_cons]; omega)) ?_
    refine Tm.guard (by first | decide | (simp only [List.length_modify, List.length_append, List.length_cons]; omega)) ?_
    try simp only [modify_mid hA, atNat_mid hA, Z1, List.take_zero, List.take_succ_cons, List.drop_succ_cons, List.drop_zero, List.nil_append, List.cons_append, List.length_cons, List.length_nil, Nat.zero_add, Nat.reduceAdd, List.set_cons_succ, List.set_cons_zero]
    refine Tm.uncons ?_
    refine Tm.cOwn ?_
    try simp (disch := omega) only [ZC]
    refine Yh.tm (fun i hi => up0 hi.1) (Yh.T hB k10 (by omega) (by omega)) (fun y10 t10 hy => ?_)
    obtain ⟨ys10, et10, el10, en10, hh10⟩ := hy
    simp only [] at et10 en10 hh10
    subst et10 en10
    refine Tm.guard (by first | decide | (simp only [List.length_modify, List.length_append, List.length_cons]; omega)) ?_
    try simp only [modify_mid hA, atNat_mid hA, Z1, List.take_zero, List.take_succ_cons, List.drop_succ_cons, List.drop_zero, List.nil_append, List.cons_append, List.length_cons, List.length_nil, Nat.zero_add, Nat.reduceAdd, List.set_cons_succ, List.set_cons_zero]
    refine Tm.uncons ?_
    refine Tm.cOwn ?_
    try simp (disch := omega) only [ZC]
    refine Yf.tm (fun i hi => hi.1) (Yf.T hB k11 (by omega) (by omega)) (fun y11 t11 hy => ?_)
    obtain ⟨ys11, et11, el11, en11, hh11⟩ := hy
    simp only [] at et11 en11 hh11
    subst et11 en11
    refine Tm.guard (by first | decide | (simp only [List.length_modify, List.length_append, List.length_cons]; omega)) ?_
    refine Tm.guard (by first | decide | (simp only [List.length_modify, List.length_append, List.length_cons]; omega)) ?_
    try simp (disch := omega) only [ZC]
    refine Ye.tm (fun i hi => up0 hi.1) (Tm.at (ok := Zar) (v := Ye.v _) (fun k hk => Ye.tv (by omega) hk)) (fun y hy => ?_)
    subst hy
    refine Tm.guard (by first | decide | (simp only [List.length_modify, List.length_append, List.length_cons]; omega)) ?_
    refine Tm.guard (by first | decide | (simp only [List.length_modify, List.length_append, List.length_cons]; omega)) ?_
    refine Tm.guard (by first | decide | (simp only [List.length_modify, List.length_append, List.length_cons]; omega)) ?_
    refine Tm.guard (by first | decide | (simp only [List.length_modify, List.length_append, List.length_cons]; omega)) ?_
    refine Tm.guard (by first | decide | (simp only [List.length_modify, List.length_append, List.length_cons]; omega)) ?_
    try simp only [modify_mid hA, atNat_mid hA, Z1, List.take_zero, List.take_succ_cons, List.drop_succ_cons, List.drop_zero, List.nil_append, List.cons_append, List.length_cons, List.length_nil, Nat.zero_add, Nat.reduceAdd, List.set_cons_succ, List.set_cons_zero]
    refine Tm.uncons ?_
    refine Tm.cOwn ?_
    try simp (disch := omega) only [ZC]
    refine Yh.tm (fun i hi => up0 hi.1) (Yh.T hB k15 (by omega) (by omega)) (fun y15 t15 hy => ?_)
    obtain ⟨ys15, et15, el15, en15, hh15⟩ := hy
    simp only [] at et15 en15 hh15
    subst et15 en15
    refine Tm.guard (by first | decide | (simp only [List.length_modify, List.length_append, List.length_cons]; omega)) ?_
    try simp only [modify_mid hA, atNat_mid hA, Z1, List.take_zero, List.take_succ_cons, List.drop_succ_cons, List.drop_zero, List.nil_append, List.cons_append, List.length_cons, List.length_nil, Nat.zero_add, Nat.reduceAdd, List.set_cons_succ, List.set_cons_zero]
    refine Tm.uncons ?_
    refine Tm.cOwn ?_
    try simp (disch := omega) only [ZC]
    refine Yf.tm (fun i hi => hi.1) (Yf.T hB k16 (by omega) (by omega)) (fun y16 t16 hy => ?_)
    obtain ⟨ys16, et16, el16, en16, hh16⟩ := hy
    simp only [] at et16 en16 hh16
    subst et16 en16
    try simp (disch := omega) only [ZC]
    try simp only [modify_mid hA, Z1, List.take_zero, List.take_succ_cons, List.drop_succ_cons, List.drop_zero, List.nil_append, List.cons_append, List.length_cons, List.length_nil, Nat.zero_add, Nat.reduceAdd, List.set_cons_succ, List.set_cons_zero]
    refine hL (_, _, _) ⟨by omega, by omega, done ++ [[.int .i64 (u), .str (Ye.v (u + 1)), .int .i64 (u + 1 + 1), .int .i64 (u + 1 + 1 + 1), .int .i64 (u + 1 + 1 + 1 + 1), .bool (Int.tmod (u + 1 + 1 + 1 + 1 + 1) 3 == 0), .sl ys6, .int .i64 (u + 1 + 1 + 1 + 1 + 1 + 1 + (ZE c6 : Int)), .str (Ye.v (u + 1 + 1 + 1 + 1 + 1 + 1 + (ZE c6 : Int) + 1)), .int .i64 (u + 1 + 1 + 1 + 1 + 1 + 1 + (ZE c6 : Int) + 1 + 1), .sl ys10, .sl ys11, .int .i64 (u + 1 + 1 + 1 + 1 + 1 + 1 + (ZE c6 : Int) + 1 + 1 + 1 + (ZE c10 : Int) + (ZE c11 : Int)), .str (Ye.v (u + 1 + 1 + 1 + 1 + 1 + 1 + (ZE c6 : Int) + 1 + 1 + 1 + (ZE c10 : Int) + (ZE c11 : Int) + 1)), .int .i64 (u + 1 + 1 + 1 + 1 + 1 + 1 + (ZE c6 : Int) + 1 + 1 + 1 + (ZE c10 : Int) + (ZE c11 : Int) + 1 + 1), .sl ys15, .sl ys16]], by simp only [List.length_append, List.length_cons, List.length_nil]; omega, ?_, by omega, HeldL.snoc hH (fun k hk => YE.step (by omega) (by omega) hh6 (by omega) hh10 (by omega) hh11 (by omega) hh15 (by omega) hh16 (by omega) hk)⟩ (by simp only []; omega)
    rw [Zcf]
    simp only [Zs, Zal, deepD, List.append_assoc, List.cons_append, List.nil_append]
   ·simp only [decide_eq_false_iff_not, hT] at h4
    refine Tm.ret ⟨done, ?_, by omega, ?_, hH⟩
    ·rw [List.drop_eq_nil_of_le (by omega)]
     simp only [Zs, List.append_nil]
    ·rw [List.take_of_length_le (by omega)] at hu
     exact hu
 obtain ⟨v, ⟨ys, e1, e2, e3, hH⟩, h2⟩ := key
 exact ⟨v, ⟨ys, e1, e2, e3, fun k hk => by
  have hk0 : Zar k := up0 hk
  unfold YE.t YE.g
  exact held_run (b := fun xs L v => YE.l0 k xs (fun z0 => some z0) L v) (by omega) (hH.mono fun _ _ _ h => h k hk) (by omega) (fun L => by simp [YE.l0])⟩, h2⟩
theorem YX.f_of {β : Type} {k : Nat} {aB : Int} {aA : LD} {a1 z0 : Int} (h : YX.t k aB aA a1 = some z0) (K : Int → Option β) : YX.f k aB aA a1 K = K z0 := by
 unfold YX.f
 rw [h]
theorem YX.tm {ι α : Type} {ok : ι → Prop} {ψ : α → Prop} {p : ι → Nat} {B : Nat} (hp : ∀ i, ok i → B ≤ p i) {aB : Int} {aA : LD} {a1 : Int} {φ : Int → Prop} (h : Tm (fun k => B ≤ k) (fun k => YX.t k aB aA a1) φ) {G : ι → Int → Option α} (hG : ∀ z0, φ z0 → Tm ok (fun ι0 => G ι0 z0) ψ) : Tm ok (fun ι0 => YX.f (p ι0) aB aA a1 (G ι0)) ψ := by
 obtain ⟨z0, h1, h2⟩ := h
 exact (hG z0 h1).congr fun i0 hi0 => YX.f_of (h2 (p i0) (hp i0 hi0)) _
set_option maxRecDepth 100000 in
set_option maxHeartbeats 8000000 in
theorem YR.T {B : Nat} (hB : B ≤ 1099511627776) {c0 : Int} {a1 : LD} {n : Int} (g1 : Zm Yb B a1) (h0 : 0 ≤ n) (h1 : n + ZE a1 ≤ 4611686018427387904) : Tm (Zay 1) (fun k => YR.t k c0 (Zs a1) n) (fun z => ∃ ys1, z.1 = n + ZE a1 ∧ z.2 = Zs ys1 ∧ ys1.length = a1.length ∧ ∀ k, (Zay 1) k → YX.t k c0 ys1 n = some z.1) := by
 unfold YR.t YR.g
 refine YA.tm (fun i hi => hi) (YA.T hB g1 (by omega) (by omega)) (fun y1 t1 hy => ?_)
 obtain ⟨ys1, et1, el1, en1, hh1⟩ := hy
 simp only [] at et1 en1 hh1
 subst et1 en1
 try refine Tm.guard (by rw [deepRows_length, deepRows_length]; exact el1) ?_
 exact Tm.ret ⟨ys1, rfl, rfl, el1, fun k hk => by
  unfold YX.t YX.g
  rw [YE.f_of (hh1 k hk)]; simp only [dec_false (show ¬ (n + (ZE a1 : Int)) < 0 by omega), cond_false]⟩
end Go.Proofs.Ytljkbknnnpjmgaa
