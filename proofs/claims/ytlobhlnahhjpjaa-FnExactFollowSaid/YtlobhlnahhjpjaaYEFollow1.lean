/- Printed, and by hand: the functions that FnExactFollow reaches come to their end; the program's answer as the reference's. -/
import Derived.Test.YtlobhlnahhjpjaaYEFollow0
import Derived.KernelRfl
set_option linter.unusedVariables false
set_option linter.unusedSimpArgs false
namespace Go.Proofs.Ytlobhlnahhjpjaa
open Go Go.T Go.Proofs
theorem YaV : ∀ r : List D, (ZZ r).length = r.length
 | [] => by simp only [ZZ, List.length_nil]
 | d :: r => by simp only [ZZ, List.length_cons, YaV r]
theorem deepRows_mod {f : List C → List C} {o : List D} : ∀ {l : LD} {i : Nat}, i < l.length → (∀ r, l[i]? = some r → f (ZZ r) = ZZ o) → (Zb l).modify i f = Zb (l.take i ++ o :: l.drop (i + 1))
 | [], i, h, _ => absurd h (by simp)
 | r :: xs, 0, _, h2 => by
  simp only [Zb, List.modify_zero_cons, List.take_zero, List.nil_append, List.drop_succ_cons, List.drop_zero]
  rw [h2 r rfl]
 | r :: xs, i + 1, h1, h2 => by
  simp only [Zb, List.modify_succ_cons, List.take_succ_cons, List.cons_append, List.drop_succ_cons]
  rw [deepRows_mod (by simpa using h1) fun x hx => h2 x (by simpa using hx)]
theorem YaT : ∀ {l : LD} {i : Nat}, (Zb l).take i = Zb (l.take i)
 | [], i => by simp only [Zb, List.take_nil]
 | _ :: _, 0 => by simp only [Zb, List.take_zero]
 | r :: xs, i + 1 => by simp only [Zb, List.take_succ_cons, YaT]
theorem YaU : ∀ {l : LD} {i : Nat}, (Zb l).drop i = Zb (l.drop i)
 | [], i => by simp only [Zb, List.drop_nil]
 | _ :: _, 0 => by simp only [Zb, List.drop_zero]
 | r :: xs, i + 1 => by simp only [Zb, List.drop_succ_cons, YaU]
theorem splice_full {α : Type} {c n : List α} (h : c.length = n.length) : Zq c 0 n = n := by
 unfold Zq
 rw [List.take_zero, List.nil_append, Nat.zero_add, List.drop_eq_nil_of_le (by omega), List.append_nil]
set_option maxRecDepth 100000 in
set_option maxHeartbeats 4000000 in
theorem placed_fv {l : LD} (g : Zi Ya lim l) (ha : AscO l) {x0 : Int} {x1 : BA} {x2 x3 x4 : Int} {x5 : Bool} {x6 : LD} {x7 : Int} {x8 : BA} {x9 : Int} {x10 x11 : LD} {x12 : Int} {x13 : BA} {x14 : Int} {x15 x16 : LD} (g6 : Zi RS lim x6) (g10 : Zi RS lim x10) (g11 : Zi Yo lim x11) (g15 : Zi RS lim x15) (g16 : Zi Yo lim x16) {k : Nat} (hk : ZF 1 k) {β : Type} (K : LC → Option β) :
  Yax.f k (Zb l) x0 x1 x2 x3 x4 x5 x6 x7 x8 x9 x10 x11 x12 x13 x14 x15 x16 K = K (Zb (YaD Yaw YaH [.int .i64 x0, .str x1, .int .i64 x2, .int .i64 x3, .int .i64 x4, .bool x5, .sl x6, .int .i64 x7, .str x8, .int .i64 x9, .sl x10, .sl x11, .int .i64 x12, .str x13, .int .i64 x14, .sl x15, .sl x16] [.int .i64 x0, .str x1, .int .i64 x2, .int .i64 x3, .int .i64 x4, .bool x5, .sl x6, .int .i64 x7, .str x8, .int .i64 x9, .sl x10, .sl x11, .int .i64 x12, .str x13, .int .i64 x14, .sl x15, .sl x16] false l)) := Yax.f_of (by
 have hlim : lim = 1048576 := rfl
 have hm : ZN = 2 ^ 36 := rfl
 have hl := g.1
 have hdl := Zw l
 generalize ho : ([.int .i64 x0, .str x1, .int .i64 x2, .int .i64 x3, .int .i64 x4, .bool x5, .sl x6, .int .i64 x7, .str x8, .int .i64 x9, .sl x10, .sl x11, .int .i64 x12, .str x13, .int .i64 x14, .sl x15, .sl x16] : List D) = o
 have hc : ([.d (.int .i64 x0), .d (.str x1), .d (.int .i64 x2), .d (.int .i64 x3), .d (.int .i64 x4), .d (.bool x5), .own (Zb x6), .d (.int .i64 x7), .d (.str x8), .d (.int .i64 x9), .own (Zb x10), .own (Zb x11), .d (.int .i64 x12), .d (.str x13), .d (.int .i64 x14), .own (Zb x15), .own (Zb x16)] : List C) = ZZ o := by
  rw [← ho]; simp only [ZZ, ZbW]
 have hol : o.length = 17 := by rw [← ho]; rfl
 have hle : lbF Yaw o l ≤ l.length := (List.takeWhile_sublist _).length_le
 unfold Yax.t Yax.g
 rw [ZO, binObj_fv g ha (o := o) (by rw [← ho]; rfl) (by rw [← ho]; rfl) (up0 hk), withF_eq orderR ha]
 cases hh : hitF Yaw YaH o l with
 | true =>
  have hlt : lbF Yaw o l < l.length := by
   rcases Nat.lt_or_ge (lbF Yaw o l) l.length with q | q
   ·exact q
   ·unfold hitF at hh
    rw [List.getElem?_eq_none q] at hh
    cases hh
  rw [cond_true, copyObj_fv g6 g10 g11 g15 g16 hk, ZaP (by omega), ZaP (by omega), hc, Int.toNat_natCast, if_pos rfl]
  refine congrArg some (deepRows_mod hlt fun r hr => splice_full ?_)
  obtain ⟨hrow, -⟩ := Ya.gets g.2 (v := (lbF Yaw o l : Int)) (by omega) (by omega)
  rw [gR_lt hlt] at hrow
  rw [List.getElem?_eq_getElem hlt] at hr
  injection hr with hr
  rw [YaV, YaV, hol, ← hr, hrow]
  rfl
 | false =>
  rw [cond_false, copyObj_fv g6 g10 g11 g15 g16 hk]
  unfold YC.f YC.t
  rw [ZaP (by simp only [List.length_singleton]; omega), hc, Int.toNat_natCast, if_neg (by decide), Nat.add_zero, YaT, YaU]
  simp only [Zai, Zb, List.append_assoc, List.cons_append, List.nil_append]) K
theorem Yav.f_of {β : Type} {k aB aA aG aE aF aV aO aS aK aT aL aP aQ aM aU aN aR f0_0 f1_0 z0} (h : Yav.t k aB aA aG aE aF aV aO aS aK aT aL aP aQ aM aU aN aR f0_0 f1_0 = some z0) (K : Bool → Option β) : Yav.f k aB aA aG aE aF aV aO aS aK aT aL aP aQ aM aU aN aR f0_0 f1_0 K = K z0 := by unfold Yav.f; rw [h]; rfl
theorem Ye.f_of {β : Type} {k a0 a1_0_0 a1_1_0 z0} (h : Ye.t k a0 a1_0_0 a1_1_0 = some z0) (K : Int → Option β) : Ye.f k a0 a1_0_0 a1_1_0 K = K z0 := by unfold Ye.f; rw [h]; rfl
theorem YaB.f_of {β : Type} {k a0 a1 a2 z0} (h : YaB.t k a0 a1 a2 = some z0) (K : Int → Option β) : YaB.f k a0 a1 a2 K = K z0 := by unfold YaB.f; rw [h]; rfl
noncomputable def YaL (l : LD) (x : Int) (y : BA) : Int := Zbo (fun i => (gI l (i : Int) 0 == x) && Zae (gS l (i : Int) 1) y) l.length
set_option maxRecDepth 100000 in
theorem l7Find_fv {l : LD} (g : Zi Ya lim l) {x : Int} {y : BA} {k : Nat} (hk : Z3 k) {β : Type} (K : Int → Option β) : Y2.f k l x y K = K (YaL l x y) := Y2.f_of (by
 have hb : big = 2 ^ 64 := rfl
 have hlim : lim = 1048576 := rfl
 have hl := g.1
 unfold Y2.t Y2.g
 refine iter_findI (n := l.length) _ some (by unfold Z3 at hk; omega) (fun L i hi => ?_) (fun L => by simp [Y2.l0, atR, rdQ, Q.ask])
 simp (disch := omega) only [Y2.l0, atR, rdQ, Q.ask, ZQ (show (i : Int) < l.length by omega), cond_true, Ya.row g, ZY, Zad, Zaj, ZaQ, Za7, Z6, Zj]
 cases (gI l (i : Int) 0 == x) <;> cases Zae (gS l (i : Int) 1) y <;> rfl) K
set_option maxRecDepth 100000 in
theorem objAt_fv {l : LD} (g : Zi Ya lim l) {x : Int} {y : BA} {k : Nat} (hk : Z3 k) {β : Type} (K : Int → Option β) : YaB.f k l x y K = K (YaL l x y) := YaB.f_of (by
 have hb : big = 2 ^ 64 := rfl
 have hlim : lim = 1048576 := rfl
 have hl := g.1
 unfold YaB.t YaB.g
 rw [Ye.f_of (z0 := YaL l x y)]
 unfold Ye.t Ye.g
 refine iter_findI (n := l.length) _ some (by unfold Z3 at hk; omega) (fun L i hi => ?_) (fun L => by simp [Ye.l0, atR, rdQ, Q.ask])
 have hs : ∀ {x0 : Int} {x1 : BA} {x2 : Int} {x3 : Int} {x4 : Int} {x5 : Bool} {x6 : LD} {x7 : Int} {x8 : BA} {x9 : Int} {x10 : LD} {x11 : LD} {x12 : Int} {x13 : BA} {x14 : Int} {x15 : LD} {x16 : LD} {β : Type} (K : Bool → Option β), Yav.f k x0 x1 x2 x3 x4 x5 x6 x7 x8 x9 x10 x11 x12 x13 x14 x15 x16 x y K = K ((x0 == x) && Zae x1 y) := fun K => Yav.f_of (by unfold Yav.t Yav.g; rename_i x0 x1 _ _ _ _ _ _ _ _ _ _ _ _ _ _ _ _; cases (x0 == x) <;> rfl) K
 simp (disch := omega) only [Ye.l0, atR, rdQ, Q.ask, ZQ (show (i : Int) < l.length by omega), cond_true, Ya.row g, ZY, Zad, Zaj, ZaQ, Za7, Z6, hs, Zj]) K
theorem findO_lt {l : LD} {x : Int} {y : BA} (h : ¬ YaL l x y < 0) : ∃ n : Nat, YaL l x y = (n : Int) ∧ n < l.length := by
 unfold YaL at h ⊢
 obtain ⟨h1, -, h3, -⟩ := findI_some (p := fun i => (gI l (i : Int) 0 == x) && Zae (gS l (i : Int) 1) y) (n := l.length) (by omega)
 exact ⟨_, h3.symm, h1⟩
theorem mirror_v {a : Int} {l : LD} (g : Zi Ya lim l) : Yu.v a l = (inB a 0 1000000 && objsB l 1000000 a) := by
 have hk : ZF 1 (lv 1) := by unfold ZF lv; omega
 have hv := Yu.tv (aB := a) g hk
 unfold Yu.t Yu.g at hv
 rw [l1In_fv, l7Objs_fv g hk, show IntKind.wrap .i64 (1000001 - 1) = 1000000 from rfl] at hv
 cases hb : inB a 0 1000000 <;> rw [hb] at hv <;> injection hv with hv <;> exact hv.symm
theorem asc_of {l : LD} (h : ∀ (i : Nat) (hi : i + 1 < l.length), Yaw l[i] l[i + 1] = true) : AscO l := by
 unfold AscO
 rw [List.pairwise_iff_getElem]
 intro i j hi hj hij
 obtain ⟨d, rfl⟩ : ∃ d, j = i + 1 + d := ⟨j - (i + 1), by omega⟩
 induction d with
 | zero => exact h i hj
 | succ d ih => exact orderR.trans _ _ _ (ih (by omega) (by omega)) (h (i + 1 + d) (by omega))
theorem YaN {a : Int} {l : LD} (g : Zi Ya lim l) (h : Yu.v a l = true) : AscO l ∧ l.length ≤ 60 ∧ 0 ≤ a ∧ a ≤ 1000000 := by
 rw [mirror_v g, Bool.and_eq_true] at h
 obtain ⟨h1, h2⟩ := h
 unfold inB at h1
 unfold objsB at h2
 rw [Bool.and_eq_true] at h1 h2
 obtain ⟨h2, h3⟩ := h2
 refine ⟨asc_of fun i hi => ?_, by have := of_decide_eq_true h3; omega, by simpa using h1.1, by simpa using h1.2⟩
 have hq := List.all_eq_true.mp h2 (i + 1) (by simpa using hi)
 unfold objsP at hq
 rw [Bool.and_eq_true, Bool.and_eq_true] at hq
 have hq := hq.2.1
 rw [ZQ (show ((i + 1 : Nat) : Int) > 0 by omega), Bool.not_true, Bool.false_or, show ((i + 1 : Nat) : Int) - 1 = (i : Int) by omega] at hq
 rw [less_gR (by omega), ← gR_lt hi]
 exact hq
def rB (r : List D) (j : Nat) : Bool := dB (r.getD j (.bool false))
noncomputable def rO (r : List D) : List D := [.int .i64 (rI r 2), .str (rS r 3), .int .i64 (rI r 4), .int .i64 (rI r 5), .int .i64 (rI r 6), .bool (rB r 7), .sl (rL r 8), .int .i64 (rI r 9), .str (rS r 10), .int .i64 (rI r 11), .sl (rL r 12), .sl (rL r 13), .int .i64 (rI r 14), .str (rS r 15), .int .i64 (rI r 16), .sl (rL r 17), .sl (rL r 18)]
def dropO (l : LD) (i : Int) : LD := l.take i.toNat ++ l.drop (i.toNat + 1)
noncomputable def stepF (rev : Int) (l : LD) (r : List D) : Option (Int × LD) :=
 bif rI r 0 != IntKind.wrap .i64 (rev + 1) then none else
 bif rB r 1 then (bif decide (YaL l (rI r 2) (rS r 3) < 0) then none else bif gI l (YaL l (rI r 2) (rS r 3)) 2 != rI r 4 then none else some (rI r 0, dropO l (YaL l (rI r 2) (rS r 3))))
 else some (rI r 0, YaD Yaw YaH (rO r) (rO r) false l)
noncomputable def stepV (rev : Int) (l : LD) (r : List D) : Option (Int × LD) :=
 match stepF rev l r with
 | none => none
 | some v => bif Yu.v v.1 v.2 then some v else none
noncomputable def YaF : Int → LD → LD → Option (Int × LD)
 | rev, l, [] => some (rev, l)
 | rev, l, r :: rs => match stepV rev l r with | none => none | some v => YaF v.1 v.2 rs
noncomputable def followV (a : Int) (l xs : LD) : Int × LD × Bool :=
 bif Yu.v a l then (match YaF a l xs with | some v => (v.1, v.2, true) | none => (a, l, false)) else (a, l, false)
theorem withF_mem {α : Type} {less same : α → α → Bool} {o o' : α} : ∀ {l : List α} {put : Bool} {x : α}, x ∈ YaD less same o o' put l → x ∈ l ∨ x = o'
 | [], put, x, h => by
  rw [withF_nil] at h
  cases put
  ·exact .inr (by simpa using h)
  ·cases h
 | y :: ys, put, x, h => by
  unfold YaD at h
  rw [List.mem_append, List.mem_append] at h
  rcases h with h | h | h
  ·split at h
   ·exact .inr (by simpa using h)
   ·cases h
  ·split at h
   ·cases h
   ·exact .inl (by rw [List.mem_singleton] at h; rw [h]; exact List.mem_cons_self ..)
  ·rcases withF_mem h with h | h
   ·exact .inl (List.mem_cons_of_mem _ h)
   ·exact .inr h
theorem withF_len {α : Type} {less same : α → α → Bool} {o o' : α} : ∀ {l : List α} {put : Bool}, (YaD less same o o' put l).length ≤ l.length + (bif put then 0 else 1)
 | [], put => by rw [withF_nil]; cases put <;> simp
 | y :: ys, put => by
  unfold YaD
  have ih := withF_len (less := less) (same := same) (o := o) (o' := o') (l := ys) (put := put || !less y o)
  rw [List.length_append, List.length_append, List.length_cons]
  generalize YaD less same o o' (put || !less y o) ys = w at *
  generalize less y o = b1 at *
  generalize same y o = b2 at *
  cases put <;> cases b1 <;> cases b2 <;> simp at ih ⊢ <;> omega
theorem rO_ok {B : Nat} {r : List D} (h : Yb B r) : Ya B (rO r) := by
 obtain ⟨c0, c1, c2, c3, c4, c5, c6, c7, c8, c9, c10, c11, c12, c13, c14, c15, c16, c17, c18, rfl, k0, k2, k3, k4, k5, k6, k8, k9, k10, k11, k12, k13, k14, k15, k16, k17, k18, _⟩ := h
 exact ⟨c2, c3, c4, c5, c6, c7, c8, c9, c10, c11, c12, c13, c14, c15, c16, c17, c18, rfl, k2, k3, k4, k5, k6, k8, k9, k10, k11, k12, k13, k14, k15, k16, k17, k18, trivial⟩
theorem stepF_ok {rev : Int} {l : LD} {r : List D} {v : Int × LD} (g : Zi Ya lim l) (h60 : l.length ≤ 60) (hr : Yb lim r) (h : stepF rev l r = some v) : Zi Ya lim v.2 := by
 have hlim : lim = 1048576 := rfl
 unfold stepF at h
 cases hs : (rI r 0 != IntKind.wrap .i64 (rev + 1)) <;> rw [hs] at h
 ·simp only [cond_false] at h
  cases hb : rB r 1 <;> rw [hb] at h
  ·simp only [cond_false] at h
   injection h with h
   subst h
   have := withF_len (less := Yaw) (same := YaH) (o := rO r) (o' := rO r) (l := l) (put := false)
   simp only [cond_false] at this
   refine ⟨by show (YaD _ _ _ _ _ _).length ≤ _; omega, fun x hx => ?_⟩
   rcases withF_mem hx with hx | hx
   ·exact g.2 x hx
   ·rw [hx]; exact rO_ok hr
  ·simp only [cond_true] at h
   cases hf : decide (YaL l (rI r 2) (rS r 3) < 0) <;> rw [hf] at h
   ·simp only [cond_false] at h
    cases hq : (gI l (YaL l (rI r 2) (rS r 3)) 2 != rI r 4) <;> rw [hq] at h
    ·simp only [cond_false] at h
     injection h with h
     subst h
     unfold dropO
     refine ⟨by rw [List.length_append, List.length_take, List.length_drop]; omega, fun x hx => ?_⟩
     rcases List.mem_append.mp hx with hx | hx
     ·exact g.2 x (List.mem_of_mem_take hx)
     ·exact g.2 x (List.mem_of_mem_drop hx)
    ·cases h
   ·cases h
 ·cases h
theorem Y0.f_of {β : Type} {k aB aA aX aY bA bB bC bE bF bG bH bI bJ bK bL bM bN bO bP a1_17 a1_18 z0 z1 z2} (h : Y0.t k aB aA aX aY bA bB bC bE bF bG bH bI bJ bK bL bM bN bO bP a1_17 a1_18 = some (z0, z1, z2)) (K : Bool → Int → LC → Option β) : Y0.f k aB aA aX aY bA bB bC bE bF bG bH bI bJ bK bL bM bN bO bP a1_17 a1_18 K = K z0 z1 z2 := by unfold Y0.f; rw [h]; rfl
theorem deepRows_at : ∀ {xs : LD} {i : Nat}, (Zb xs)[i]? = (xs[i]?).map ZZ
 | [], i => by simp only [Zb, List.getElem?_nil, Option.map_none]
 | r :: xs, 0 => by simp only [Zb, List.getElem?_cons_zero, Option.map_some]
 | r :: xs, i + 1 => by simp only [Zb, List.getElem?_cons_succ, deepRows_at]
theorem atNat_deepF {β : Type} {xs : LD} {i : Nat} (hi : i < xs.length) (F : List C → Option β) : ZaG (Zb xs) i F = F (ZZ xs[i]) := by
 unfold ZaG
 rw [deepRows_at, List.getElem?_eq_getElem hi]
 rfl
set_option maxRecDepth 100000 in
set_option maxHeartbeats 4000000 in
theorem follow_fv {rev : Int} {l : LD} (g : Zi Ya lim l) (ha : AscO l) {s : Int} {gone : Bool} {x0 : Int} {x1 : BA} {x2 x3 x4 : Int} {x5 : Bool} {x6 : LD} {x7 : Int} {x8 : BA} {x9 : Int} {x10 x11 : LD} {x12 : Int} {x13 : BA} {x14 : Int} {x15 x16 : LD} (g6 : Zi RS lim x6) (g10 : Zi RS lim x10) (g11 : Zi Yo lim x11) (g15 : Zi RS lim x15) (g16 : Zi Yo lim x16) {k : Nat} (hk : ZF 1 k) {r : List D} (hr : r = [.int .i64 s, .bool gone, .int .i64 x0, .str x1, .int .i64 x2, .int .i64 x3, .int .i64 x4, .bool x5, .sl x6, .int .i64 x7, .str x8, .int .i64 x9, .sl x10, .sl x11, .int .i64 x12, .str x13, .int .i64 x14, .sl x15, .sl x16]) :
  match stepF rev l r with
  | none => ∃ p q, Y0.t k rev (Zb l) s gone x0 x1 x2 x3 x4 x5 x6 x7 x8 x9 x10 x11 x12 x13 x14 x15 x16 = some (false, p, q)
  | some v => Y0.t k rev (Zb l) s gone x0 x1 x2 x3 x4 x5 x6 x7 x8 x9 x10 x11 x12 x13 x14 x15 x16 = some (true, v.1, Zb v.2) := by
 have hlim : lim = 1048576 := rfl
 have hl := g.1
 have hdl := Zw l
 have e0 : rI r 0 = s := by rw [hr]; rfl
 have e1 : rB r 1 = gone := by rw [hr]; rfl
 have e2 : rI r 2 = x0 := by rw [hr]; rfl
 have e3 : rS r 3 = x1 := by rw [hr]; rfl
 have e4 : rI r 4 = x2 := by rw [hr]; rfl
 have eo : rO r = [.int .i64 x0, .str x1, .int .i64 x2, .int .i64 x3, .int .i64 x4, .bool x5, .sl x6, .int .i64 x7, .str x8, .int .i64 x9, .sl x10, .sl x11, .int .i64 x12, .str x13, .int .i64 x14, .sl x15, .sl x16] := by rw [hr]; rfl
 unfold Y0.t Y0.g stepF
 rw [e0, e1, e2, e3, e4, eo]
 by_cases hs : s = IntKind.wrap .i64 (rev + 1)
 ·have hs2 : (s != IntKind.wrap .i64 (rev + 1)) = false := by simp [hs]
  rw [hs2]
  simp only [cond_false]
  rw [← hs]
  cases gone with
  | false =>
   simp only [Bool.not_false, cond_true, cond_false]
   rw [placed_fv g ha g6 g10 g11 g15 g16 hk]
  | true =>
   simp only [Bool.not_true, cond_true, cond_false]
   rw [ZO, objAt_fv g (up0 hk)]
   by_cases hf : YaL l x0 x1 < 0
   ·simp only [ZQ hf, cond_true]
    exact ⟨_, _, rfl⟩
   ·obtain ⟨n, hn, hnl⟩ := findO_lt hf
    rw [ZV hf]
    simp only [cond_false]
    rw [hn]
    obtain ⟨hrow, -⟩ := Ya.gets g.2 (v := (n : Int)) (by omega) (by omega)
    rw [gR_lt hnl] at hrow
    rw [ZaP (by omega), Int.toNat_natCast, atNat_deepF hnl, hrow]
    simp only [ZZ, ZbW, List.drop_succ_cons, List.drop_zero, ZY, cD, Zad]
    cases hq : (gI l (n : Int) 2 != x2)
    ·simp only [cond_false]
     unfold YJ.f YJ.t dropO
     rw [Zj (x := (n : Int) + 1) (by omega) (by omega), ZaP (by omega), Int.toNat_natCast, show ((n : Int) + 1).toNat = n + 1 by omega, YaT, YaU, ← Zai]
    ·simp only [cond_true]
     exact ⟨_, _, rfl⟩
 ·have hs2 : (s != IntKind.wrap .i64 (rev + 1)) = true := by simp [hs]
  rw [hs2]
  simp only [cond_true]
  exact ⟨_, _, rfl⟩
theorem YR.tm {ι α : Type} {ok : ι → Prop} {ψ : α → Prop} {p : ι → Nat} {B : Nat} (hp : ∀ i, ok i → B ≤ p i) {aB aA a1 φ} (h : Tm (fun k => B ≤ k) (fun k => YR.t k aB aA a1) φ) {G : ι → Int → LC → Bool → Option α} (hG : ∀ z0 z1 z2, φ (z0, z1, z2) → Tm ok (fun i => G i z0 z1 z2) ψ) : Tm ok (fun i => YR.f (p i) aB aA a1 (G i)) ψ := bd3_tm (t := fun k => YR.t k aB aA a1) hp h hG
theorem drop_cons_g {xs : LD} {i : Nat} (hi : i < xs.length) : xs.drop i = gR xs (i : Int) :: xs.drop (i + 1) := by
 rw [gR_lt hi]
 exact List.drop_eq_getElem_cons hi
theorem mirrorI_fv {a : Int} {l : LD} (g : Zi Ya lim l) {k : Nat} (hk : ZF 1 k) {β : Type} (K : Bool → Option β) : Yah.f k a l K = K (Yu.v a l) := Yah.f_of (by rw [Yah.same g hk]; exact Yu.tv g hk) K
theorem YaP {a : Int} {l : LD} (g : Zi Ya lim l) {k : Nat} (hk : ZF 1 k) {β : Type} (K : Int → LC → Option β) : Y8.f k a l K = K a (Zb l) := Y8.f_of (by unfold Y8.t Y8.g; rw [copyObjs_fv g hk]) K
theorem l8Mirror_fv {a : Int} {l : LD} (g : Zi Ya lim l) {k : Nat} (hk : ZF 1 k) {β : Type} (K : Int → LC → Option β) : Yaa.f k a l K = K a (Zb l) := Yaa.f_of (by unfold Yaa.t Yaa.g; rw [l7CopyObjs_fv g hk]) K
noncomputable def endV (a : Int) (l : LD) (o : Option (Int × LD)) : Int × LC × Bool := match o with | some v => (v.1, Zb v.2, true) | none => (a, Zb l, false)
noncomputable def endD (a : Int) (l : LD) (o : Option (Int × LD)) : Int × LD × Bool := match o with | some v => (v.1, v.2, true) | none => (a, l, false)
set_option maxRecDepth 100000 in
set_option maxHeartbeats 4000000 in
theorem impl_Follow_t {a : Int} {l xs : LD} (g : Zi Ya lim l) (gx : Zi Yb lim xs) {k : Nat} (hk : ZF 1 k) :
  YR.t k a l xs = some (bif Yu.v a l then endV a l (YaF a l xs) else (a, Zb l, false)) := by
 have hlim : lim = 1048576 := rfl
 have hb : big = 2 ^ 64 := rfl
 have hk0 : Z3 k := up0 hk
 have hx := gx.1
 unfold YR.t YR.g
 rw [mirrorI_fv g hk]
 cases hm : Yu.v a l
 ·simp only [Bool.not_false, cond_true, cond_false]
  rw [YaP g hk]
 simp only [Bool.not_true, cond_true, cond_false]
 rw [YaP g hk]
 obtain ⟨asc, l60, -, -⟩ := YaN g hm
 refine Eq.trans (iter_val (fun v : Int × Int × LC => xs.length - v.1.toNat) (fun v => 0 ≤ v.1 ∧ v.1 ≤ (xs.length : Int) ∧ ∃ l', v.2.2 = Zb l' ∧ Zi Ya lim l' ∧ AscO l' ∧ l'.length ≤ 60) (fun v => some (endV a l (YaF v.2.1 (C.immRows v.2.2) (xs.drop v.1.toNat)))) ?_ k (0, a, Zb l) ⟨by simp, by simp, l, rfl, g, asc, l60⟩ (by unfold Z3 at hk0; show xs.length - (0 : Int).toNat < k; omega)) (by
  show some (endV a l (YaF a (C.immRows (Zb l)) (xs.drop 0))) = _
  rw [ZO, List.drop_zero])
 rintro ⟨n, rev, cl⟩ ⟨n0, n1, l', e, gl, al, ll⟩ L hL
 replace n0 : 0 ≤ n := n0
 obtain ⟨i, rfl⟩ : ∃ i : Nat, n = (i : Int) := ⟨n.toNat, by omega⟩
 replace n1 : (i : Int) ≤ (xs.length : Int) := n1
 replace e : cl = Zb l' := e
 subst e
 simp only [ZO, Int.toNat_natCast]
 by_cases hi : i < xs.length
 ·obtain ⟨hrow, k0, k2, k3, k4, k5, k6, k8, k9, k10, k11, k12, k13, k14, k15, k16, k17, k18, -⟩ := Yb.get gx (v := (i : Int)) (by omega) (by omega)
  have hmem : Yb lim (gR xs (i : Int)) := gx.2 _ (gR_mem (by omega) (by omega))
  have hf := follow_fv (rev := rev) gl al k8 k12 k13 k17 k18 hk hrow
  rw [drop_cons_g hi]
  unfold YaF stepV
  simp (disch := omega) only [YR.l0, atR, rdQ, Q.ask, ZQ (show (i : Int) < (xs.length : Int) by omega), cond_true, Yb.row gx, ZY, Zad, Zaj, ZaQ, Za7, Z6]
  cases hs : stepF rev l' (gR xs (i : Int)) with
  | none =>
   rw [hs] at hf
   obtain ⟨p, q, hf⟩ := hf
   rw [Y0.f_of hf]
   simp only [Bool.not_false, cond_true]
   rw [YaP g hk]
   rfl
  | some v =>
   rw [hs] at hf
   have g2 := stepF_ok gl ll hmem hs
   rw [Y0.f_of hf]
   simp only [Bool.not_true, cond_false, ZO]
   rw [mirrorI_fv g2 hk]
   cases hv : Yu.v v.1 v.2 with
   | false =>
    simp only [Bool.not_false, cond_true, cond_false]
    rw [YaP g hk]
    rfl
   | true =>
    obtain ⟨a2, l2, -, -⟩ := YaN g2 hv
    simp only [Bool.not_true, cond_false, cond_true]
    rw [Zj (x := (i : Int) + 1) (by omega) (by omega)]
    rw [hL ((i : Int) + 1, v.1, Zb v.2) ⟨by show 0 ≤ (i : Int) + 1; omega, by show (i : Int) + 1 ≤ _; omega, v.2, rfl, g2, a2, l2⟩ (by show xs.length - ((i : Int) + 1).toNat < xs.length - (i : Int).toNat; omega)]
    simp only [ZO, show ((i : Int) + 1).toNat = i + 1 by omega]
 ·rw [List.drop_eq_nil_of_le (by omega)]
  simp only [YR.l0, atR, rdQ, Q.ask, ZV (show ¬ (i : Int) < (xs.length : Int) by omega), cond_false]
  unfold YaF endV
  rfl
theorem rows17 {B : Nat} {l : LD} (g : ∀ r ∈ l, Ya B r) : rowsOk 17 l := fun r hr => by
 obtain ⟨c0, c1, c2, c3, c4, c5, c6, c7, c8, c9, c10, c11, c12, c13, c14, c15, c16, rfl, -⟩ := (g r hr).open
 rfl
set_option maxRecDepth 100000 in
set_option maxHeartbeats 8000000 in
theorem spec_Follow_t {a : Int} {l xs : LD} (g : Zi Ya lim l) (gx : Zi Yb lim xs) {k : Nat} (hk : ZF 1 k) :
  YS.t k a l xs = some (bif Yu.v a l then endD a l (YaF a l xs) else (a, l, false)) := by
 have hlim : lim = 1048576 := rfl
 have hb : big = 2 ^ 64 := rfl
 have hmost : ZN = 2 ^ 36 := rfl
 have hk0 : Z3 k := up0 hk
 have hx := gx.1
 unfold YS.t YS.g
 rw [l8Mirror_fv g hk, Yu.fv g hk]
 cases hm : Yu.v a l
 ·simp only [Bool.not_false, cond_true, cond_false, ZO]
 simp only [Bool.not_true, cond_true, cond_false, ZO]
 obtain ⟨asc, l60, -, -⟩ := YaN g hm
 refine iter_val (fun v : Int × Int × LD => xs.length - v.1.toNat) (fun v => 0 ≤ v.1 ∧ v.1 ≤ (xs.length : Int) ∧ Zi Ya lim v.2.2 ∧ AscO v.2.2 ∧ v.2.2.length ≤ 60) (fun v => some (endD a l (YaF v.2.1 v.2.2 (xs.drop v.1.toNat)))) ?_ k (0, a, l) ⟨by simp, by simp, g, asc, l60⟩ (by unfold Z3 at hk0; show xs.length - (0 : Int).toNat < k; omega)
 rintro ⟨n, rev, l'⟩ ⟨n0, n1, gl, al, ll⟩ L hL
 replace n0 : 0 ≤ n := n0
 obtain ⟨i, rfl⟩ : ∃ i : Nat, n = (i : Int) := ⟨n.toNat, by omega⟩
 replace n1 : (i : Int) ≤ (xs.length : Int) := n1
 replace gl : Zi Ya lim l' := gl
 replace al : AscO l' := al
 replace ll : l'.length ≤ 60 := ll
 simp only [Int.toNat_natCast]
 by_cases hi : i < xs.length
 ·obtain ⟨hrow, k0, k2, k3, k4, k5, k6, k8, k9, k10, k11, k12, k13, k14, k15, k16, k17, k18, -⟩ := Yb.get gx (v := (i : Int)) (by omega) (by omega)
  have hmem : Yb lim (gR xs (i : Int)) := gx.2 _ (gR_mem (by omega) (by omega))
  have fail : Yaa.f k a l (fun y600 y601 => some (y600, C.immRows y601, false)) = some (a, l, false) := by rw [l8Mirror_fv g hk, ZO]
  have tail : ∀ (o : LD) (F : Option (Int × LD × Bool)), stepF rev l' (gR xs (i : Int)) = some (gI xs (i : Int) 0, o) → F = some (a, l, false) → Yu.f k (gI xs (i : Int) 0) o (fun y => bif !y then F else L ((i : Int) + 1, gI xs (i : Int) 0, o)) = some (endD a l (YaF rev l' (gR xs (i : Int) :: xs.drop (i + 1)))) := fun o F hs hF => by
   have g2 := stepF_ok gl ll hmem hs
   replace g2 : Zi Ya lim o := g2
   rw [Yu.fv g2 hk]
   unfold YaF stepV
   rw [hs]
   simp only []
   cases hv : Yu.v (gI xs (i : Int) 0) o with
   | false => simp only [Bool.not_false, cond_true, cond_false]; rw [hF]; rfl
   | true =>
    obtain ⟨a2, l2, -, -⟩ := YaN g2 hv
    simp only [Bool.not_true, cond_true, cond_false]
    rw [hL ((i : Int) + 1, gI xs (i : Int) 0, o) ⟨by show 0 ≤ (i : Int) + 1; omega, by show (i : Int) + 1 ≤ _; omega, g2, a2, l2⟩ (by show xs.length - ((i : Int) + 1).toNat < xs.length - (i : Int).toNat; omega)]
    simp only [show ((i : Int) + 1).toNat = i + 1 by omega]
  have none' : stepF rev l' (gR xs (i : Int)) = none → some (a, l, false) = some (endD a l (YaF rev l' (gR xs (i : Int) :: xs.drop (i + 1)))) := fun hs => by
   unfold YaF stepV
   rw [hs]
   rfl
  have hst : stepF rev l' (gR xs (i : Int)) = bif gI xs (i : Int) 0 != IntKind.wrap .i64 (rev + 1) then none else
   bif gB xs (i : Int) 1 then (bif decide (YaL l' (gI xs (i : Int) 2) (gS xs (i : Int) 3) < 0) then none else bif gI l' (YaL l' (gI xs (i : Int) 2) (gS xs (i : Int) 3)) 2 != gI xs (i : Int) 4 then none else some (gI xs (i : Int) 0, dropO l' (YaL l' (gI xs (i : Int) 2) (gS xs (i : Int) 3))))
   else some (gI xs (i : Int) 0, YaD Yaw YaH (rO (gR xs (i : Int))) (rO (gR xs (i : Int))) false l') := rfl
  have hw1 : IntKind.wrap .i64 ((i : Int) + 1) = (i : Int) + 1 := Zj (by omega) (by omega)
  rw [drop_cons_g hi]
  simp (config := {maxSteps := 4000000}) (disch := omega) only [YS.l0, atR, rdQ, Q.ask, ZQ (show (i : Int) < (xs.length : Int) by omega), cond_true, Yb.row gx, ZY, Zad, Zaj, ZaQ, Za7, Z6, l7Find_fv gl hk0, hw1, fail]
  cases hs : (gI xs (i : Int) 0 != IntKind.wrap .i64 (rev + 1)) with
  | true =>
   rw [hs] at hst
   exact none' hst
  | false =>
   rw [hs] at hst
   cases hg : gB xs (i : Int) 1 with
   | false =>
    rw [hg] at hst
    simp only [cond_false] at hst ⊢
    obtain ⟨ys, hy1, hy2⟩ := l7With_fv gl (x0 := gI xs (i : Int) 2) (x1 := gS xs (i : Int) 3) (x2 := gI xs (i : Int) 4) (x3 := gI xs (i : Int) 5) (x4 := gI xs (i : Int) 6) (x5 := gB xs (i : Int) 7) (x7 := gI xs (i : Int) 9) (x8 := gS xs (i : Int) 10) (x9 := gI xs (i : Int) 11) (x12 := gI xs (i : Int) 14) (x13 := gS xs (i : Int) 15) (x14 := gI xs (i : Int) 16) k8 k12 k13 k17 k18 hk
    rw [YX.f_of hy1, hy2]
    exact tail _ _ hst rfl
   | true =>
    rw [hg] at hst
    simp only [cond_true, cond_false] at hst ⊢
    by_cases hf : YaL l' (gI xs (i : Int) 2) (gS xs (i : Int) 3) < 0
    ·rw [ZQ hf] at hst ⊢
     exact none' hst
    ·obtain ⟨n, hn, hnl⟩ := findO_lt hf
     rw [ZV hf] at hst ⊢
     simp only [cond_false] at hst ⊢
     rw [hn] at hst ⊢
     simp (config := {maxSteps := 4000000}) (disch := omega) only [Ya.row gl, ZY, Zad, Zaj, ZaQ, Za7, Z6]
     cases hq : (gI l' (n : Int) 2 != gI xs (i : Int) 4) with
     | true =>
      rw [hq] at hst
      exact none' hst
     | false =>
      rw [hq] at hst
      simp only [cond_false] at hst ⊢
      have w : IntKind.wrap .i64 ((n : Int) + 1) = (n : Int) + 1 := Zj (by omega) (by omega)
      have t1 : (l'.drop (Int.toNat ((n : Int) + 1))).take (Int.toNat (l'.length : Int) - Int.toNat ((n : Int) + 1)) = l'.drop (n + 1) := by
       rw [show Int.toNat ((n : Int) + 1) = n + 1 by omega, Int.toNat_natCast, List.take_of_length_le (by rw [List.length_drop]; omega)]
      have t2 : (l'.drop (Int.toNat 0)).take (Int.toNat (n : Int) - Int.toNat 0) = l'.take n := by
       simp only [Int.toNat_natCast, Int.toNat_zero, List.drop_zero, Nat.sub_zero]
      have r1 : rowsOk 17 l' := rows17 gl.2
      have r2 : rowsOk 17 (l'.take n) := fun r hr => r1 r (List.mem_of_mem_take hr)
      have r3 : rowsOk 17 (l'.drop (n + 1)) := fun r hr => r1 r (List.mem_of_mem_drop hr)
      have im : C.immRows (([] ++ (l'.take n).map (·.map C.d)) ++ (l'.drop (n + 1)).map (·.map C.d)) = dropO l' (n : Int) := by
       rw [List.nil_append, ← List.map_append, imm_rows]
       rfl
      rw [w, t1, t2, im]
      have m1 : (l'.take n).length ≤ 60 := by rw [List.length_take]; omega
      have m2 : (l'.drop (n + 1)).length ≤ 60 := by rw [List.length_drop]; omega
      rw [ZaP ⟨by omega, by omega, by omega, r1⟩, ZaP r2, ZaP (by rw [List.length_nil, List.length_map]; omega), ZaP ⟨by omega, by omega, by omega, r1⟩, ZaP r3, ZaP (by rw [List.nil_append, List.length_map, List.length_map]; omega)]
      exact tail _ _ hst rfl
 ·rw [List.drop_eq_nil_of_le (by omega)]
  simp only [YS.l0, atR, rdQ, Q.ask, ZV (show ¬ (i : Int) < (xs.length : Int) by omega), cond_false]
  unfold YaF endD
  rfl
theorem wt_with {less same : List D → List D → Bool} {o o' : List D} : ∀ {l : LD} {put : Bool}, Zp (YaD less same o o' put l) ≤ Zp l + (bif put then 0 else ZbG o')
 | [], put => by rw [withF_nil]; cases put <;> simp [Zp]
 | y :: ys, put => by
  unfold YaD
  have ih := wt_with (less := less) (same := same) (o := o) (o' := o') (l := ys) (put := put || !less y o)
  rw [ZcM, ZcM]
  generalize YaD less same o o' (put || !less y o) ys = w at *
  generalize less y o = b1 at *
  generalize same y o = b2 at *
  cases put <;> cases b1 <;> cases b2 <;> simp [Zp] at ih ⊢ <;> omega
theorem wt_cut : ∀ {l : LD} {n : Nat}, Zp (l.take n) + Zp (l.drop (n + 1)) ≤ Zp l
 | [], n => by simp [Zp]
 | r :: xs, 0 => by simp only [List.take_zero, List.drop_succ_cons, List.drop_zero, Zp]; omega
 | r :: xs, n + 1 => by
  have := wt_cut (l := xs) (n := n)
  simp only [List.take_succ_cons, List.drop_succ_cons, Zp]; omega
theorem wt_rO {B : Nat} {r : List D} (h : Yb B r) : ZbG (rO r) ≤ ZbG r := by
 obtain ⟨c0, c1, c2, c3, c4, c5, c6, c7, c8, c9, c10, c11, c12, c13, c14, c15, c16, c17, c18, rfl, -⟩ := h
 show ZbG [.int .i64 c2, .str c3, .int .i64 c4, .int .i64 c5, .int .i64 c6, .bool c7, .sl c8, .int .i64 c9, .str c10, .int .i64 c11, .sl c12, .sl c13, .int .i64 c14, .str c15, .int .i64 c16, .sl c17, .sl c18] ≤ ZbG (.int .i64 c0 :: .bool c1 :: [.int .i64 c2, .str c3, .int .i64 c4, .int .i64 c5, .int .i64 c6, .bool c7, .sl c8, .int .i64 c9, .str c10, .int .i64 c11, .sl c12, .sl c13, .int .i64 c14, .str c15, .int .i64 c16, .sl c17, .sl c18])
 generalize ([.int .i64 c2, .str c3, .int .i64 c4, .int .i64 c5, .int .i64 c6, .bool c7, .sl c8, .int .i64 c9, .str c10, .int .i64 c11, .sl c12, .sl c13, .int .i64 c14, .str c15, .int .i64 c16, .sl c17, .sl c18] : List D) = q
 simp only [ZbG]
 omega
theorem stepF_wt {rev : Int} {l : LD} {r : List D} {v : Int × LD} (hr : Yb lim r) (h : stepF rev l r = some v) : Zp v.2 ≤ Zp l + ZbG r := by
 unfold stepF at h
 cases hs : (rI r 0 != IntKind.wrap .i64 (rev + 1)) <;> rw [hs] at h
 ·simp only [cond_false] at h
  cases hb : rB r 1 <;> rw [hb] at h
  ·simp only [cond_false] at h
   injection h with h
   subst h
   have := wt_with (less := Yaw) (same := YaH) (o := rO r) (o' := rO r) (l := l) (put := false)
   have := wt_rO hr
   simp only [cond_false] at *
   omega
  ·simp only [cond_true] at h
   cases hf : decide (YaL l (rI r 2) (rS r 3) < 0) <;> rw [hf] at h
   ·simp only [cond_false] at h
    cases hq : (gI l (YaL l (rI r 2) (rS r 3)) 2 != rI r 4) <;> rw [hq] at h
    ·simp only [cond_false] at h
     injection h with h
     subst h
     unfold dropO
     have := wt_cut (l := l) (n := (YaL l (rI r 2) (rS r 3)).toNat)
     rw [ZcM]
     omega
    ·cases h
   ·cases h
 ·cases h
theorem followL_ok : ∀ {xs : LD} {rev : Int} {l : LD} {v : Int × LD}, Zi Ya lim l → l.length ≤ 60 → (∀ r ∈ xs, Yb lim r) → YaF rev l xs = some v → Zi Ya lim v.2 ∧ Zp v.2 ≤ Zp l + Zp xs
 | [], rev, l, v, g, _, _, h => by
  unfold YaF at h
  injection h with h
  subst h
  exact ⟨g, by simp [Zp]⟩
 | r :: xs, rev, l, v, g, h60, gx, h => by
  unfold YaF stepV at h
  cases hs : stepF rev l r with
  | none => rw [hs] at h; cases h
  | some u =>
   have g2 := stepF_ok g h60 (gx r (List.mem_cons_self ..)) hs
   have w2 := stepF_wt (gx r (List.mem_cons_self ..)) hs
   rw [hs] at h
   simp only [] at h
   cases hm : Yu.v u.1 u.2 <;> rw [hm] at h
   ·cases h
   ·obtain ⟨-, l2, -, -⟩ := YaN g2 hm
    obtain ⟨q1, q2⟩ := followL_ok g2 l2 (fun r hr => gx r (List.mem_cons_of_mem _ hr)) h
    exact ⟨q1, by simp only [Zp]; omega⟩
theorem YS.T {aB : Int} {aA a1 : LD} (_ : (Lit.int .i64 aB).wf = true) (g0 : Zi Ya lim aA) (g1 : Zi Yb lim a1) (w0 : Zp aA ≤ 67108864) (w1 : Zp a1 ≤ 67108864) :
  Tm (ZF 1) (fun k => YS.t k aB aA a1) (fun z => Zi Ya 2097152 z.2.1 ∧ Zp z.2.1 ≤ 1125899906842624 ∧ True) := by
 refine Tm.of (fun k hk => spec_Follow_t g0 g1 hk) ?_
 have hn : Zi Ya 2097152 aA ∧ Zp aA ≤ 1125899906842624 ∧ True := ⟨Ya.wide g0, by omega, trivial⟩
 cases hm : Yu.v aB aA
 ·exact hn
 ·simp only [cond_true]
  obtain ⟨-, l60, -, -⟩ := YaN g0 hm
  unfold endD
  cases hf : YaF aB aA a1 with
  | none => exact hn
  | some v =>
   obtain ⟨q1, q2⟩ := followL_ok g0 l60 g1.2 hf
   exact ⟨Ya.wide q1, by show Zp v.2 ≤ _; omega, trivial⟩
theorem YR.same {aB : Int} {aA a1 : LD} (_ : (Lit.int .i64 aB).wf = true) (g0 : Zi Ya lim aA) (g1 : Zi Yb lim a1) (w0 : Zp aA ≤ 67108864) (w1 : Zp a1 ≤ 67108864) {k : Nat} (hk : ZF 1 k) {z0 : Int} {z1 : LD} {z2 : Bool}
  (hz : YS.t k aB aA a1 = some (z0, z1, z2)) : YR.t k aB aA a1 = some (z0, Zb z1, z2) := by
 rw [spec_Follow_t g0 g1 hk] at hz
 rw [impl_Follow_t g0 g1 hk]
 injection hz with hz
 cases hm : Yu.v aB aA <;> rw [hm] at hz <;> simp only [cond_true, cond_false] at hz ⊢
 ·injection hz with h1 h2; injection h2 with h2 h3
  rw [← h1, ← h2, ← h3]
 ·unfold endD at hz
  unfold endV
  cases hf : YaF aB aA a1 <;> rw [hf] at hz <;> simp only [] at hz ⊢ <;> injection hz with h1 h2 <;> injection h2 with h2 h3 <;> rw [← h1, ← h2, ← h3]
theorem YB.tm {ι α : Type} {ok : ι → Prop} {ψ : α → Prop} {p : ι → Nat} {B : Nat} (hp : ∀ i, ok i → B ≤ p i) {a0 a1 φ} (h : Tm (fun k => B ≤ k) (fun k => YB.t k a0 a1) φ) {G : ι → Bool → Option α} (hG : ∀ z0, φ z0 → Tm ok (fun i => G i z0) ψ) : Tm ok (fun i => YB.f (p i) a0 a1 (G i)) ψ := ZK (t := fun k => YB.t k a0 a1) hp h hG
set_option maxRecDepth 100000 in
theorem YB.T {B : Nat} {a0 : LD} (ga0 : Zi RS B a0) (hB : B ≤ 1099511627776) : Tm Z3 (fun k => YB.t k a0 a0) (fun r => r = true) := by
 unfold YB.t YB.g
 have hm := Zy
 have hlim : lim = 1048576 := rfl
 have hlen := ga0.1
 refine Tm.ite (fun h1 => ?_) (fun h1 => ?_)
 ·try simp only [bz0, bz1, bz2, bz3, bz4, bz5, bz6, bz7, bz8, bz9, bza] at h1
  exact Tm.ret (by first | rfl | (exfalso; simp [Zu] at *))
 ·try simp only [bz0, bz1, bz2, bz3, bz4, bz5, bz6, bz7, bz8, bz9, bza] at h1
  refine Tm.loop (okk := Z3) (p := fun k => k) (fun i hi => hi) (b := fun k => YB.l0 k a0 a0 (fun z0 => some z0)) (fun i => (((a0.length : Int)) - i).toNat) (fun i => 0 ≤ i ∧ i ≤ (a0.length : Int)) ?_ ?_ ?_
  ·rintro i hI
   try simp only [] at hI ⊢
   have : big = 2 ^ 64 := rfl
   have := ga0.1
   omega
  ·((try simp only []); omega)
  ·rintro i hI L hL
   try simp only [] at hI
   obtain ⟨i0, i1⟩ := hI
   simp only [YB.l0, atR, rdQ, Q.ask]
   refine Tm.ite (fun h2 => ?_) (fun h2 => ?_)
   ·try simp only [bz0, bz1, bz2, bz3, bz4, bz5, bz6, bz7, bz8, bz9, bza] at h2
    refine Tm.atRow (by first | assumption | omega) (by first | assumption | omega) (fun x3 hx4 hm5 => ?_)
    obtain ⟨c6, rfl, g7, _⟩ := (ga0.2 x3 hm5).open
    refine Tm.uncons ?_
    refine Tm.dStr ?_
    refine Tm.atEnd ?_
    refine Tm.atRow (by first | assumption | omega) (by first | assumption | omega) (fun x8 hx9 hm10 => ?_)
    rw [hx4] at hx9
    injection hx9 with hx9
    subst hx9
    refine Tm.uncons ?_
    refine Tm.dStr ?_
    refine Tm.atEnd ?_
    refine Tm.ite (fun h12 => ?_) (fun h12 => ?_)
    ·try simp only [bz0, bz1, bz2, bz3, bz4, bz5, bz6, bz7, bz8, bz9, bza] at h12
     exact Tm.ret (by first | rfl | (exfalso; simp [Zu] at *))
    ·try simp only [bz0, bz1, bz2, bz3, bz4, bz5, bz6, bz7, bz8, bz9, bza] at h12
     try rw [Zj (x := i + 1) (by omega) (by omega)]
     exact hL _ (by (try simp only []); omega) (by (try simp only []); omega)
   ·try simp only [bz0, bz1, bz2, bz3, bz4, bz5, bz6, bz7, bz8, bz9, bza] at h2
    exact Tm.ret (by first | rfl | (exfalso; simp [Zu] at *))
theorem Ys.tm {ι α : Type} {ok : ι → Prop} {ψ : α → Prop} {p : ι → Nat} {B : Nat} (hp : ∀ i, ok i → B ≤ p i) {a0 a1 φ} (h : Tm (fun k => B ≤ k) (fun k => Ys.t k a0 a1) φ) {G : ι → Bool → Option α} (hG : ∀ z0, φ z0 → Tm ok (fun i => G i z0) ψ) : Tm ok (fun i => Ys.f (p i) a0 a1 (G i)) ψ := ZK (t := fun k => Ys.t k a0 a1) hp h hG
theorem YM.tm {ι α : Type} {ok : ι → Prop} {ψ : α → Prop} {p : ι → Nat} {B : Nat} (hp : ∀ i, ok i → B ≤ p i) {aB aA aG aE aF aX aY bA bB bC φ} (h : Tm (fun k => B ≤ k) (fun k => YM.t k aB aA aG aE aF aX aY bA bB bC) φ) {G : ι → Bool → Option α} (hG : ∀ z0, φ z0 → Tm ok (fun i => G i z0) ψ) : Tm ok (fun i => YM.f (p i) aB aA aG aE aF aX aY bA bB bC (G i)) ψ := ZK (t := fun k => YM.t k aB aA aG aE aF aX aY bA bB bC) hp h hG
set_option maxRecDepth 100000 in
theorem eqVal {B : Nat} (hB : B ≤ 1099511627776) (n : Nat) : (∀ (a : LD), a.length ≤ B → (∀ x ∈ a, Y1 B n x) → Tm (fun k => big + 2 * n + 1 ≤ k) (fun k => Ys.t k a a) (fun r => r = true)) ∧
  (∀ (c0 : Int) (c1 : BA) (c2 : Int) (c3 c4 : LD), c1.size ≤ B → Zi RS B c3 → c4.length ≤ B → (∀ x ∈ c4, Y1 B n x) → Tm (fun k => big + 2 * n + 2 ≤ k) (fun k => YM.t k c0 c1 c2 c3 c4 c0 c1 c2 c3 c4) (fun r => r = true)) := by
 have hb : big = 2 ^ 64 := rfl
 induction n using Nat.strongRecOn with
 | ind n ih =>
 have S : ∀ (a : LD), a.length ≤ B → (∀ x ∈ a, Y1 B n x) → Tm (fun k => big + 2 * n + 1 ≤ k) (fun k => Ys.t k a a) (fun r => r = true) := by
  intro a hlen g
  refine Tm.succ (g := fun k => Ys.g k a a (fun z0 => some z0)) (fun k => Ys.t_succ k a a) ?_
  unfold Ys.g Ys.body
  refine Tm.ite (fun h3 => by simp at h3) (fun h3 => ?_)
  refine Tm.loop (okk := fun k => big + 2 * n ≤ k) (p := fun k => k) (fun i hi => by omega) (b := fun k => Ys.l0 k (Ys.f k) (YM.f k) a a (fun z0 => some z0)) (fun i => (((a.length : Int)) - i).toNat) (fun i => 0 ≤ i ∧ i ≤ (a.length : Int)) ?_ ?_ ?_
  ·rintro i hI
   omega
  ·omega
  ·rintro i hI L hL
   obtain ⟨i0, i1⟩ := hI
   simp only [Ys.l0, atR, rdQ, Q.ask]
   refine Tm.ite (fun h4 => ?_) (fun h4 => ?_)
   ·simp only [decide_eq_true_eq] at h4
    refine Tm.atRow (by omega) (by omega) (fun x5 hx6 hm7 => ?_)
    obtain ⟨n', hn', c0, c1, c2, c3, c4, rfl, w0, g1, w2, g3, l4, g4⟩ : ∃ n', n = n' + 1 ∧ ∃ c0 c1 c2 c3 c4, x5 = [.int .i64 c0, .str c1, .int .i64 c2, .sl c3, .sl c4] ∧ (Lit.int .i64 c0).wf = true ∧ c1.size ≤ B ∧ (Lit.int .i64 c2).wf = true ∧ Zi RS B c3 ∧ c4.length ≤ B ∧ ∀ x ∈ c4, Y1 B n' x := by
     have := g x5 hm7
     cases this with
     | mk c0 c1 c2 c3 c4 w0 g1 w2 g3 l4 g4 => exact ⟨_, rfl, _, _, _, _, _, rfl, w0, g1, w2, g3, l4, g4⟩
    refine Tm.uncons (Tm.dInt (Tm.uncons (Tm.dStr (Tm.uncons (Tm.dInt (Tm.uncons (Tm.dSl (Tm.uncons (Tm.dSl (Tm.atEnd ?_))))))))))
    refine Tm.atRow (by omega) (by omega) (fun x8 hx8 _ => ?_)
    rw [hx6] at hx8
    injection hx8 with hx8
    subst hx8
    refine Tm.uncons (Tm.dInt (Tm.uncons (Tm.dStr (Tm.uncons (Tm.dInt (Tm.uncons (Tm.dSl (Tm.uncons (Tm.dSl (Tm.atEnd ?_))))))))))
    refine YM.tm (B := big + 2 * n' + 2) (fun i hi => by have := hi.1; omega) ((ih n' (by omega)).2 c0 c1 c2 c3 c4 g1 g3 l4 g4) (fun y hy => ?_)
    subst hy
    refine Tm.ite (fun h => by simp at h) (fun _ => ?_)
    rw [Zj (x := i + 1) (by omega) (by omega)]
    exact hL (i + 1) ⟨by omega, by omega⟩ (by omega)
   ·exact Tm.ret rfl
 refine ⟨S, ?_⟩
 intro c0 c1 c2 c3 c4 g1 g3 l4 g4
 refine Tm.succ (g := fun k => YM.g k c0 c1 c2 c3 c4 c0 c1 c2 c3 c4 (fun z0 => some z0)) (fun k => YM.t_succ k c0 c1 c2 c3 c4 c0 c1 c2 c3 c4) ?_
 unfold YM.g YM.body
 refine Tm.ite (fun h => by simp at h) (fun _ => ?_)
 refine Tm.ite (fun h => by simp [Zu] at h) (fun _ => ?_)
 refine Tm.ite (fun h => by simp at h) (fun _ => ?_)
 refine YB.tm (B := big) (fun i hi => by omega) (YB.T g3 hB) (fun y hy => ?_)
 subst hy
 refine Tm.ite (fun h => by simp at h) (fun _ => ?_)
 refine Ys.tm (B := big + 2 * n + 1) (fun i hi => hi) (S c4 l4 g4) (fun y' hy' => ?_)
 subst hy'
 exact Tm.ite (fun h => by simp at h) (fun _ => Tm.ret rfl)
theorem big_lv1e {n : Nat} (h : n ≤ 4398046511104) : big + n ≤ lv 1 := by
 have hb : big = 2 ^ 64 := rfl
 have : lv 1 = 2 ^ 65 := rfl
 omega
theorem YM.T {B : Nat} {aB : Int} {aA : BA} {aG : Int} {aE aF : LD} (g1 : aA.size ≤ B) (g3 : Zi RS B aE) (g4 : Zi Yo B aF) (hB : B ≤ 1099511627776) : Tm (ZF 1) (fun k => YM.t k aB aA aG aE aF aB aA aG aE aF) (fun r => r = true) := by
 have g' : ∀ x ∈ aF, Y1 B 1099511627776 x := fun x hx => by
  obtain ⟨h, hh, hx⟩ := g4.2 x hx
  exact hx.mono (hh hB)
 exact ((eqVal hB 1099511627776).2 aB aA aG aE aF g1 g3 g4.1 g').up (big_lv1e (n := 2 * 1099511627776 + 2) (by omega))
theorem Yat.tm {ι α : Type} {ok : ι → Prop} {ψ : α → Prop} {p : ι → Nat} {B : Nat} (hp : ∀ i, ok i → B ≤ p i) {aB aA aG aE aF aV aO aS aK aT aL aP aQ aM aU aN aR aX aY bA bB bC bE bF bG bH bI bJ bK bL bM bN bO bP φ} (h : Tm (fun k => B ≤ k) (fun k => Yat.t k aB aA aG aE aF aV aO aS aK aT aL aP aQ aM aU aN aR aX aY bA bB bC bE bF bG bH bI bJ bK bL bM bN bO bP) φ) {G : ι → Bool → Option α} (hG : ∀ z0, φ z0 → Tm ok (fun i => G i z0) ψ) : Tm ok (fun i => Yat.f (p i) aB aA aG aE aF aV aO aS aK aT aL aP aQ aM aU aN aR aX aY bA bB bC bE bF bG bH bI bJ bK bL bM bN bO bP (G i)) ψ := ZK (t := fun k => Yat.t k aB aA aG aE aF aV aO aS aK aT aL aP aQ aM aU aN aR aX aY bA bB bC bE bF bG bH bI bJ bK bL bM bN bO bP) hp h hG
theorem Yat.T {B : Nat} {aB : Int} {aA : BA} {aG aE aF : Int} {aV : Bool} {aO : LD} {aS : Int} {aK : BA} {aT : Int} {aL aP : LD} {aQ : Int} {aM : BA} {aU : Int} {aN aR : LD} (ga0_1 : aA.size ≤ B) (ga0_6 : Zi RS B aO) (ga0_8 : aK.size ≤ B) (ga0_10 : Zi RS B aL) (ga0_11 : Zi Yo B aP) (ga0_13 : aM.size ≤ B) (ga0_15 : Zi RS B aN) (ga0_16 : Zi Yo B aR) (hB : B ≤ 1099511627776) : Tm (ZF 1) (fun k => Yat.t k aB aA aG aE aF aV aO aS aK aT aL aP aQ aM aU aN aR aB aA aG aE aF aV aO aS aK aT aL aP aQ aM aU aN aR) (fun r => r = true) := by
 unfold Yat.t Yat.g
 have hm := Zy
 have hlim : lim = 1048576 := rfl
 refine Tm.ite (fun h1 => ?_) (fun h1 => ?_)
 ·try simp only [bz0, bz1, bz2, bz3, bz4, bz5, bz6, bz7, bz8, bz9, bza] at h1
  exact Tm.ret (by first | rfl | (exfalso; simp [Zu] at *))
 ·try simp only [bz0, bz1, bz2, bz3, bz4, bz5, bz6, bz7, bz8, bz9, bza] at h1
  refine Tm.ite (fun h2 => ?_) (fun h2 => ?_)
  ·try simp only [bz0, bz1, bz2, bz3, bz4, bz5, bz6, bz7, bz8, bz9, bza] at h2
   exact Tm.ret (by first | rfl | (exfalso; simp [Zu] at *))
  ·try simp only [bz0, bz1, bz2, bz3, bz4, bz5, bz6, bz7, bz8, bz9, bza] at h2
   refine Tm.ite (fun h3 => ?_) (fun h3 => ?_)
   ·try simp only [bz0, bz1, bz2, bz3, bz4, bz5, bz6, bz7, bz8, bz9, bza] at h3
    exact Tm.ret (by first | rfl | (exfalso; simp [Zu] at *))
   ·try simp only [bz0, bz1, bz2, bz3, bz4, bz5, bz6, bz7, bz8, bz9, bza] at h3
    refine Tm.ite (fun h4 => ?_) (fun h4 => ?_)
    ·try simp only [bz0, bz1, bz2, bz3, bz4, bz5, bz6, bz7, bz8, bz9, bza] at h4
     exact Tm.ret (by first | rfl | (exfalso; simp [Zu] at *))
    ·try simp only [bz0, bz1, bz2, bz3, bz4, bz5, bz6, bz7, bz8, bz9, bza] at h4
     refine Tm.ite (fun h5 => ?_) (fun h5 => ?_)
     ·try simp only [bz0, bz1, bz2, bz3, bz4, bz5, bz6, bz7, bz8, bz9, bza] at h5
      exact Tm.ret (by first | rfl | (exfalso; simp [Zu] at *))
     ·try simp only [bz0, bz1, bz2, bz3, bz4, bz5, bz6, bz7, bz8, bz9, bza] at h5
      refine Tm.ite (fun h6 => ?_) (fun h6 => ?_)
      ·try simp only [bz0, bz1, bz2, bz3, bz4, bz5, bz6, bz7, bz8, bz9, bza] at h6
       exact Tm.ret (by first | rfl | (exfalso; simp [Zu] at *))
      ·try simp only [bz0, bz1, bz2, bz3, bz4, bz5, bz6, bz7, bz8, bz9, bza] at h6
       refine YB.tm (fun i hi => up0 hi) (YB.T (by first | assumption | omega) (by first | assumption | omega)) (fun y8 hy7 => ?_)
       subst hy7
       refine Tm.ite (fun h9 => ?_) (fun h9 => ?_)
       ·try simp only [bz0, bz1, bz2, bz3, bz4, bz5, bz6, bz7, bz8, bz9, bza] at h9
        exact Tm.ret (by first | rfl | (exfalso; simp [Zu] at *))
       ·try simp only [bz0, bz1, bz2, bz3, bz4, bz5, bz6, bz7, bz8, bz9, bza] at h9
        refine YM.tm (fun i hi => hi) (YM.T (by first | assumption | omega) (by first | assumption | omega) (by first | assumption | omega) (by first | assumption | omega)) (fun y11 hy10 => ?_)
        subst hy10
        refine Tm.ite (fun h12 => ?_) (fun h12 => ?_)
        ·try simp only [bz0, bz1, bz2, bz3, bz4, bz5, bz6, bz7, bz8, bz9, bza] at h12
         exact Tm.ret (by first | rfl | (exfalso; simp [Zu] at *))
        ·try simp only [bz0, bz1, bz2, bz3, bz4, bz5, bz6, bz7, bz8, bz9, bza] at h12
         refine YM.tm (fun i hi => hi) (YM.T (by first | assumption | omega) (by first | assumption | omega) (by first | assumption | omega) (by first | assumption | omega)) (fun y14 hy13 => ?_)
         subst hy13
         refine Tm.ite (fun h15 => ?_) (fun h15 => ?_)
         ·try simp only [bz0, bz1, bz2, bz3, bz4, bz5, bz6, bz7, bz8, bz9, bza] at h15
          exact Tm.ret (by first | rfl | (exfalso; simp [Zu] at *))
         ·try simp only [bz0, bz1, bz2, bz3, bz4, bz5, bz6, bz7, bz8, bz9, bza] at h15
          exact Tm.ret (by first | rfl | (exfalso; simp [Zu] at *))
theorem YV.tm {ι α : Type} {ok : ι → Prop} {ψ : α → Prop} {p : ι → Nat} {B : Nat} (hp : ∀ i, ok i → B ≤ p i) {a0 a1 φ} (h : Tm (fun k => B ≤ k) (fun k => YV.t k a0 a1) φ) {G : ι → Bool → Option α} (hG : ∀ z0, φ z0 → Tm ok (fun i => G i z0) ψ) : Tm ok (fun i => YV.f (p i) a0 a1 (G i)) ψ := ZK (t := fun k => YV.t k a0 a1) hp h hG
set_option maxRecDepth 100000 in
theorem YV.T {B : Nat} {a0 : LD} (ga0 : Zi Ya B a0) (hB : B ≤ 1099511627776) : Tm (ZF 1) (fun k => YV.t k a0 a0) (fun r => r = true) := by
 unfold YV.t YV.g
 have hm := Zy
 have hlim : lim = 1048576 := rfl
 have hlen := ga0.1
 refine Tm.ite (fun h1 => ?_) (fun h1 => ?_)
 ·try simp only [bz0, bz1, bz2, bz3, bz4, bz5, bz6, bz7, bz8, bz9, bza] at h1
  exact Tm.ret (by first | rfl | (exfalso; simp [Zu] at *))
 ·try simp only [bz0, bz1, bz2, bz3, bz4, bz5, bz6, bz7, bz8, bz9, bza] at h1
  refine Tm.loop (okk := (ZF 1)) (p := fun k => k) (fun i hi => up0 hi) (b := fun k => YV.l0 k a0 a0 (fun z0 => some z0)) (fun i => (((a0.length : Int)) - i).toNat) (fun i => 0 ≤ i ∧ i ≤ (a0.length : Int)) ?_ ?_ ?_
  ·rintro i hI
   try simp only [] at hI ⊢
   have : big = 2 ^ 64 := rfl
   have := ga0.1
   omega
  ·((try simp only []); omega)
  ·rintro i hI L hL
   try simp only [] at hI
   obtain ⟨i0, i1⟩ := hI
   simp only [YV.l0, atR, rdQ, Q.ask]
   refine Tm.ite (fun h2 => ?_) (fun h2 => ?_)
   ·try simp only [bz0, bz1, bz2, bz3, bz4, bz5, bz6, bz7, bz8, bz9, bza] at h2
    refine Tm.atRow (by first | assumption | omega) (by first | assumption | omega) (fun x3 hx4 hm5 => ?_)
    obtain ⟨c6, c7, c8, c9, c10, c11, c12, c13, c14, c15, c16, c17, c18, c19, c20, c21, c22, rfl, g23, g24, g25, g26, g27, g28, g29, g30, g31, g32, g33, g34, g35, g36, g37, g38, _⟩ := (ga0.2 x3 hm5).open
    refine Tm.uncons ?_
    refine Tm.dInt ?_
    refine Tm.uncons ?_
    refine Tm.dStr ?_
    refine Tm.uncons ?_
    refine Tm.dInt ?_
    refine Tm.uncons ?_
    refine Tm.dInt ?_
    refine Tm.uncons ?_
    refine Tm.dInt ?_
    refine Tm.uncons ?_
    refine Tm.dBool ?_
    refine Tm.uncons ?_
    refine Tm.dSl ?_
    refine Tm.uncons ?_
    refine Tm.dInt ?_
    refine Tm.uncons ?_
    refine Tm.dStr ?_
    refine Tm.uncons ?_
    refine Tm.dInt ?_
    refine Tm.uncons ?_
    refine Tm.dSl ?_
    refine Tm.uncons ?_
    refine Tm.dSl ?_
    refine Tm.uncons ?_
    refine Tm.dInt ?_
    refine Tm.uncons ?_
    refine Tm.dStr ?_
    refine Tm.uncons ?_
    refine Tm.dInt ?_
    refine Tm.uncons ?_
    refine Tm.dSl ?_
    refine Tm.uncons ?_
    refine Tm.dSl ?_
    refine Tm.atEnd ?_
    refine Tm.atRow (by first | assumption | omega) (by first | assumption | omega) (fun x39 hx40 hm41 => ?_)
    rw [hx4] at hx40
    injection hx40 with hx40
    subst hx40
    refine Tm.uncons ?_
    refine Tm.dInt ?_
    refine Tm.uncons ?_
    refine Tm.dStr ?_
    refine Tm.uncons ?_
    refine Tm.dInt ?_
    refine Tm.uncons ?_
    refine Tm.dInt ?_
    refine Tm.uncons ?_
    refine Tm.dInt ?_
    refine Tm.uncons ?_
    refine Tm.dBool ?_
    refine Tm.uncons ?_
    refine Tm.dSl ?_
    refine Tm.uncons ?_
    refine Tm.dInt ?_
    refine Tm.uncons ?_
    refine Tm.dStr ?_
    refine Tm.uncons ?_
    refine Tm.dInt ?_
    refine Tm.uncons ?_
    refine Tm.dSl ?_
    refine Tm.uncons ?_
    refine Tm.dSl ?_
    refine Tm.uncons ?_
    refine Tm.dInt ?_
    refine Tm.uncons ?_
    refine Tm.dStr ?_
    refine Tm.uncons ?_
    refine Tm.dInt ?_
    refine Tm.uncons ?_
    refine Tm.dSl ?_
    refine Tm.uncons ?_
    refine Tm.dSl ?_
    refine Tm.atEnd ?_
    refine Yat.tm (fun i hi => hi.1) (Yat.T (by first | assumption | omega) (by first | assumption | omega) (by first | assumption | omega) (by first | assumption | omega) (by first | assumption | omega) (by first | assumption | omega) (by first | assumption | omega) (by first | assumption | omega) (by first | assumption | omega)) (fun y60 hy59 => ?_)
    subst hy59
    refine Tm.ite (fun h61 => ?_) (fun h61 => ?_)
    ·try simp only [bz0, bz1, bz2, bz3, bz4, bz5, bz6, bz7, bz8, bz9, bza] at h61
     exact Tm.ret (by first | rfl | (exfalso; simp [Zu] at *))
    ·try simp only [bz0, bz1, bz2, bz3, bz4, bz5, bz6, bz7, bz8, bz9, bza] at h61
     try rw [Zj (x := i + 1) (by omega) (by omega)]
     exact hL _ (by (try simp only []); omega) (by (try simp only []); omega)
   ·try simp only [bz0, bz1, bz2, bz3, bz4, bz5, bz6, bz7, bz8, bz9, bza] at h2
    exact Tm.ret (by first | rfl | (exfalso; simp [Zu] at *))
theorem Y6.tm {ι α : Type} {ok : ι → Prop} {ψ : α → Prop} {p : ι → Nat} {B : Nat} (hp : ∀ i, ok i → B ≤ p i) {aB aA aX aY φ} (h : Tm (fun k => B ≤ k) (fun k => Y6.t k aB aA aX aY) φ) {G : ι → Bool → Option α} (hG : ∀ z0, φ z0 → Tm ok (fun i => G i z0) ψ) : Tm ok (fun i => Y6.f (p i) aB aA aX aY (G i)) ψ := ZK (t := fun k => Y6.t k aB aA aX aY) hp h hG
theorem Y6.T {B : Nat} {aB : Int} {aA : LD} (ga0_1 : Zi Ya B aA) (hB : B ≤ 1099511627776) : Tm (ZF 1) (fun k => Y6.t k aB aA aB aA) (fun r => r = true) := by
 unfold Y6.t Y6.g
 have hm := Zy
 have hlim : lim = 1048576 := rfl
 refine Tm.ite (fun h1 => ?_) (fun h1 => ?_)
 ·try simp only [bz0, bz1, bz2, bz3, bz4, bz5, bz6, bz7, bz8, bz9, bza] at h1
  exact Tm.ret (by first | rfl | (exfalso; simp [Zu] at *))
 ·try simp only [bz0, bz1, bz2, bz3, bz4, bz5, bz6, bz7, bz8, bz9, bza] at h1
  refine YV.tm (fun i hi => hi) (YV.T (by first | assumption | omega) (by first | assumption | omega)) (fun y3 hy2 => ?_)
  subst hy2
  refine Tm.ite (fun h4 => ?_) (fun h4 => ?_)
  ·try simp only [bz0, bz1, bz2, bz3, bz4, bz5, bz6, bz7, bz8, bz9, bza] at h4
   exact Tm.ret (by first | rfl | (exfalso; simp [Zu] at *))
  ·try simp only [bz0, bz1, bz2, bz3, bz4, bz5, bz6, bz7, bz8, bz9, bza] at h4
   exact Tm.ret (by first | rfl | (exfalso; simp [Zu] at *))
theorem Yan.tm {ι α : Type} {ok : ι → Prop} {ψ : α → Prop} {p : ι → Nat} {B : Nat} (hp : ∀ i, ok i → B ≤ p i) {aB aA aG aE aF aV aO aS aK aT aL aP aQ aM aU aN aR bX bY aX aY bA bB bC bE bF bG bH bI bJ bK bL bM bN bO bP a1_17 a1_18 φ} (h : Tm (fun k => B ≤ k) (fun k => Yan.t k aB aA aG aE aF aV aO aS aK aT aL aP aQ aM aU aN aR bX bY aX aY bA bB bC bE bF bG bH bI bJ bK bL bM bN bO bP a1_17 a1_18) φ) {G : ι → Bool → Option α} (hG : ∀ z0, φ z0 → Tm ok (fun i => G i z0) ψ) : Tm ok (fun i => Yan.f (p i) aB aA aG aE aF aV aO aS aK aT aL aP aQ aM aU aN aR bX bY aX aY bA bB bC bE bF bG bH bI bJ bK bL bM bN bO bP a1_17 a1_18 (G i)) ψ := ZK (t := fun k => Yan.t k aB aA aG aE aF aV aO aS aK aT aL aP aQ aM aU aN aR bX bY aX aY bA bB bC bE bF bG bH bI bJ bK bL bM bN bO bP a1_17 a1_18) hp h hG
theorem Yan.T {B : Nat} {aB : Int} {aA : Bool} {aG : Int} {aE : BA} {aF aV aO : Int} {aS : Bool} {aK : LD} {aT : Int} {aL : BA} {aP : Int} {aQ aM : LD} {aU : Int} {aN : BA} {aR : Int} {bX bY : LD} (ga0_3 : aE.size ≤ B) (ga0_8 : Zi RS B aK) (ga0_10 : aL.size ≤ B) (ga0_12 : Zi RS B aQ) (ga0_13 : Zi Yo B aM) (ga0_15 : aN.size ≤ B) (ga0_17 : Zi RS B bX) (ga0_18 : Zi Yo B bY) (hB : B ≤ 1099511627776) : Tm (ZF 1) (fun k => Yan.t k aB aA aG aE aF aV aO aS aK aT aL aP aQ aM aU aN aR bX bY aB aA aG aE aF aV aO aS aK aT aL aP aQ aM aU aN aR bX bY) (fun r => r = true) := by
 unfold Yan.t Yan.g
 have hm := Zy
 have hlim : lim = 1048576 := rfl
 refine Tm.ite (fun h1 => ?_) (fun h1 => ?_)
 ·try simp only [bz0, bz1, bz2, bz3, bz4, bz5, bz6, bz7, bz8, bz9, bza] at h1
  exact Tm.ret (by first | rfl | (exfalso; simp [Zu] at *))
 ·try simp only [bz0, bz1, bz2, bz3, bz4, bz5, bz6, bz7, bz8, bz9, bza] at h1
  refine Tm.ite (fun h2 => ?_) (fun h2 => ?_)
  ·try simp only [bz0, bz1, bz2, bz3, bz4, bz5, bz6, bz7, bz8, bz9, bza] at h2
   exact Tm.ret (by first | rfl | (exfalso; simp [Zu] at *))
  ·try simp only [bz0, bz1, bz2, bz3, bz4, bz5, bz6, bz7, bz8, bz9, bza] at h2
   refine Yat.tm (fun i hi => hi) (Yat.T (by first | assumption | omega) (by first | assumption | omega) (by first | assumption | omega) (by first | assumption | omega) (by first | assumption | omega) (by first | assumption | omega) (by first | assumption | omega) (by first | assumption | omega) (by first | assumption | omega)) (fun y4 hy3 => ?_)
   subst hy3
   refine Tm.ite (fun h5 => ?_) (fun h5 => ?_)
   ·try simp only [bz0, bz1, bz2, bz3, bz4, bz5, bz6, bz7, bz8, bz9, bza] at h5
    exact Tm.ret (by first | rfl | (exfalso; simp [Zu] at *))
   ·try simp only [bz0, bz1, bz2, bz3, bz4, bz5, bz6, bz7, bz8, bz9, bza] at h5
    exact Tm.ret (by first | rfl | (exfalso; simp [Zu] at *))
theorem YG.tm {ι α : Type} {ok : ι → Prop} {ψ : α → Prop} {p : ι → Nat} {B : Nat} (hp : ∀ i, ok i → B ≤ p i) {a0 a1 φ} (h : Tm (fun k => B ≤ k) (fun k => YG.t k a0 a1) φ) {G : ι → Bool → Option α} (hG : ∀ z0, φ z0 → Tm ok (fun i => G i z0) ψ) : Tm ok (fun i => YG.f (p i) a0 a1 (G i)) ψ := ZK (t := fun k => YG.t k a0 a1) hp h hG
set_option maxRecDepth 100000 in
theorem YG.T {B : Nat} {a0 : LD} (ga0 : Zi Yb B a0) (hB : B ≤ 1099511627776) : Tm (ZF 1) (fun k => YG.t k a0 a0) (fun r => r = true) := by
 unfold YG.t YG.g
 have hm := Zy
 have hlim : lim = 1048576 := rfl
 have hlen := ga0.1
 refine Tm.ite (fun h1 => ?_) (fun h1 => ?_)
 ·try simp only [bz0, bz1, bz2, bz3, bz4, bz5, bz6, bz7, bz8, bz9, bza] at h1
  exact Tm.ret (by first | rfl | (exfalso; simp [Zu] at *))
 ·try simp only [bz0, bz1, bz2, bz3, bz4, bz5, bz6, bz7, bz8, bz9, bza] at h1
  refine Tm.loop (okk := (ZF 1)) (p := fun k => k) (fun i hi => up0 hi) (b := fun k => YG.l0 k a0 a0 (fun z0 => some z0)) (fun i => (((a0.length : Int)) - i).toNat) (fun i => 0 ≤ i ∧ i ≤ (a0.length : Int)) ?_ ?_ ?_
  ·rintro i hI
   try simp only [] at hI ⊢
   have : big = 2 ^ 64 := rfl
   have := ga0.1
   omega
  ·((try simp only []); omega)
  ·rintro i hI L hL
   try simp only [] at hI
   obtain ⟨i0, i1⟩ := hI
   simp only [YG.l0, atR, rdQ, Q.ask]
   refine Tm.ite (fun h2 => ?_) (fun h2 => ?_)
   ·try simp only [bz0, bz1, bz2, bz3, bz4, bz5, bz6, bz7, bz8, bz9, bza] at h2
    refine Tm.atRow (by first | assumption | omega) (by first | assumption | omega) (fun x3 hx4 hm5 => ?_)
    obtain ⟨c6, c7, c8, c9, c10, c11, c12, c13, c14, c15, c16, c17, c18, c19, c20, c21, c22, c23, c24, rfl, g25, g26, g27, g28, g29, g30, g31, g32, g33, g34, g35, g36, g37, g38, g39, g40, g41, _⟩ := (ga0.2 x3 hm5).open
    refine Tm.uncons ?_
    refine Tm.dInt ?_
    refine Tm.uncons ?_
    refine Tm.dBool ?_
    refine Tm.uncons ?_
    refine Tm.dInt ?_
    refine Tm.uncons ?_
    refine Tm.dStr ?_
    refine Tm.uncons ?_
    refine Tm.dInt ?_
    refine Tm.uncons ?_
    refine Tm.dInt ?_
    refine Tm.uncons ?_
    refine Tm.dInt ?_
    refine Tm.uncons ?_
    refine Tm.dBool ?_
    refine Tm.uncons ?_
    refine Tm.dSl ?_
    refine Tm.uncons ?_
    refine Tm.dInt ?_
    refine Tm.uncons ?_
    refine Tm.dStr ?_
    refine Tm.uncons ?_
    refine Tm.dInt ?_
    refine Tm.uncons ?_
    refine Tm.dSl ?_
    refine Tm.uncons ?_
    refine Tm.dSl ?_
    refine Tm.uncons ?_
    refine Tm.dInt ?_
    refine Tm.uncons ?_
    refine Tm.dStr ?_
    refine Tm.uncons ?_
    refine Tm.dInt ?_
    refine Tm.uncons ?_
    refine Tm.dSl ?_
    refine Tm.uncons ?_
    refine Tm.dSl ?_
    refine Tm.atEnd ?_
    refine Tm.atRow (by first | assumption | omega) (by first | assumption | omega) (fun x42 hx43 hm44 => ?_)
    rw [hx4] at hx43
    injection hx43 with hx43
    subst hx43
    refine Tm.uncons ?_
    refine Tm.dInt ?_
    refine Tm.uncons ?_
    refine Tm.dBool ?_
    refine Tm.uncons ?_
    refine Tm.dInt ?_
    refine Tm.uncons ?_
    refine Tm.dStr ?_
    refine Tm.uncons ?_
    refine Tm.dInt ?_
    refine Tm.uncons ?_
    refine Tm.dInt ?_
    refine Tm.uncons ?_
    refine Tm.dInt ?_
    refine Tm.uncons ?_
    refine Tm.dBool ?_
    refine Tm.uncons ?_
    refine Tm.dSl ?_
    refine Tm.uncons ?_
    refine Tm.dInt ?_
    refine Tm.uncons ?_
    refine Tm.dStr ?_
    refine Tm.uncons ?_
    refine Tm.dInt ?_
    refine Tm.uncons ?_
    refine Tm.dSl ?_
    refine Tm.uncons ?_
    refine Tm.dSl ?_
    refine Tm.uncons ?_
    refine Tm.dInt ?_
    refine Tm.uncons ?_
    refine Tm.dStr ?_
    refine Tm.uncons ?_
    refine Tm.dInt ?_
    refine Tm.uncons ?_
    refine Tm.dSl ?_
    refine Tm.uncons ?_
    refine Tm.dSl ?_
    refine Tm.atEnd ?_
    refine Yan.tm (fun i hi => hi.1) (Yan.T (by first | assumption | omega) (by first | assumption | omega) (by first | assumption | omega) (by first | assumption | omega) (by first | assumption | omega) (by first | assumption | omega) (by first | assumption | omega) (by first | assumption | omega) (by first | assumption | omega)) (fun y65 hy64 => ?_)
    subst hy64
    refine Tm.ite (fun h66 => ?_) (fun h66 => ?_)
    ·try simp only [bz0, bz1, bz2, bz3, bz4, bz5, bz6, bz7, bz8, bz9, bza] at h66
     exact Tm.ret (by first | rfl | (exfalso; simp [Zu] at *))
    ·try simp only [bz0, bz1, bz2, bz3, bz4, bz5, bz6, bz7, bz8, bz9, bza] at h66
     try rw [Zj (x := i + 1) (by omega) (by omega)]
     exact hL _ (by (try simp only []); omega) (by (try simp only []); omega)
   ·try simp only [bz0, bz1, bz2, bz3, bz4, bz5, bz6, bz7, bz8, bz9, bza] at h2
    exact Tm.ret (by first | rfl | (exfalso; simp [Zu] at *))
theorem Yf.f_of {β : Type} {k a0 z0} (h : Yf.t k a0 = some z0) (K : BA → Option β) : Yf.f k a0 K = K z0 := by unfold Yf.f; rw [h]; rfl
theorem Yf.tm {ι α : Type} {ok : ι → Prop} {ψ : α → Prop} {p : ι → Nat} {B : Nat} (hp : ∀ i, ok i → B ≤ p i) {a0 φ} (h : Tm (fun k => B ≤ k) (fun k => Yf.t k a0) φ) {G : ι → BA → Option α} (hG : ∀ z0, φ z0 → Tm ok (fun i => G i z0) ψ) : Tm ok (fun i => Yf.f (p i) a0 (G i)) ψ := ZK (t := fun k => Yf.t k a0) hp h hG
theorem Yf.T {a0 : Int} (h1 : a0 ≤ 4611686018427387904) : Tm Z3 (fun k => Yf.t k a0) (fun _ => True) := by
 unfold Yf.t Yf.g
 have hb : big = 2 ^ 64 := rfl
 refine Tm.ite (fun _ => Tm.ret trivial) (fun h => ?_)
 simp only [decide_eq_false_iff_not, Int.not_le] at h
 refine Tm.loop (okk := Z3) (p := fun k => k) (fun i hi => hi) (b := fun k => Yf.l0 k (fun z0 => some z0)) (fun v => match v with | (u, s) => u.toNat) (fun v => match v with | (u, s) => 0 ≤ u ∧ u + s.size ≤ a0) ?_ ?_ ?_
 ·rintro ⟨u, s⟩ hI
  simp only [] at hI ⊢
  omega
 ·simp only []
  have : (⟨#[]⟩ : BA).size = 0 := rfl
  omega
 ·rintro ⟨u, s⟩ hI L hL
  simp only [] at hI
  obtain ⟨u0, u1⟩ := hI
  simp only [Yf.l0]
  refine Tm.ite (fun h4 => ?_) (fun h4 => ?_)
  ·simp only [decide_eq_true_eq] at h4
   have e1 : ∀ x : UInt8, (⟨#[x]⟩ : BA).size = 1 := fun _ => rfl
   have ed : Int.tdiv u 10 = u / 10 := Int.tdiv_eq_ediv_of_nonneg (by omega)
   refine Tm.guard (by decide) (Tm.guard (by rw [e1]; omega) (Tm.guard (by decide) ?_))
   rw [ed, Zj (x := u / 10) (by omega) (by omega)]
   refine hL (_, _) ⟨by omega, ?_⟩ (by simp only []; omega)
   rw [ByteArray.size_append, e1]
   omega
  ·have e1 : (⟨#[109]⟩ : BA).size = 1 := rfl
   exact Tm.guard (by rw [e1]; omega) (Tm.ret trivial)
noncomputable def Yf.v (a0 : Int) : BA := (Yf.t big a0).getD default
theorem Yf.tv {a0 : Int} (h1 : a0 ≤ 4611686018427387904) {k : Nat} (hk : Z3 k) : Yf.t k a0 = some (Yf.v a0) := (Yf.T h1).val hk
theorem Yf.fv {a0 : Int} (h1 : a0 ≤ 4611686018427387904) {k : Nat} (hk : Z3 k) {β : Type} (K : BA → Option β) : Yf.f k a0 K = K (Yf.v a0) := Yf.f_of (Yf.tv h1 hk) K
theorem Yj.tm {ι α : Type} {ok : ι → Prop} {ψ : α → Prop} {p : ι → Nat} {B : Nat} (hp : ∀ i, ok i → B ≤ p i) {a0 a1 φ} (h : Tm (fun k => B ≤ k) (fun k => Yj.t k a0 a1) φ) {G : ι → Int → LC → Option α} (hG : ∀ z0 z1, φ (z0, z1) → Tm ok (fun i => G i z0 z1) ψ) : Tm ok (fun i => Yj.f (p i) a0 a1 (G i)) ψ := bd2_tm (t := fun k => Yj.t k a0 a1) hp h hG
theorem Yg.tm {ι α : Type} {ok : ι → Prop} {ψ : α → Prop} {p : ι → Nat} {B : Nat} (hp : ∀ i, ok i → B ≤ p i) {a0 a1 φ} (h : Tm (fun k => B ≤ k) (fun k => Yg.t k a0 a1) φ) {G : ι → Int → LC → Option α} (hG : ∀ z0 z1, φ (z0, z1) → Tm ok (fun i => G i z0 z1) ψ) : Tm ok (fun i => Yg.f (p i) a0 a1 (G i)) ψ := bd2_tm (t := fun k => Yg.t k a0 a1) hp h hG
theorem YH.tm {ι α : Type} {ok : ι → Prop} {ψ : α → Prop} {p : ι → Nat} {B : Nat} (hp : ∀ i, ok i → B ≤ p i) {a0 a1 φ} (h : Tm (fun k => B ≤ k) (fun k => YH.t k a0 a1) φ) {G : ι → Int → LC → Option α} (hG : ∀ z0 z1, φ (z0, z1) → Tm ok (fun i => G i z0 z1) ψ) : Tm ok (fun i => YH.f (p i) a0 a1 (G i)) ψ := bd2_tm (t := fun k => YH.t k a0 a1) hp h hG
theorem Y7.tm {ι α : Type} {ok : ι → Prop} {ψ : α → Prop} {p : ι → Nat} {B : Nat} (hp : ∀ i, ok i → B ≤ p i) {aB aA a1 φ} (h : Tm (fun k => B ≤ k) (fun k => Y7.t k aB aA a1) φ) {G : ι → Int → LC → Option α} (hG : ∀ z0 z1, φ (z0, z1) → Tm ok (fun i => G i z0 z1) ψ) : Tm ok (fun i => Y7.f (p i) aB aA a1 (G i)) ψ := bd2_tm (t := fun k => Y7.t k aB aA a1) hp h hG
theorem Yx.tm {ι α : Type} {ok : ι → Prop} {ψ : α → Prop} {p : ι → Nat} {B : Nat} (hp : ∀ i, ok i → B ≤ p i) {a0 a1 φ} (h : Tm (fun k => B ≤ k) (fun k => Yx.t k a0 a1) φ) {G : ι → Int → LC → Option α} (hG : ∀ z0 z1, φ (z0, z1) → Tm ok (fun i => G i z0 z1) ψ) : Tm ok (fun i => Yx.f (p i) a0 a1 (G i)) ψ := bd2_tm (t := fun k => Yx.t k a0 a1) hp h hG
theorem Yl.f_of {β : Type} {k a0 a1 z0} (h : Yl.t k a0 a1 = some z0) (K : Int → Option β) : Yl.f k a0 a1 K = K z0 := by unfold Yl.f; rw [h]; rfl
set_option maxRecDepth 100000 in
set_option maxHeartbeats 8000000 in
theorem Yl.step {u : Int}  (h0 : 0 ≤ u)  (h1 : u + 1 ≤ 4611686018427387904) {k : Nat} (hk : Z3 k) : HStep (fun xs L v => Yl.l0 k xs (fun z0 => some z0) L v) u [.str (Yf.v (u))] (u + 1) := by
 have hk0 : Z3 k := hk
 intro xs i i0 i1 hl hr L
 simp (maxSteps := 4000000) (disch := first | assumption | omega) only [Yl.l0, atR, rdQ, Q.ask, ZQ i1, cond_true, cond_false, Zbp i0 i1, hr, ZY, Zad, Zaj, ZaQ, Za7, Z6, Zj, Yf.fv, Zu, bne_self_eq_false, beq_self_eq_true, Bool.not_true]
set_option maxRecDepth 100000 in
set_option maxHeartbeats 8000000 in
theorem Yj.T {B : Nat} (hB : B ≤ 1099511627776) {xs : LD} {n : Int} (g : Zi RS B xs) (h0 : 0 ≤ n) (h1 : n + Zp xs ≤ 4611686018427387904) : Tm Z3 (fun k => Yj.t k (Zb xs) n) (fun z => ∃ ys, z.2 = Zb ys ∧ ys.length = xs.length ∧ z.1 = n + Zp xs ∧ ∀ k, Z3 k → Yl.t k ys n = some z.1) := by
 have hb : big = 2 ^ 64 := rfl
 have hl := g.1
 have key : Tm Z3 (fun k => Yj.t k (Zb xs) n) (fun z => ∃ ys, z.2 = Zb ys ∧ ys.length = xs.length ∧ z.1 = n + Zp xs ∧ ZbX (fun u r u' => ∀ k, Z3 k → HStep (fun xs L v => Yl.l0 k xs (fun z0 => some z0) L v) u r u') n ys z.1) := by
  unfold Yj.t Yj.g
  refine Tm.loop (okk := Z3) (p := fun k => k) (fun i hi => hi) (b := fun k => Yj.l0 k (fun z0 z1 => some (z0, z1))) (fun v => match v with | (u, i, tab) => ((xs.length : Int) - i).toNat) (fun v => match v with | (u, i, tab) => 0 ≤ i ∧ i ≤ xs.length ∧ ∃ done : LD, done.length = i.toNat ∧ tab = Zb done ++ Zb (xs.drop i.toNat) ∧ u = n + Zp (xs.take i.toNat) ∧ ZbX (fun u r u' => ∀ k, Z3 k → HStep (fun xs L v => Yl.l0 k xs (fun z0 => some z0) L v) u r u') n done u) ?_ ?_ ?_
  ·rintro ⟨u, i, tab⟩ hI
   simp only [] at hI ⊢
   omega
  ·exact ⟨by omega, by omega, [], rfl, by simp [Zb], by simp [Zp], .nil⟩
  ·rintro ⟨u, i, tab⟩ hI L hL
   simp only [] at hI
   obtain ⟨i0, i1, done, hd, rfl, hu, hH⟩ := hI
   have hA : (Zb done).length = i.toNat := by rw [Zw, hd]
   have hT : (Zb done ++ Zb (xs.drop i.toNat)).length = xs.length := by rw [List.length_append, hA, Zw, List.length_drop]; omega
   simp only [Yj.l0]
   refine Tm.ite (fun h4 => ?_) (fun h4 => ?_)
   ·simp only [decide_eq_true_eq, hT] at h4
    have hx := gR_at i0 h4
    obtain ⟨c0, e, k0, _⟩ := (g.2 _ (gR_mem i0 h4)).open
    rw [e] at hx
    have hdr := drop_at i0 hx
    have hw := wt_take i0 hx
    simp only [ZbG, wtD] at hw
    have hs := wt_split xs (i + 1).toNat
    rw [hdr] at hT ⊢
    simp only [Zb, ZZ, ZbW] at hT ⊢
    have hT2 := hT
    simp only [List.length_append, List.length_cons] at hT2
    try simp (disch := omega) only [Zj]
    refine Yf.tm (fun i hi => hi.1) (Tm.at (ok := Z3) (v := Yf.v _) (fun k hk => Yf.tv (by omega) hk)) (fun y hy => ?_)
    subst hy
    refine Tm.guard (by first | decide | (simp only [List.length_modify, List.length_append, List.length_cons]; omega)) ?_
    refine Tm.guard (by first | decide | (simp only [List.length_modify, List.length_append, List.length_cons]; omega)) ?_
    try simp (disch := omega) only [Zj]
    try simp only [Zaf hA, Zq, List.take_zero, List.take_succ_cons, List.drop_succ_cons, List.drop_zero, List.nil_append, List.cons_append, List.length_cons, List.length_nil, Nat.zero_add, Nat.reduceAdd, List.set_cons_succ, List.set_cons_zero]
    refine hL (_, _, _) ⟨by omega, by omega, done ++ [[.str (Yf.v (u))]], by simp only [List.length_append, List.length_cons, List.length_nil]; omega, ?_, by omega, ZbX.snoc hH (fun k hk => Yl.step (by omega) (by omega) hk)⟩ (by simp only []; omega)
    rw [Zai]
    simp only [Zb, ZZ, ZbW, List.append_assoc, List.cons_append, List.nil_append]
   ·simp only [decide_eq_false_iff_not, hT] at h4
    refine Tm.ret ⟨done, ?_, by omega, ?_, hH⟩
    ·rw [List.drop_eq_nil_of_le (by omega)]
     simp only [Zb, List.append_nil]
    ·rw [List.take_of_length_le (by omega)] at hu
     exact hu
 obtain ⟨v, ⟨ys, e1, e2, e3, hH⟩, h2⟩ := key
 exact ⟨v, ⟨ys, e1, e2, e3, fun k hk => by
  have hk0 : Z3 k := hk
  unfold Yl.t Yl.g
  exact held_run (b := fun xs L v => Yl.l0 k xs (fun z0 => some z0) L v) (by omega) (hH.mono fun _ _ _ h => h k hk) (by omega) (fun L => by simp [Yl.l0, atR, rdQ, Q.ask])⟩, h2⟩
theorem Yh.f_of {β : Type} {k a0 a1 z0} (h : Yh.t k a0 a1 = some z0) (K : Int → Option β) : Yh.f k a0 a1 K = K z0 := by unfold Yh.f Yh.w; rw [h]; rfl
set_option maxRecDepth 100000 in
theorem Yh.step {N : Nat} {u : Int} {ys3 : LD} {n3 : Int} {ys4 : LD} {n4 : Int} (h0 : 0 ≤ u) (hn3 : u + 1 + 1 + 1 ≤ n3) (hh3 : ∀ k, Z3 k → Yl.t k ys3 (u + 1 + 1 + 1) = some n3) (hn4 : n3 ≤ n4) (hh4 : ∀ k, N ≤ k → Yh.t k ys4 (n3) = some n4) (h1 : n4 ≤ 4611686018427387904) {k : Nat} (hk : N ≤ k) (hk0 : Z3 k) : HStep (fun xs L v => Yh.l0 k (Yh.f k) xs (fun z0 => some z0) L v) u [.int .i64 (u), .str (Yf.v (u + 1)), .int .i64 (u + 1 + 1), .sl ys3, .sl ys4] (n4) := by
 intro xs i i0 i1 hl hr L
 simp (disch := first | assumption | omega) only [Yh.l0, atR, rdQ, Q.ask, ZQ i1, cond_true, cond_false, Zbp i0 i1, hr, ZY, Zad, Zaj, ZaQ, Za7, Z6, Zj, Yf.fv, Zu, bne_self_eq_false, beq_self_eq_true, Bool.not_true, Yl.f_of (hh3 k hk0), ZV (show ¬ n3 < 0 by omega), Yh.f_of (hh4 k hk), ZV (show ¬ n4 < 0 by omega)]
set_option maxRecDepth 100000 in
theorem markVal {B : Nat} (hB : B ≤ 1099511627776) (h : Nat) : ∀ {xs : LD} {n : Int}, xs.length ≤ B → (∀ r ∈ xs, Y1 B h r) → 0 ≤ n → n + Zp xs ≤ 4611686018427387904 → Tm (fun k => big + h + 1 ≤ k) (fun k => Yg.t k (Zb xs) n) (fun z => ∃ ys, z.2 = Zb ys ∧ ys.length = xs.length ∧ z.1 = n + Zp xs ∧ ∀ k, big + h + 1 ≤ k → Yh.t k ys n = some z.1) := by
 have hb : big = 2 ^ 64 := rfl
 induction h using Nat.strongRecOn with
 | ind h ih =>
 intro xs n hl g h0 h1
 have key : Tm (fun k => big + h ≤ k) (fun k => Yg.g k (Zb xs) n (fun z0 z1 => some (z0, z1))) (fun z => ∃ ys, z.2 = Zb ys ∧ ys.length = xs.length ∧ z.1 = n + Zp xs ∧ ZbX (fun u r u' => ∀ k, big + h ≤ k → HStep (fun xs L v => Yh.l0 k (Yh.f k) xs (fun z0 => some z0) L v) u r u') n ys z.1) := by
  unfold Yg.g Yg.body
  refine Tm.loop (okk := fun k => big + h ≤ k) (p := fun k => k) (fun i hi => by omega) (b := fun k => Yg.l0 k (Yg.f k) (fun z0 z1 => some (z0, z1))) (fun v => match v with | (u, i, tab) => ((xs.length : Int) - i).toNat) (fun v => match v with | (u, i, tab) => 0 ≤ i ∧ i ≤ xs.length ∧ ∃ done : LD, done.length = i.toNat ∧ tab = Zb done ++ Zb (xs.drop i.toNat) ∧ u = n + Zp (xs.take i.toNat) ∧ ZbX (fun u r u' => ∀ k, big + h ≤ k → HStep (fun xs L v => Yh.l0 k (Yh.f k) xs (fun z0 => some z0) L v) u r u') n done u) ?_ ?_ ?_
  ·rintro ⟨u, i, tab⟩ hI
   simp only [] at hI ⊢
   omega
  ·exact ⟨by omega, by omega, [], rfl, by simp [Zb], by simp [Zp], .nil⟩
  ·rintro ⟨u, i, tab⟩ hI L hL
   simp only [] at hI
   obtain ⟨i0, i1, done, hd, rfl, hu, hH⟩ := hI
   have hA : (Zb done).length = i.toNat := by rw [Zw, hd]
   have hT : (Zb done ++ Zb (xs.drop i.toNat)).length = xs.length := by rw [List.length_append, hA, Zw, List.length_drop]; omega
   simp only [Yg.l0]
   refine Tm.ite (fun h4 => ?_) (fun h4 => ?_)
   ·simp only [decide_eq_true_eq, hT] at h4
    have hx := gR_at i0 h4
    obtain ⟨h', hh', c0, c1, c2, c3, c4, e, k3, l4, k4⟩ : ∃ h', h = h' + 1 ∧ ∃ c0 c1 c2 c3 c4, gR xs i = [.int .i64 c0, .str c1, .int .i64 c2, .sl c3, .sl c4] ∧ Zi RS B c3 ∧ c4.length ≤ B ∧ ∀ r ∈ c4, Y1 B h' r := by
     have := g _ (gR_mem i0 h4)
     generalize gR xs i = r at this
     cases this with
     | mk c0 c1 c2 c3 c4 w0 g1 w2 g3 l4 g4 => exact ⟨_, rfl, _, _, _, _, _, rfl, g3, l4, g4⟩
    rw [e] at hx
    have hdr := drop_at i0 hx
    have hw := wt_take i0 hx
    simp only [ZbG, wtD] at hw
    have hs := wt_split xs (i + 1).toNat
    rw [hdr] at hT ⊢
    simp only [Zb, ZZ, ZbW] at hT ⊢
    have hT2 := hT
    simp only [List.length_append, List.length_cons] at hT2
    refine Tm.guard (by first | decide | (simp only [List.length_modify, List.length_append, List.length_cons]; omega)) ?_
    refine Tm.guard (by first | decide | (simp only [List.length_modify, List.length_append, List.length_cons]; omega)) ?_
    try simp (disch := omega) only [Zj]
    refine Yf.tm (B := big) (fun i hi => by have := hi.1; omega) (Tm.at (ok := Z3) (v := Yf.v _) (fun k hk => Yf.tv (by omega) hk)) (fun y hy => ?_)
    subst hy
    refine Tm.guard (by first | decide | (simp only [List.length_modify, List.length_append, List.length_cons]; omega)) ?_
    refine Tm.guard (by first | decide | (simp only [List.length_modify, List.length_append, List.length_cons]; omega)) ?_
    refine Tm.guard (by first | decide | (simp only [List.length_modify, List.length_append, List.length_cons]; omega)) ?_
    refine Tm.guard (by first | decide | (simp only [List.length_modify, List.length_append, List.length_cons]; omega)) ?_
    refine Tm.guard (by first | decide | (simp only [List.length_modify, List.length_append, List.length_cons]; omega)) ?_
    try simp only [Zaf hA, ZaV hA, Zq, List.take_zero, List.take_succ_cons, List.drop_succ_cons, List.drop_zero, List.nil_append, List.cons_append, List.length_cons, List.length_nil, Nat.zero_add, Nat.reduceAdd, List.set_cons_succ, List.set_cons_zero]
    refine Tm.uncons ?_
    refine Tm.cOwn ?_
    try simp (disch := omega) only [Zj]
    refine Yj.tm (B := big) (fun i hi => by have := hi.1; omega) (Yj.T hB k3 (by omega) (by omega)) (fun y3 t3 hy => ?_)
    obtain ⟨ys3, et3, el3, en3, hh3⟩ := hy
    simp only [] at et3 en3 hh3
    subst et3 en3
    refine Tm.guard (by first | decide | (simp only [List.length_modify, List.length_append, List.length_cons]; omega)) ?_
    try simp only [Zaf hA, ZaV hA, Zq, List.take_zero, List.take_succ_cons, List.drop_succ_cons, List.drop_zero, List.nil_append, List.cons_append, List.length_cons, List.length_nil, Nat.zero_add, Nat.reduceAdd, List.set_cons_succ, List.set_cons_zero]
    refine Tm.uncons ?_
    refine Tm.cOwn ?_
    try simp (disch := omega) only [Zj]
    refine Yg.tm (B := big + h' + 1) (fun i hi => by have := hi.1; omega) (ih h' (by omega) l4 k4 (by omega) (by omega)) (fun y4 t4 hy => ?_)
    obtain ⟨ys4, et4, el4, en4, hh4⟩ := hy
    simp only [] at et4 en4 hh4
    subst et4 en4
    try simp (disch := omega) only [Zj]
    try simp only [Zaf hA, Zq, List.take_zero, List.take_succ_cons, List.drop_succ_cons, List.drop_zero, List.nil_append, List.cons_append, List.length_cons, List.length_nil, Nat.zero_add, Nat.reduceAdd, List.set_cons_succ, List.set_cons_zero]
    refine hL (_, _, _) ⟨by omega, by omega, done ++ [[.int .i64 (u), .str (Yf.v (u + 1)), .int .i64 (u + 1 + 1), .sl ys3, .sl ys4]], by simp only [List.length_append, List.length_cons, List.length_nil]; omega, ?_, by omega, ZbX.snoc hH (fun k hk => Yh.step (by omega) (by omega) hh3 (by omega) hh4 (by omega) (by omega) (by unfold Z3; omega))⟩ (by simp only []; omega)
    rw [Zai]
    simp only [Zb, ZZ, ZbW, List.append_assoc, List.cons_append, List.nil_append]
   ·simp only [decide_eq_false_iff_not, hT] at h4
    refine Tm.ret ⟨done, ?_, by omega, ?_, hH⟩
    ·rw [List.drop_eq_nil_of_le (by omega)]
     simp only [Zb, List.append_nil]
    ·rw [List.take_of_length_le (by omega)] at hu
     exact hu
 refine Tm.succ (g := fun k => Yg.g k (Zb xs) n (fun z0 z1 => some (z0, z1))) (fun k => Yg.t_succ k (Zb xs) n) ?_
 refine key.mono fun z hz => ?_
 obtain ⟨ys, e1, e2, e3, hH⟩ := hz
 refine ⟨ys, e1, e2, e3, fun k hk => ?_⟩
 cases k with
 | zero => omega
 | succ k =>
  rw [Yh.t_succ]
  unfold Yh.g Yh.body
  exact held_run (b := fun xs L v => Yh.l0 k (Yh.f k) xs (fun z0 => some z0) L v) (by omega) (hH.mono fun _ _ _ h => h k (by omega)) (by omega) (fun L => by simp [Yh.l0, atR, rdQ, Q.ask])
theorem Yg.T {B : Nat} (hB : B ≤ 1099511627776) {xs : LD} {n : Int} (g : Zi Yo B xs) (h0 : 0 ≤ n) (h1 : n + Zp xs ≤ 4611686018427387904) : Tm (ZF 1) (fun k => Yg.t k (Zb xs) n) (fun z => ∃ ys, z.2 = Zb ys ∧ ys.length = xs.length ∧ z.1 = n + Zp xs ∧ ∀ k, (ZF 1) k → Yh.t k ys n = some z.1) := by
 have hb : big = 2 ^ 64 := rfl
 have h2 : lv 1 = 2 ^ 65 := rfl
 obtain ⟨H, hH⟩ : ∃ H : Nat, H = 1099511627776 := ⟨_, rfl⟩
 have g' : ∀ x ∈ xs, Y1 B H x := fun x hx => by
  obtain ⟨h, hh, hx⟩ := g.2 x hx
  exact hx.mono (by have := hh hB; omega)
 have hN : big + H + 1 ≤ lv 1 := by omega
 refine ((markVal hB H g.1 g' h0 h1).up hN).mono fun z hz => ?_
 obtain ⟨ys, e1, e2, e3, hh⟩ := hz
 exact ⟨ys, e1, e2, e3, fun k hk => hh k (Nat.le_trans hN hk)⟩
theorem YF.f_of {β : Type} {k a0 a1 z0} (h : YF.t k a0 a1 = some z0) (K : Int → Option β) : YF.f k a0 a1 K = K z0 := by unfold YF.f; rw [h]; rfl
set_option maxRecDepth 100000 in
set_option maxHeartbeats 8000000 in
theorem YF.step {u : Int} {ys6 : LD} {n6 : Int} {ys10 : LD} {n10 : Int} {ys11 : LD} {n11 : Int} {ys15 : LD} {n15 : Int} {ys16 : LD} {n16 : Int} (h0 : 0 ≤ u) (hn6 : u + 1 + 1 + 1 + 1 + 1 + 1 ≤ n6) (hh6 : ∀ k, Z3 k → Yl.t k ys6 (u + 1 + 1 + 1 + 1 + 1 + 1) = some n6) (hn10 : n6 + 1 + 1 + 1 ≤ n10) (hh10 : ∀ k, Z3 k → Yl.t k ys10 (n6 + 1 + 1 + 1) = some n10) (hn11 : n10 ≤ n11) (hh11 : ∀ k, (ZF 1) k → Yh.t k ys11 (n10) = some n11) (hn15 : n11 + 1 + 1 + 1 ≤ n15) (hh15 : ∀ k, Z3 k → Yl.t k ys15 (n11 + 1 + 1 + 1) = some n15) (hn16 : n15 ≤ n16) (hh16 : ∀ k, (ZF 1) k → Yh.t k ys16 (n15) = some n16) (h1 : n16 ≤ 4611686018427387904) {k : Nat} (hk : (ZF 1) k) : HStep (fun xs L v => YF.l0 k xs (fun z0 => some z0) L v) u [.int .i64 (u), .str (Yf.v (u + 1)), .int .i64 (u + 1 + 1), .int .i64 (u + 1 + 1 + 1), .int .i64 (u + 1 + 1 + 1 + 1), .bool (Int.tmod (u + 1 + 1 + 1 + 1 + 1) 3 == 0), .sl ys6, .int .i64 (n6), .str (Yf.v (n6 + 1)), .int .i64 (n6 + 1 + 1), .sl ys10, .sl ys11, .int .i64 (n11), .str (Yf.v (n11 + 1)), .int .i64 (n11 + 1 + 1), .sl ys15, .sl ys16] (n16) := by
 have hk0 : Z3 k := up0 hk
 intro xs i i0 i1 hl hr L
 simp (maxSteps := 4000000) (disch := first | assumption | omega) only [YF.l0, atR, rdQ, Q.ask, ZQ i1, cond_true, cond_false, Zbp i0 i1, hr, ZY, Zad, Zaj, ZaQ, Za7, Z6, Zj, Yf.fv, Zu, bne_self_eq_false, beq_self_eq_true, Bool.not_true, ZaP (show (3 : Int) ≠ 0 by decide), Yl.f_of (hh6 k (up0 hk)), ZV (show ¬ n6 < 0 by omega), Yl.f_of (hh10 k (up0 hk)), ZV (show ¬ n10 < 0 by omega), Yh.f_of (hh11 k hk), ZV (show ¬ n11 < 0 by omega), Yl.f_of (hh15 k (up0 hk)), ZV (show ¬ n15 < 0 by omega), Yh.f_of (hh16 k hk), ZV (show ¬ n16 < 0 by omega)]
set_option maxRecDepth 100000 in
set_option maxHeartbeats 8000000 in
theorem YH.T {B : Nat} (hB : B ≤ 1099511627776) {xs : LD} {n : Int} (g : Zi Ya B xs) (h0 : 0 ≤ n) (h1 : n + Zp xs ≤ 4611686018427387904) : Tm (ZF 1) (fun k => YH.t k (Zb xs) n) (fun z => ∃ ys, z.2 = Zb ys ∧ ys.length = xs.length ∧ z.1 = n + Zp xs ∧ ∀ k, (ZF 1) k → YF.t k ys n = some z.1) := by
 have hb : big = 2 ^ 64 := rfl
 have hl := g.1
 have key : Tm (ZF 1) (fun k => YH.t k (Zb xs) n) (fun z => ∃ ys, z.2 = Zb ys ∧ ys.length = xs.length ∧ z.1 = n + Zp xs ∧ ZbX (fun u r u' => ∀ k, (ZF 1) k → HStep (fun xs L v => YF.l0 k xs (fun z0 => some z0) L v) u r u') n ys z.1) := by
  unfold YH.t YH.g
  refine Tm.loop (okk := (ZF 1)) (p := fun k => k) (fun i hi => up0 hi) (b := fun k => YH.l0 k (fun z0 z1 => some (z0, z1))) (fun v => match v with | (u, i, tab) => ((xs.length : Int) - i).toNat) (fun v => match v with | (u, i, tab) => 0 ≤ i ∧ i ≤ xs.length ∧ ∃ done : LD, done.length = i.toNat ∧ tab = Zb done ++ Zb (xs.drop i.toNat) ∧ u = n + Zp (xs.take i.toNat) ∧ ZbX (fun u r u' => ∀ k, (ZF 1) k → HStep (fun xs L v => YF.l0 k xs (fun z0 => some z0) L v) u r u') n done u) ?_ ?_ ?_
  ·rintro ⟨u, i, tab⟩ hI
   simp only [] at hI ⊢
   omega
  ·exact ⟨by omega, by omega, [], rfl, by simp [Zb], by simp [Zp], .nil⟩
  ·rintro ⟨u, i, tab⟩ hI L hL
   simp only [] at hI
   obtain ⟨i0, i1, done, hd, rfl, hu, hH⟩ := hI
   have hA : (Zb done).length = i.toNat := by rw [Zw, hd]
   have hT : (Zb done ++ Zb (xs.drop i.toNat)).length = xs.length := by rw [List.length_append, hA, Zw, List.length_drop]; omega
   simp only [YH.l0]
   refine Tm.ite (fun h4 => ?_) (fun h4 => ?_)
   ·simp only [decide_eq_true_eq, hT] at h4
    have hx := gR_at i0 h4
    obtain ⟨c0, c1, c2, c3, c4, c5, c6, c7, c8, c9, c10, c11, c12, c13, c14, c15, c16, e, k0, k1, k2, k3, k4, k6, k7, k8, k9, k10, k11, k12, k13, k14, k15, k16, _⟩ := (g.2 _ (gR_mem i0 h4)).open
    rw [e] at hx
    have hdr := drop_at i0 hx
    have hw := wt_take i0 hx
    simp only [ZbG, wtD] at hw
    have hs := wt_split xs (i + 1).toNat
    rw [hdr] at hT ⊢
    simp only [Zb, ZZ, ZbW] at hT ⊢
    have hT2 := hT
    simp only [List.length_append, List.length_cons] at hT2
    refine Tm.guard (by first | decide | (simp only [List.length_modify, List.length_append, List.length_cons]; omega)) ?_
    refine Tm.guard (by first | decide | (simp only [List.length_modify, List.length_append, List.length_cons]; omega)) ?_
    try simp (disch := omega) only [Zj]
    refine Yf.tm (fun i hi => up0 hi.1) (Tm.at (ok := Z3) (v := Yf.v _) (fun k hk => Yf.tv (by omega) hk)) (fun y hy => ?_)
    subst hy
    refine Tm.guard (by first | decide | (simp only [List.length_modify, List.length_append, List.length_cons]; omega)) ?_
    refine Tm.guard (by first | decide | (simp only [List.length_modify, List.length_append, List.length_cons]; omega)) ?_
    refine Tm.guard (by first | decide | (simp only [List.length_modify, List.length_append, List.length_cons]; omega)) ?_
    refine Tm.guard (by first | decide | (simp only [List.length_modify, List.length_append, List.length_cons]; omega)) ?_
    refine Tm.guard (by first | decide | (simp only [List.length_modify, List.length_append, List.length_cons]; omega)) ?_
    refine Tm.guard (by first | decide | (simp only [List.length_modify, List.length_append, List.length_cons]; omega)) ?_
    refine Tm.guard (by first | decide | (simp only [List.length_modify, List.length_append, List.length_cons]; omega)) ?_
    refine Tm.guard (by first | decide | (simp only [List.length_modify, List.length_append, List.length_cons]; omega)) ?_
    refine Tm.guard (by first | decide | (simp only [List.length_modify, List.length_append, List.length_cons]; omega)) ?_
    refine Tm.guard (by first | decide | (simp only [List.length_modify, List.length_append, List.length_cons]; omega)) ?_
    refine Tm.guard (by first | decide | (simp only [List.length_modify, List.length_append, List.length_cons]; omega)) ?_
    refine Tm.guard (by first | decide | (simp only [List.length_modify, List.length_append, List.length_cons]; omega)) ?_
    try simp only [Zaf hA, ZaV hA, Zq, List.take_zero, List.take_succ_cons, List.drop_succ_cons, List.drop_zero, List.nil_append, List.cons_append, List.length_cons, List.length_nil, Nat.zero_add, Nat.reduceAdd, List.set_cons_succ, List.set_cons_zero]
    refine Tm.uncons ?_
    refine Tm.cOwn ?_
    try simp (disch := omega) only [Zj]
    refine Yj.tm (fun i hi => up0 hi.1) (Yj.T hB k6 (by omega) (by omega)) (fun y6 t6 hy => ?_)
    obtain ⟨ys6, et6, el6, en6, hh6⟩ := hy
    simp only [] at et6 en6 hh6
    subst et6 en6
    refine Tm.guard (by first | decide | (simp only [List.length_modify, List.length_append, List.length_cons]; omega)) ?_
    refine Tm.guard (by first | decide | (simp only [List.length_modify, List.length_append, List.length_cons]; omega)) ?_
    try simp (disch := omega) only [Zj]
    refine Yf.tm (fun i hi => up0 hi.1) (Tm.at (ok := Z3) (v := Yf.v _) (fun k hk => Yf.tv (by omega) hk)) (fun y hy => ?_)
    subst hy
    refine Tm.guard (by first | decide | (simp only [List.length_modify, List.length_append, List.length_cons]; omega)) ?_
    refine Tm.guard (by first | decide | (simp only [List.length_modify, List.length_append, List.length_cons]; omega)) ?_
    refine Tm.guard (by first | decide | (simp only [List.length_modify, List.length_append, List.length_cons]; omega)) ?_
    refine Tm.guard (by first | decide | (simp only [List.length_modify, List.length_append, List.length_cons]; omega)) ?_
    refine Tm.guard (by first | decide | (simp only [List.length_modify, List.length_append, List.length_cons]; omega)) ?_
    try simp only [Zaf hA, ZaV hA, Zq, List.take_zero, List.take_succ_cons, List.drop_succ_cons, List.drop_zero, List.nil_append, List.cons_append, List.length_cons, List.length_nil, Nat.zero_add, Nat.reduceAdd, List.set_cons_succ, List.set_cons_zero]
    refine Tm.uncons ?_
    refine Tm.cOwn ?_
    try simp (disch := omega) only [Zj]
    refine Yj.tm (fun i hi => up0 hi.1) (Yj.T hB k10 (by omega) (by omega)) (fun y10 t10 hy => ?_)
    obtain ⟨ys10, et10, el10, en10, hh10⟩ := hy
    simp only [] at et10 en10 hh10
    subst et10 en10
    refine Tm.guard (by first | decide | (simp only [List.length_modify, List.length_append, List.length_cons]; omega)) ?_
    try simp only [Zaf hA, ZaV hA, Zq, List.take_zero, List.take_succ_cons, List.drop_succ_cons, List.drop_zero, List.nil_append, List.cons_append, List.length_cons, List.length_nil, Nat.zero_add, Nat.reduceAdd, List.set_cons_succ, List.set_cons_zero]
    refine Tm.uncons ?_
    refine Tm.cOwn ?_
    try simp (disch := omega) only [Zj]
    refine Yg.tm (fun i hi => hi.1) (Yg.T hB k11 (by omega) (by omega)) (fun y11 t11 hy => ?_)
    obtain ⟨ys11, et11, el11, en11, hh11⟩ := hy
    simp only [] at et11 en11 hh11
    subst et11 en11
    refine Tm.guard (by first | decide | (simp only [List.length_modify, List.length_append, List.length_cons]; omega)) ?_
    refine Tm.guard (by first | decide | (simp only [List.length_modify, List.length_append, List.length_cons]; omega)) ?_
    try simp (disch := omega) only [Zj]
    refine Yf.tm (fun i hi => up0 hi.1) (Tm.at (ok := Z3) (v := Yf.v _) (fun k hk => Yf.tv (by omega) hk)) (fun y hy => ?_)
    subst hy
    refine Tm.guard (by first | decide | (simp only [List.length_modify, List.length_append, List.length_cons]; omega)) ?_
    refine Tm.guard (by first | decide | (simp only [List.length_modify, List.length_append, List.length_cons]; omega)) ?_
    refine Tm.guard (by first | decide | (simp only [List.length_modify, List.length_append, List.length_cons]; omega)) ?_
    refine Tm.guard (by first | decide | (simp only [List.length_modify, List.length_append, List.length_cons]; omega)) ?_
    refine Tm.guard (by first | decide | (simp only [List.length_modify, List.length_append, List.length_cons]; omega)) ?_
    try simp only [Zaf hA, ZaV hA, Zq, List.take_zero, List.take_succ_cons, List.drop_succ_cons, List.drop_zero, List.nil_append, List.cons_append, List.length_cons, List.length_nil, Nat.zero_add, Nat.reduceAdd, List.set_cons_succ, List.set_cons_zero]
    refine Tm.uncons ?_
    refine Tm.cOwn ?_
    try simp (disch := omega) only [Zj]
    refine Yj.tm (fun i hi => up0 hi.1) (Yj.T hB k15 (by omega) (by omega)) (fun y15 t15 hy => ?_)
    obtain ⟨ys15, et15, el15, en15, hh15⟩ := hy
    simp only [] at et15 en15 hh15
    subst et15 en15
    refine Tm.guard (by first | decide | (simp only [List.length_modify, List.length_append, List.length_cons]; omega)) ?_
    try simp only [Zaf hA, ZaV hA, Zq, List.take_zero, List.take_succ_cons, List.drop_succ_cons, List.drop_zero, List.nil_append, List.cons_append, List.length_cons, List.length_nil, Nat.zero_add, Nat.reduceAdd, List.set_cons_succ, List.set_cons_zero]
    refine Tm.uncons ?_
    refine Tm.cOwn ?_
    try simp (disch := omega) only [Zj]
    refine Yg.tm (fun i hi => hi.1) (Yg.T hB k16 (by omega) (by omega)) (fun y16 t16 hy => ?_)
    obtain ⟨ys16, et16, el16, en16, hh16⟩ := hy
    simp only [] at et16 en16 hh16
    subst et16 en16
    try simp (disch := omega) only [Zj]
    try simp only [Zaf hA, Zq, List.take_zero, List.take_succ_cons, List.drop_succ_cons, List.drop_zero, List.nil_append, List.cons_append, List.length_cons, List.length_nil, Nat.zero_add, Nat.reduceAdd, List.set_cons_succ, List.set_cons_zero]
    refine hL (_, _, _) ⟨by omega, by omega, done ++ [[.int .i64 (u), .str (Yf.v (u + 1)), .int .i64 (u + 1 + 1), .int .i64 (u + 1 + 1 + 1), .int .i64 (u + 1 + 1 + 1 + 1), .bool (Int.tmod (u + 1 + 1 + 1 + 1 + 1) 3 == 0), .sl ys6, .int .i64 (u + 1 + 1 + 1 + 1 + 1 + 1 + (Zp c6 : Int)), .str (Yf.v (u + 1 + 1 + 1 + 1 + 1 + 1 + (Zp c6 : Int) + 1)), .int .i64 (u + 1 + 1 + 1 + 1 + 1 + 1 + (Zp c6 : Int) + 1 + 1), .sl ys10, .sl ys11, .int .i64 (u + 1 + 1 + 1 + 1 + 1 + 1 + (Zp c6 : Int) + 1 + 1 + 1 + (Zp c10 : Int) + (Zp c11 : Int)), .str (Yf.v (u + 1 + 1 + 1 + 1 + 1 + 1 + (Zp c6 : Int) + 1 + 1 + 1 + (Zp c10 : Int) + (Zp c11 : Int) + 1)), .int .i64 (u + 1 + 1 + 1 + 1 + 1 + 1 + (Zp c6 : Int) + 1 + 1 + 1 + (Zp c10 : Int) + (Zp c11 : Int) + 1 + 1), .sl ys15, .sl ys16]], by simp only [List.length_append, List.length_cons, List.length_nil]; omega, ?_, by omega, ZbX.snoc hH (fun k hk => YF.step (by omega) (by omega) hh6 (by omega) hh10 (by omega) hh11 (by omega) hh15 (by omega) hh16 (by omega) hk)⟩ (by simp only []; omega)
    rw [Zai]
    simp only [Zb, ZZ, ZbW, List.append_assoc, List.cons_append, List.nil_append]
   ·simp only [decide_eq_false_iff_not, hT] at h4
    refine Tm.ret ⟨done, ?_, by omega, ?_, hH⟩
    ·rw [List.drop_eq_nil_of_le (by omega)]
     simp only [Zb, List.append_nil]
    ·rw [List.take_of_length_le (by omega)] at hu
     exact hu
 obtain ⟨v, ⟨ys, e1, e2, e3, hH⟩, h2⟩ := key
 exact ⟨v, ⟨ys, e1, e2, e3, fun k hk => by
  have hk0 : Z3 k := up0 hk
  unfold YF.t YF.g
  exact held_run (b := fun xs L v => YF.l0 k xs (fun z0 => some z0) L v) (by omega) (hH.mono fun _ _ _ h => h k hk) (by omega) (fun L => by simp [YF.l0, atR, rdQ, Q.ask])⟩, h2⟩
theorem Yad.tm {ι α : Type} {ok : ι → Prop} {ψ : α → Prop} {p : ι → Nat} {B : Nat} (hp : ∀ i, ok i → B ≤ p i) {aB aA a1 φ} (h : Tm (fun k => B ≤ k) (fun k => Yad.t k aB aA a1) φ) {G : ι → Int → Option α} (hG : ∀ z0, φ z0 → Tm ok (fun i => G i z0) ψ) : Tm ok (fun i => Yad.f (p i) aB aA a1 (G i)) ψ := ZK (t := fun k => Yad.t k aB aA a1) hp h hG
set_option maxRecDepth 100000 in
set_option maxHeartbeats 8000000 in
theorem Y7.T {B : Nat} (hB : B ≤ 1099511627776) {c0 : Int} {a1 : LD} {n : Int} (g1 : Zi Ya B a1) (h0 : 0 ≤ n) (h1 : n + Zp a1 ≤ 4611686018427387904) : Tm (ZF 1) (fun k => Y7.t k c0 (Zb a1) n) (fun z => ∃ ys1, z.1 = n + Zp a1 ∧ z.2 = Zb ys1 ∧ ys1.length = a1.length ∧ ∀ k, (ZF 1) k → Yad.t k c0 ys1 n = some z.1) := by
 unfold Y7.t Y7.g
 refine YH.tm (fun i hi => hi) (YH.T hB g1 (by omega) (by omega)) (fun y1 t1 hy => ?_)
 obtain ⟨ys1, et1, el1, en1, hh1⟩ := hy
 simp only [] at et1 en1 hh1
 subst et1 en1
 try refine Tm.guard (by rw [Zw, Zw]; exact el1) ?_
 exact Tm.ret ⟨ys1, rfl, rfl, el1, fun k hk => by
  unfold Yad.t Yad.g
  rw [YF.f_of (hh1 k hk)]; simp only [ZV (show ¬ (n + (Zp a1 : Int)) < 0 by omega), cond_false]⟩
end Go.Proofs.Ytlobhlnahhjpjaa
