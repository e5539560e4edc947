/- Printed, and by hand: the functions that FnExactPlans reaches come to their end; the program's answer as the reference's. -/
import Derived.Test.YtppfencdbabmeaaGreatYEPlans0
import Derived.KernelRfl
set_option linter.unusedVariables false
set_option linter.unusedSimpArgs false
namespace Go.Proofs.YtppfencdbabmeaaGreat
open Go Go.T Go.Proofs
theorem mem_filt {p : Nat → Bool} {l : List Nat} {x : Nat} (h : x ∈ l.filter p) : x ∈ l := (List.mem_filter.mp h).1
theorem Ybh {α : Type} {p q : Prop} [Decidable p] [Decidable q] {a a' b : α} (h : p ↔ q) (ha : a = a') : (if p then a else b) = if q then a' else b := by
 subst ha
 by_cases hp : p
 ·rw [if_pos hp, if_pos (h.mp hp)]
 ·rw [if_neg hp, if_neg fun hq => hp (h.mpr hq)]
theorem bestD_snoc {r : Nat → Int} {i : Nat} : ∀ (l : List Nat) (b : Option Nat), bestD r (l ++ [i]) b = match bestD r l b with | none => some i | some b => if r b < r i then some i else some b
 | [], none => rfl
 | [], some b => by simp only [List.nil_append, bestD]
 | x :: l, none => by
  simp only [List.cons_append, bestD]
  exact bestD_snoc l (some x)
 | x :: l, some b => by
  simp only [List.cons_append, bestD]
  split
  ·exact bestD_snoc l (some x)
  ·exact bestD_snoc l (some b)
theorem bestD_mem {r : Nat → Int} : ∀ (l : List Nat) (b : Option Nat) (c : Nat), bestD r l b = some c → c ∈ l ∨ b = some c
 | [], b, c, h => .inr h
 | x :: l, none, c, h => by
  rcases bestD_mem l (some x) c h with h | h
  ·exact .inl (by simp [h])
  ·cases h; exact .inl (by simp)
 | x :: l, some b, c, h => by
  unfold bestD at h
  split at h
  ·rcases bestD_mem l (some x) c h with h | h
   ·exact .inl (by simp [h])
   ·cases h; exact .inl (by simp)
  ·rcases bestD_mem l (some b) c h with h | h
   ·exact .inl (by simp [h])
   ·exact .inr h
def encO : Option Nat → Int
 | none => -1
 | some b => b
set_option maxRecDepth 100000 in
theorem best_fv {a1 : LD} {L : Nat} {p : Nat → Bool} {r' : Nat → Int} {left : Int} {base : LC} (hL : L = a1.length) (hl : L < 20) {k : Nat} (hk : Z3 k) {β : Type} {L1 : (LD × LD × Int × LC × LC) → Option β} {K : LC → Option β} {c : Nat} (hc : bestD r' ((List.range L).filter p) none = some c) :
  Zo (Ys.l2 k a1 (rowD L fun j => .bool (p j)) left base (YaL L (cI r')) L1 K) k (-1, 0) = Ys.l2 k a1 (rowD L fun j => .bool (p j)) left base (YaL L (cI r')) L1 K (fun _ => none) ((c : Int), (L : Int)) := by
 have hb : big = 2 ^ 64 := rfl
 refine iter_seq (f := fun i => (encO (bestD r' ((List.range i).filter p) none), (i : Int))) (n := L) (by unfold Z3 at hk; omega) (fun M i hi => ?_) (fun M => ?_)
 ·have hw1 : IntKind.wrap .i64 ((i : Int) + 1) = ((i + 1 : Nat) : Int) := by rw [Zj (by omega) (by omega)]; omega
  simp only [Ys.l2, atR, rdQ, Q.ask]
  rw [ZQ (show (i : Int) < (a1.length : Int) by omega)]
  simp only [cond_true, rowD_at hi, ZY, ZaQ, Z6, hw1]
  rw [Yba]
  cases hp : p i with
  | false => simp only [cond_false, Bool.false_eq_true, if_false, List.append_nil]
  | true =>
   simp only [cond_true, if_true]
   rw [bestD_snoc]
   cases hbe : bestD r' ((List.range i).filter p) none with
   | none => rw [ZQ (show encO none < 0 by decide)]; rfl
   | some b =>
    have hbl : b < L := by
     rcases bestD_mem _ _ _ hbe with h | h
     ·have := List.mem_range.mp (mem_filt h); omega
     ·cases h
    rw [ZV (show ¬ encO (some b) < 0 by simp only [encO]; omega)]
    simp only [cond_false, encO]
    rw [ZaP ⟨by omega, by rw [Yav]; omega⟩, Int.toNat_natCast, Ya9 hi]
    simp only [List.drop_zero, ZY, cD_at, Zad]
    rw [ZaP ⟨by omega, by rw [Yav]; omega⟩, Int.toNat_natCast, Ya9 hbl]
    simp only [List.drop_zero, ZY, cD_at, Zad]
    by_cases hlt : r' b < r' i
    ·rw [ZQ (show r' i > r' b from hlt), if_pos hlt]
     rfl
    ·rw [ZV (show ¬ r' i > r' b from hlt), if_neg hlt]
     rfl
 ·rw [hc]
  have : ¬ ((L : Nat) : Int) < (a1.length : Int) := by omega
  simp only [Ys.l2, atR, rdQ, Q.ask, encO]
  rw [ZV this]
  rfl
set_option maxRecDepth 100000 in
theorem wants_fv {n : Int} {a1 : LD} {w c o : Nat → Int} {op : List Nat} {s : Int} (hwd : w = fun i : Nat => gI a1 (i : Int) 0) (hop : op = opL w c o a1.length) (hs : s = smL w op) (g1 : Zi RI lim a1) (hw : ∀ i, i < a1.length → 0 ≤ w i ∧ w i ≤ 1000) (hn : 0 < n) (hn2 : n ≤ 10000) (h0 : op ≠ []) (hl : a1.length < 20) {k : Nat} (hk : Z3 k) {β : Type} (K : LC → Option β) :
  Ys.f k n a1 (rowD a1.length fun j => .bool (opB w c o j)) s K = K (YaL a1.length (cI fun j => if j ∈ op then xD w n s op j else 0)) := Ys.f_of (by
 have hb : big = 2 ^ 64 := rfl
 have hmost : ZN = 2 ^ 36 := rfl
 have hkk : a1.length < k := by unfold Z3 at hk; omega
 obtain ⟨o1, o2⟩ := opL_facts (w := w) (c := c) (o := o) (L := a1.length)
 rw [← hop] at o1 o2
 have hw0 : ∀ i ∈ op, 0 < w i := fun i hi => ((o2 i).mp hi).2.1
 obtain ⟨f1, f2, f3, f4⟩ := lfD_bound (Int.le_of_lt hn) hw0 h0
 rw [← hs] at f1 f2 f3 f4
 have hopl : op.length < 20 := by
  have : op.length ≤ (List.range a1.length).length := by rw [hop]; exact List.length_filter_le ..
  rw [List.length_range] at this; omega
 have hbs : ∀ i, i < a1.length → 0 ≤ n * w i ∧ n * w i ≤ 10000000 ∧ 0 ≤ bsD w n s i ∧ bsD w n s i ≤ 10000000 := fun i hi => bsD_le (Int.le_of_lt hn) hn2 f1 (hw i hi)
 have hrs : ∀ i, i < a1.length → 0 ≤ rsD w n s i ∧ rsD w n s i < s ∧ 0 ≤ bsD w n s i := fun i hi => rsD_bound f1 (Int.le_of_lt hn) (hw i hi).1
 have hgw : ∀ i : Nat, gI a1 (i : Int) 0 = w i := fun i => by rw [hwd]
 have hopn : ∀ i, i ≤ a1.length → 0 ≤ (((List.range i).filter (opB w c o)).map (bsD w n s)).sum ∧ (((List.range i).filter (opB w c o)).map (bsD w n s)).sum ≤ 200000000 := fun i hi => by
  have h2 : ((List.range i).filter (opB w c o)).length ≤ i := by have := List.length_filter_le (opB w c o) (List.range i); rwa [List.length_range] at this
  have := sum_le (f := bsD w n s) (b := 10000000) (l := (List.range i).filter (opB w c o)) fun j hj => (hbs j (by have := List.mem_range.mp (mem_filt hj); omega)).2.2
  omega
 unfold Ys.t Ys.g Ys.m
 simp only []
 rw [ZaP ⟨by omega, by omega, by omega, by omega⟩, ZaP ⟨by omega, by omega, by omega, by omega⟩, Int.toNat_natCast, rowF_rep]
 have hz : ∀ g : Nat → Int, YaL a1.length (fun _ => .d (.int .i64 0)) = YaL a1.length (cI fun j => if j < 0 ∧ opB w c o j = true then g j else 0) := fun g => Ya7 fun j hj => by simp
 rw [show ((n, 0, YaL a1.length (fun _ => .d (.int .i64 0)), YaL a1.length (fun _ => .d (.int .i64 0))) : Int × Int × LC × LC) = (n - (((List.range 0).filter (opB w c o)).map (bsD w n s)).sum, ((0 : Nat) : Int), YaL a1.length (cI fun j => if j < 0 ∧ opB w c o j = true then bsD w n s j else 0), YaL a1.length (cI fun j => if j < 0 ∧ opB w c o j = true then rsD w n s j else 0)) from by rw [← hz, ← hz]; simp]
 refine iter_seq (f := fun i => (n - (((List.range i).filter (opB w c o)).map (bsD w n s)).sum, (i : Int), YaL a1.length (cI fun j => if j < i ∧ opB w c o j = true then bsD w n s j else 0), YaL a1.length (cI fun j => if j < i ∧ opB w c o j = true then rsD w n s j else 0))) (n := a1.length) hkk (fun L i hi => ?_) (fun L => ?_)
 ·have hw1 : IntKind.wrap .i64 ((i : Int) + 1) = ((i + 1 : Nat) : Int) := by rw [Zj (by omega) (by omega)]; omega
  obtain ⟨m1, m2, m3, m4⟩ := hbs i hi
  have hst : ∀ g : Nat → Int, opB w c o i = true → YaL a1.length (fun j => if j = i then C.d (.int .i64 (g i)) else cI (fun j => if j < i ∧ opB w c o j = true then g j else 0) j) = YaL a1.length (cI fun j => if j < i + 1 ∧ opB w c o j = true then g j else 0) := fun g hp => Ya7 fun j hj => by
   by_cases hji : j = i
   ·subst hji
    rw [if_pos rfl]
    show _ = C.d (.int .i64 (if j < j + 1 ∧ opB w c o j = true then g j else 0))
    rw [if_pos ⟨by omega, hp⟩]
   ·rw [if_neg hji]
    show C.d (.int .i64 (if j < i ∧ opB w c o j = true then g j else 0)) = C.d (.int .i64 (if j < i + 1 ∧ opB w c o j = true then g j else 0))
    congr 2
    exact Ybh ⟨fun h => ⟨by omega, h.2⟩, fun h => ⟨by omega, h.2⟩⟩ rfl
  have hsf : ∀ g : Nat → Int, opB w c o i = false → YaL a1.length (cI fun j => if j < i ∧ opB w c o j = true then g j else 0) = YaL a1.length (cI fun j => if j < i + 1 ∧ opB w c o j = true then g j else 0) := fun g hp => Ya7 fun j hj => by
   show C.d (.int .i64 (if j < i ∧ opB w c o j = true then g j else 0)) = C.d (.int .i64 (if j < i + 1 ∧ opB w c o j = true then g j else 0))
   congr 2
   refine Ybh ⟨fun h => ⟨by omega, h.2⟩, fun h => ⟨?_, h.2⟩⟩ rfl
   have : j ≠ i := fun e => by subst e; rw [hp] at h; simp at h
   omega
  simp only [Ys.l0, Ys.m0, atR, rdQ, Q.ask]
  rw [ZQ (show (i : Int) < (a1.length : Int) by omega)]
  simp only [cond_true, rowD_at hi, ZY, ZaQ, Z6, hw1]
  rw [Yba]
  cases hp : opB w c o i with
  | false => simp only [cond_false, Bool.false_eq_true, if_false, List.append_nil, hsf _ hp]
  | true =>
   simp only [cond_true, if_true]
   simp (disch := omega) only [RI.row g1, ZY, Zad, Z6, hgw]
   have e : Int.tdiv (n * w i) s = bsD w n s i := rfl
   have e2 : Int.tmod (n * w i) s = rsD w n s i := rfl
   rw [Zj (x := n * w i) (by omega) (by omega), e, e2, Zj (x := bsD w n s i) (by omega) (by omega)]
   have hmod : ∀ g : Nat → Int, ((YaL a1.length (cI fun j => if j < i ∧ opB w c o j = true then g j else 0)).modify i fun x => Zq x 0 [.d (.int .i64 (g i))]) = YaL a1.length (cI fun j => if j < i + 1 ∧ opB w c o j = true then g j else 0) := fun g => by rw [Ybf hi, hst g hp]
   simp only [Int.toNat_natCast, hmod (bsD w n s), hmod (rsD w n s)]
   rw [ZaP (show s ≠ 0 by omega), ZaP ⟨by omega, by rw [Yav]; omega⟩, ZaP (by rw [Yav]; exact hi), ZaP (show s ≠ 0 by omega), ZaP ⟨by omega, by rw [Yav]; omega⟩, ZaP (by rw [Yav]; exact hi), ZaP ⟨by omega, by rw [Yav]; omega⟩, Ya9 hi]
   simp only [List.drop_zero, ZY, cD_at, Zad]
   have hq := hopn i (by omega)
   rw [if_pos ⟨by omega, hp⟩, Zj (by omega) (by omega), List.map_append, List.sum_append, Int.sub_sub]
   simp
 ·simp only [Ys.l0, Ys.m0, atR, rdQ, Q.ask]
  rw [ZV (show ¬ (a1.length : Int) < (a1.length : Int) by omega)]
  simp only [cond_false]
  have hop' : (List.range a1.length).filter (opB w c o) = op := hop.symm
  rw [hop', show n - (op.map (bsD w n s)).sum = lfD w n s op from rfl]
  obtain ⟨s1, s2, s3⟩ := Ybb (r := rsD w n s) o1
  have hchd : chD w n s op = (Ya8 (rsD w n s) op).take (lfD w n s op).toNat := rfl
  have hnd : (Ya8 (rsD w n s) op).Nodup := s1.imp fun {i j} h e => by subst e; rcases h with h | h <;> omega
  have hnext := fun t ht r' hr => best_next (r := rsD w n s) o1 (fun i hi => (hrs i ((o2 i).mp hi).1).1) (t := t) ht (r' := r') hr
  have hmo : ∀ j, j < a1.length → (opB w c o j = true ↔ j ∈ op) := fun j hj => by rw [hop, opL, List.mem_filter, List.mem_range]; exact ⟨fun h => ⟨hj, h⟩, fun h => h.2⟩
  have e1 : YaL a1.length (cI fun j => if j < a1.length ∧ opB w c o j = true then bsD w n s j else 0) = YaL a1.length (cI fun j => if j ∈ op then bsD w n s j + (if j ∈ (Ya8 (rsD w n s) op).take 0 then 1 else 0) else 0) := Ya7 fun j hj => by
   show C.d (.int .i64 (if j < a1.length ∧ opB w c o j = true then bsD w n s j else 0)) = C.d (.int .i64 (if j ∈ op then bsD w n s j + (if j ∈ (Ya8 (rsD w n s) op).take 0 then 1 else 0) else 0))
   congr 2
   exact Ybh ⟨fun h => (hmo j hj).mp h.2, fun h => ⟨hj, (hmo j hj).mpr h⟩⟩ (by simp)
  have e2 : YaL a1.length (cI fun j => if j < a1.length ∧ opB w c o j = true then rsD w n s j else 0) = YaL a1.length (cI fun j => if j ∈ (Ya8 (rsD w n s) op).take 0 then -1 else if j ∈ op then rsD w n s j else 0) := Ya7 fun j hj => by
   show C.d (.int .i64 (if j < a1.length ∧ opB w c o j = true then rsD w n s j else 0)) = C.d (.int .i64 (if j ∈ (Ya8 (rsD w n s) op).take 0 then -1 else if j ∈ op then rsD w n s j else 0))
   rw [List.take_zero, if_neg (by simp : ¬ j ∈ ([] : List Nat))]
   congr 2
   exact Ybh ⟨fun h => (hmo j hj).mp h.2, fun h => ⟨hj, (hmo j hj).mpr h⟩⟩ rfl
  rw [e1, e2]
  generalize Ya8 (rsD w n s) op = Z at *
  have hzo : ∀ z ∈ Z, z ∈ op := fun z hz => (s2 z).mp hz
  rw [show ((a1, rowD a1.length (fun j => D.bool (opB w c o j)), lfD w n s op, YaL a1.length (cI fun j => if j ∈ op then bsD w n s j + (if j ∈ Z.take 0 then 1 else 0) else 0), YaL a1.length (cI fun j => if j ∈ Z.take 0 then -1 else if j ∈ op then rsD w n s j else 0)) : LD × LD × Int × LC × LC) = (a1, rowD a1.length (fun j => D.bool (opB w c o j)), lfD w n s op - ((0 : Nat) : Int), YaL a1.length (cI fun j => if j ∈ op then bsD w n s j + (if j ∈ Z.take 0 then 1 else 0) else 0), YaL a1.length (cI fun j => if j ∈ Z.take 0 then -1 else if j ∈ op then rsD w n s j else 0)) from by simp]
  refine iter_seq (f := fun t => (a1, rowD a1.length (fun j => D.bool (opB w c o j)), lfD w n s op - (t : Int), YaL a1.length (cI fun j => if j ∈ op then bsD w n s j + (if j ∈ Z.take t then 1 else 0) else 0), YaL a1.length (cI fun j => if j ∈ Z.take t then -1 else if j ∈ op then rsD w n s j else 0))) (n := (lfD w n s op).toNat) (by omega) (fun M t ht => ?_) (fun M => ?_)
  ·have htl : t < Z.length := by omega
   have hbest := hnext t (by omega) (fun j => if j ∈ Z.take t then -1 else if j ∈ op then rsD w n s j else 0) (fun i hi => by simp only [hi, if_true])
   rw [List.getElem?_eq_getElem htl] at hbest
   have hzt := hzo _ (List.getElem_mem htl)
   have hzl := ((o2 _).mp hzt).1
   obtain ⟨m1, m2, m3, m4⟩ := hbs Z[t] hzl
   have hn1 : Z[t] ∉ Z.take t := fun h => by
    obtain ⟨j, hj, e⟩ := List.getElem_of_mem h
    rw [List.getElem_take] at e
    rw [List.length_take] at hj
    have := (List.getElem_inj (h₀ := by omega) (h₁ := htl) hnd).mp e
    omega
   have hm : ∀ j, j ∈ Z.take (t + 1) ↔ j ∈ Z.take t ∨ j = Z[t] := fun j => by rw [List.take_add_one, List.getElem?_eq_getElem htl]; simp only [Option.toList, List.mem_append, List.mem_singleton]
   simp only [Ys.l1, Ys.m1]
   rw [ZQ (show lfD w n s op - (t : Int) > 0 by omega)]
   simp only [cond_true]
   rw [best_fv rfl hl hk (by rw [hop']; exact hbest)]
   simp only [Ys.l2, atR, rdQ, Q.ask]
   rw [ZV (show ¬ (a1.length : Int) < (a1.length : Int) by omega)]
   simp only [cond_false]
   rw [ZaP ⟨by omega, by rw [Yav]; omega⟩, Int.toNat_natCast, Ya9 hzl]
   simp only [List.drop_zero, ZY, cD_at, Zad]
   rw [ZaP ⟨by omega, by rw [Yav]; omega⟩, ZaP (by rw [Yav]; exact hzl), ZaP ⟨by omega, by rw [Yav]; omega⟩, ZaP (by rw [Yav]; exact hzl), Ybf hzl, Ybf hzl, if_pos hzt, if_neg hn1, Int.add_zero, Zj (by omega) (by omega), Zj (by omega) (by omega)]
   have r1 : YaL a1.length (fun j => if j = Z[t] then C.d (.int .i64 (bsD w n s Z[t] + 1)) else cI (fun j => if j ∈ op then bsD w n s j + (if j ∈ Z.take t then 1 else 0) else 0) j) = YaL a1.length (cI fun j => if j ∈ op then bsD w n s j + (if j ∈ Z.take (t + 1) then 1 else 0) else 0) := Ya7 fun j hj => by
    by_cases hjz : j = Z[t]
    ·subst hjz
     rw [if_pos rfl]
     show _ = C.d (.int .i64 (if Z[t] ∈ op then bsD w n s Z[t] + (if Z[t] ∈ Z.take (t + 1) then 1 else 0) else 0))
     rw [if_pos hzt, if_pos ((hm _).mpr (Or.inr rfl))]
    ·rw [if_neg hjz]
     show C.d (.int .i64 (if j ∈ op then bsD w n s j + (if j ∈ Z.take t then 1 else 0) else 0)) = C.d (.int .i64 (if j ∈ op then bsD w n s j + (if j ∈ Z.take (t + 1) then 1 else 0) else 0))
     rw [Ybh (p := j ∈ Z.take (t + 1)) (q := j ∈ Z.take t) ⟨fun h => ((hm j).mp h).resolve_right hjz, fun h => (hm j).mpr (Or.inl h)⟩ rfl]
   have r2 : YaL a1.length (fun j => if j = Z[t] then C.d (.int .i64 (-1)) else cI (fun j => if j ∈ Z.take t then -1 else if j ∈ op then rsD w n s j else 0) j) = YaL a1.length (cI fun j => if j ∈ Z.take (t + 1) then -1 else if j ∈ op then rsD w n s j else 0) := Ya7 fun j hj => by
    by_cases hjz : j = Z[t]
    ·subst hjz
     rw [if_pos rfl]
     show _ = C.d (.int .i64 (if Z[t] ∈ Z.take (t + 1) then -1 else if Z[t] ∈ op then rsD w n s Z[t] else 0))
     rw [if_pos ((hm _).mpr (Or.inr rfl))]
    ·rw [if_neg hjz]
     show C.d (.int .i64 (if j ∈ Z.take t then -1 else if j ∈ op then rsD w n s j else 0)) = C.d (.int .i64 (if j ∈ Z.take (t + 1) then -1 else if j ∈ op then rsD w n s j else 0))
     rw [Ybh (p := j ∈ Z.take (t + 1)) (q := j ∈ Z.take t) ⟨fun h => ((hm j).mp h).resolve_right hjz, fun h => (hm j).mpr (Or.inl h)⟩ rfl]
   rw [r1, r2, show lfD w n s op - (t : Int) - 1 = lfD w n s op - ((t + 1 : Nat) : Int) by omega]
  ·simp only [Ys.l1, Ys.m1]
   rw [ZV (show ¬ lfD w n s op - ((lfD w n s op).toNat : Int) > 0 by omega)]
   simp only [cond_false]
   congr 1
   refine Ya7 fun j hj => ?_
   show C.d (.int .i64 (if j ∈ op then bsD w n s j + (if j ∈ Z.take (lfD w n s op).toNat then 1 else 0) else 0)) = C.d (.int .i64 (if j ∈ op then xD w n s op j else 0))
   unfold xD
   rw [hchd]) K
section
variable (w c o : Nat → Int) (L : Nat) (n : Int)
def nxO (j : Nat) : Int := o j + if j ∈ opL w c o L then clD w c o n (smL w (opL w c o L)) (opL w c o L) j else 0
def nxN : Int := n - ((opL w c o L).map (clD w c o n (smL w (opL w c o L)) (opL w c o L))).sum
end
def roundD {β : Type} (w c : Nat → Int) (a1 a2 : LD) (K : LC → Option β) (L0 : (Int × LD × LD × LC) → Option β) (n : Int) (o : Nat → Int) : Option β :=
 if 0 < n then (if opL w c o a1.length = [] then K (YaL a1.length (cI o)) else L0 (nxN w c o a1.length n, a1, a2, YaL a1.length (cI (nxO w c o a1.length n)))) else K (YaL a1.length (cI o))
theorem opB_mem {w c o : Nat → Int} {L i : Nat} (hi : i < L) : opB w c o i = true ↔ i ∈ opL w c o L := by
 rw [opL, List.mem_filter, List.mem_range]
 exact ⟨fun h => ⟨hi, h⟩, fun h => h.2⟩
theorem op_short {w c o : Nat → Int} {L : Nat} (hl : L < 20) : (opL w c o L).length < 20 := by
 have : (opL w c o L).length ≤ (List.range L).length := List.length_filter_le ..
 rw [List.length_range] at this; omega
theorem filt_short (p : Nat → Bool) (i : Nat) : ((List.range i).filter p).length ≤ i := by have := List.length_filter_le p (List.range i); rwa [List.length_range] at this
structure DivOk (w c : Nat → Int) (a1 a2 : LD) : Prop where
 hw : w = fun i : Nat => gI a1 (i : Int) 0
 hc : c = fun i : Nat => gI a2 (i : Int) 0
 g1 : Zi RI lim a1
 g2 : Zi RI lim a2
 he : a2.length = a1.length
 hl : a1.length < 20
 bw : ∀ i, i < a1.length → 0 ≤ w i ∧ w i ≤ 1000
 bc : ∀ i, i < a1.length → c i ≤ 10000
set_option maxRecDepth 100000 in
theorem spec_round {w c o : Nat → Int} {a1 a2 : LD} (h : DivOk w c a1 a2) (ho : ∀ i, i < a1.length → 0 ≤ o i ∧ o i ≤ c i) {n : Int} (hn2 : n ≤ 10000) {k : Nat} (hk : Z3 k) {β : Type} (K : LC → Option β) (L0 : (Int × LD × LD × LC) → Option β) :
  Yu.l0 k K L0 (n, a1, a2, YaL a1.length (cI o)) = roundD w c a1 a2 K L0 n o := by
 obtain ⟨hw, hc, g1, g2, he, hl, bw, bc⟩ := h
 have hb : big = 2 ^ 64 := rfl
 have hmost : ZN = 2 ^ 36 := rfl
 have hkk : a1.length < k := by unfold Z3 at hk; omega
 have hgw : ∀ i : Nat, gI a1 (i : Int) 0 = w i := fun i => by rw [hw]
 have hgc : ∀ i : Nat, gI a2 (i : Int) 0 = c i := fun i => by rw [hc]
 unfold roundD
 simp only [Yu.l0, Yu.m0]
 by_cases hn : 0 < n
 case neg =>
  rw [if_neg hn, ZV (show ¬ n > 0 from hn)]
  rfl
 rw [if_pos hn, ZQ (show n > 0 from hn)]
 simp only [cond_true]
 rw [ZaP ⟨by omega, by omega, by omega, by omega⟩, Int.toNat_natCast, rowF_rep]
 have hz : YaL a1.length (fun _ => C.d (.bool false)) = YaL a1.length (cB fun j => decide (j < 0) && opB w c o j) := Ya7 fun j hj => by simp
 rw [hz]
 refine iter_seq (f := fun i => (smL w ((List.range i).filter (opB w c o)), (i : Int), YaL a1.length (cB fun j => decide (j < i) && opB w c o j))) (n := a1.length) hkk (fun L i hi => ?_) (fun L => ?_)
 ·have hw1 : IntKind.wrap .i64 ((i : Int) + 1) = ((i + 1 : Nat) : Int) := by rw [Zj (by omega) (by omega)]; omega
  have hmod : ∀ b, b = opB w c o i → ((YaL a1.length (cB fun j => decide (j < i) && opB w c o j)).modify i fun x => Zq x 0 [.d (.bool b)]) = YaL a1.length (cB fun j => decide (j < i + 1) && opB w c o j) := fun b hbe => by
   subst hbe
   rw [Ybf hi]
   refine Ya7 fun j hj => ?_
   show (if j = i then C.d (.bool (opB w c o i)) else C.d (.bool (decide (j < i) && opB w c o j))) = C.d (.bool (decide (j < i + 1) && opB w c o j))
   by_cases hji : j = i
   ·subst hji
    simp
   ·rw [if_neg hji, show decide (j < i + 1) = decide (j < i) from decide_eq_decide.mpr (by omega)]
  have hat : (decide (i < i + 1) && opB w c o i) = opB w c o i := by simp
  have hsum := sum_le (f := w) (b := 1000) (l := (List.range i).filter (opB w c o)) fun j hj => bw j (by have := List.mem_range.mp (mem_filt hj); omega)
  have hsh := filt_short (opB w c o) i
  have hwi := bw i hi
  simp only [Yu.l1, Yu.m1, atR, rdQ, Q.ask]
  rw [ZQ (show (i : Int) < (a1.length : Int) by omega)]
  simp only [cond_true]
  simp (disch := omega) only [RI.row g1, RI.row g2, ZY, Zad, Z6, hgw, hgc, Int.toNat_natCast, hw1]
  by_cases hpos : 0 < w i
  ·rw [ZQ (show w i > 0 from hpos)]
   simp only [cond_true]
   have hop : decide (o i < c i) = opB w c o i := by unfold opB; rw [ZQ hpos, Bool.true_and]
   rw [ZaP ⟨by omega, by rw [Yav]; omega⟩, Ya9 hi]
   simp only [List.drop_zero, ZY, cD_at, Zad, hop, hmod _ rfl]
   rw [ZaP ⟨by omega, by rw [Yav]; omega⟩, ZaP (by rw [Yav]; exact hi), ZaP ⟨by omega, by rw [Yav]; omega⟩, Ya9 hi]
   simp only [List.drop_zero, ZY, cD_at, ZaQ, hat]
   rw [Yba]
   cases hp : opB w c o i with
   | false => simp only [cond_false, Bool.false_eq_true, if_false, List.append_nil]
   | true =>
    simp only [cond_true, if_true]
    rw [Zj (by unfold smL; omega) (by unfold smL; omega)]
    unfold smL
    rw [List.map_append, List.sum_append]
    simp
  ·rw [ZV (show ¬ w i > 0 from hpos)]
   simp only [cond_false]
   have hp : false = opB w c o i := by unfold opB; rw [ZV hpos, Bool.false_and]
   simp only [hmod _ hp]
   rw [ZaP ⟨by omega, by rw [Yav]; omega⟩, ZaP (by rw [Yav]; exact hi), ZaP ⟨by omega, by rw [Yav]; omega⟩, Ya9 hi]
   simp only [List.drop_zero, ZY, cD_at, ZaQ, hat]
   rw [Yba, ← hp]
   simp only [cond_false, Bool.false_eq_true, if_false, List.append_nil]
 simp only [Yu.l1, Yu.m1, atR, rdQ, Q.ask]
 rw [ZV (show ¬ (a1.length : Int) < (a1.length : Int) by omega)]
 simp only [cond_false]
 have hopd : (List.range a1.length).filter (opB w c o) = opL w c o a1.length := rfl
 rw [hopd]
 by_cases h0 : opL w c o a1.length = []
 ·rw [if_pos h0, h0]
  rfl
 rw [if_neg h0]
 obtain ⟨o1, o2⟩ := opL_facts (w := w) (c := c) (o := o) (L := a1.length)
 have hw0 : ∀ i ∈ opL w c o a1.length, 0 < w i := fun i hi => ((o2 i).mp hi).2.1
 obtain ⟨f1, _⟩ := lfD_bound (Int.le_of_lt hn) hw0 h0
 rw [show (smL w (opL w c o a1.length) == 0) = false from beq_eq_false_iff_ne.mpr (by omega)]
 simp only [cond_false]
 have hop2 : C.immRows (YaL a1.length (cB fun j => decide (j < a1.length) && opB w c o j)) = rowD a1.length (fun j => .bool (opB w c o j)) := by
  rw [Ya7 (h := cB (opB w c o)) fun j hj => by simp [hj], imm_rowF]
  rfl
 obtain ⟨q1, q2, q3⟩ := clD_sum o1 hn hw0 (fun i hi => ((o2 i).mp hi).2.2) h0
 rw [hop2, wants_fv hw rfl rfl g1 bw hn hn2 h0 hl hk]
 have hmem := fun i (hi : i < a1.length) => opB_mem (w := w) (c := c) (o := o) hi
 have hnO : ∀ j, nxO w c o a1.length n j = o j + if j ∈ opL w c o a1.length then clD w c o n (smL w (opL w c o a1.length)) (opL w c o a1.length) j else 0 := fun j => rfl
 have hnN : nxN w c o a1.length n = n - ((opL w c o a1.length).map (clD w c o n (smL w (opL w c o a1.length)) (opL w c o a1.length))).sum := rfl
 have hcl : ∀ i, clD w c o n (smL w (opL w c o a1.length)) (opL w c o a1.length) i = if c i - o i < xD w n (smL w (opL w c o a1.length)) (opL w c o a1.length) i then c i - o i else xD w n (smL w (opL w c o a1.length)) (opL w c o a1.length) i := fun i => rfl
 generalize hx : xD w n (smL w (opL w c o a1.length)) (opL w c o a1.length) = x at *
 generalize hcl2 : clD w c o n (smL w (opL w c o a1.length)) (opL w c o a1.length) = cl at *
 generalize hope : opL w c o a1.length = op at *
 generalize nxO w c o a1.length n = nO at *
 generalize nxN w c o a1.length n = nN at *
 have hy : ∀ j, j < a1.length → (if c j - o j < (if j ∈ op then x j else 0) then c j - o j else (if j ∈ op then x j else 0)) = if j ∈ op then cl j else 0 := fun j hj => by
  by_cases hm : j ∈ op
  ·simp only [if_pos hm, hcl]
  ·have := ho j hj
   simp only [if_neg hm]
   rw [if_neg (by omega)]
 have hst : YaL a1.length (cI o) = YaL a1.length (cI fun j => if j < 0 then nO j else o j) := Ya7 fun j hj => by simp
 have hst2 : YaL a1.length (cI fun j => if j ∈ op then x j else 0) = YaL a1.length (cI fun j => if j < 0 then (if j ∈ op then cl j else 0) else (if j ∈ op then x j else 0)) := Ya7 fun j hj => by simp
 rw [hst, hst2, show ((n, 0, YaL a1.length (cI fun j => if j < 0 then nO j else o j), YaL a1.length (cI fun j => if j < 0 then (if j ∈ op then cl j else 0) else (if j ∈ op then x j else 0))) : Int × Int × LC × LC) = (n - (((List.range 0).filter (opB w c o)).map cl).sum, ((0 : Nat) : Int), YaL a1.length (cI fun j => if j < 0 then nO j else o j), YaL a1.length (cI fun j => if j < 0 then (if j ∈ op then cl j else 0) else (if j ∈ op then x j else 0))) from by simp]
 refine iter_seq (f := fun i => (n - (((List.range i).filter (opB w c o)).map cl).sum, (i : Int), YaL a1.length (cI fun j => if j < i then nO j else o j), YaL a1.length (cI fun j => if j < i then (if j ∈ op then cl j else 0) else (if j ∈ op then x j else 0)))) (n := a1.length) hkk (fun M i hi => ?_) (fun M => ?_)
 ·have hw1 : IntKind.wrap .i64 ((i : Int) + 1) = ((i + 1 : Nat) : Int) := by rw [Zj (by omega) (by omega)]; omega
  have hoi := ho i hi
  have hci := bc i hi
  have hyi := hy i hi
  have hsum := sum_le (f := cl) (b := 10000) (l := (List.range i).filter (opB w c o)) fun j hj => by
   have hj1 : j < a1.length := by have := List.mem_range.mp (mem_filt hj); omega
   have := q1 j ((hmem j hj1).mp (List.mem_filter.mp hj).2)
   have := bc j hj1
   have := ho j hj1
   omega
  have hsh := filt_short (opB w c o) i
  have hnext : (((List.range (i + 1)).filter (opB w c o)).map cl).sum = (((List.range i).filter (opB w c o)).map cl).sum + if i ∈ op then cl i else 0 := by
   rw [Yba, List.map_append, List.sum_append]
   by_cases hm : i ∈ op
   ·rw [if_pos hm, if_pos ((hmem i hi).mpr hm)]; simp
   ·rw [if_neg hm, if_neg fun h => hm ((hmem i hi).mp h)]; simp
  have hY0 : 0 ≤ (if i ∈ op then cl i else 0) ∧ (if i ∈ op then cl i else 0) ≤ c i - o i := by
   by_cases hm : i ∈ op
   ·rw [if_pos hm]; have := q1 i hm; omega
   ·rw [if_neg hm]; omega
  have hmodo : ((YaL a1.length (cI fun j => if j < i then nO j else o j)).modify i fun z => Zq z 0 [.d (.int .i64 (o i + if i ∈ op then cl i else 0))]) = YaL a1.length (cI fun j => if j < i + 1 then nO j else o j) := by
   rw [Ybf hi]
   refine Ya7 fun j hj => ?_
   show (if j = i then C.d (.int .i64 (o i + if i ∈ op then cl i else 0)) else C.d (.int .i64 (if j < i then nO j else o j))) = C.d (.int .i64 (if j < i + 1 then nO j else o j))
   by_cases hji : j = i
   ·subst hji
    rw [if_pos rfl, if_pos (by omega : j < j + 1), hnO]
   ·rw [if_neg hji, Ybh (p := j < i + 1) (q := j < i) (by omega) rfl]
  have hmodx : ((YaL a1.length (cI fun j => if j < i then (if j ∈ op then cl j else 0) else (if j ∈ op then x j else 0))).modify i fun z => Zq z 0 [.d (.int .i64 (if i ∈ op then cl i else 0))]) = YaL a1.length (cI fun j => if j < i + 1 then (if j ∈ op then cl j else 0) else (if j ∈ op then x j else 0)) := by
   rw [Ybf hi]
   refine Ya7 fun j hj => ?_
   show (if j = i then C.d (.int .i64 (if i ∈ op then cl i else 0)) else C.d (.int .i64 (if j < i then (if j ∈ op then cl j else 0) else (if j ∈ op then x j else 0)))) = C.d (.int .i64 (if j < i + 1 then (if j ∈ op then cl j else 0) else (if j ∈ op then x j else 0)))
   by_cases hji : j = i
   ·subst hji
    rw [if_pos rfl, if_pos (by omega : j < j + 1)]
   ·rw [if_neg hji, Ybh (p := j < i + 1) (q := j < i) (by omega) rfl]
  have hato : (if i < i then nO i else o i) = o i := if_neg (by omega)
  have hatx : (if i < i then (if i ∈ op then cl i else 0) else (if i ∈ op then x i else 0)) = (if i ∈ op then x i else 0) := if_neg (by omega)
  have hatx2 : (if i < i + 1 then (if i ∈ op then cl i else 0) else (if i ∈ op then x i else 0)) = (if i ∈ op then cl i else 0) := if_pos (by omega)
  simp only [Yu.l2, atR, rdQ, Q.ask]
  rw [ZQ (show (i : Int) < (a1.length : Int) by omega)]
  simp only [cond_true]
  rw [ZaP ⟨by omega, by rw [Yav]; omega⟩, Int.toNat_natCast, Ya9 hi]
  simp only [List.drop_zero, ZY, cD_at, Zad, hatx]
  simp (disch := omega) only [RI.row g2, ZY, Zad, Z6, hgc, hw1]
  rw [ZaP ⟨by omega, by rw [Yav]; omega⟩, Ya9 hi]
  simp only [List.drop_zero, ZY, cD_at, Zad, hato]
  have hwc : IntKind.wrap .i64 (c i - o i) = c i - o i := Zj (by omega) (by omega)
  simp only [hwc]
  have hwy : IntKind.wrap .i64 (if i ∈ op then cl i else 0) = (if i ∈ op then cl i else 0) := Zj (by omega) (by omega)
  by_cases hgt : c i - o i < if i ∈ op then x i else 0
  ·rw [if_pos hgt] at hyi
   rw [ZQ (show (if i ∈ op then x i else 0) > c i - o i from hgt)]
   simp only [cond_true, hyi, hmodx]
   rw [ZaP ⟨by omega, by rw [Yav]; omega⟩, Ya9 hi]
   simp only [List.drop_zero, ZY, cD_at, Zad, hato, hwc, hyi, hwy, hmodx]
   rw [ZaP ⟨by omega, by rw [Yav]; omega⟩, ZaP (by rw [Yav]; exact hi), ZaP ⟨by omega, by rw [Yav]; omega⟩, Ya9 hi]
   simp only [List.drop_zero, ZY, cD_at, Zad, hato]
   rw [ZaP ⟨by omega, by rw [Yav]; omega⟩, Ya9 hi]
   simp only [List.drop_zero, ZY, cD_at, Zad, hatx2]
   rw [ZaP ⟨by omega, by rw [Yav]; omega⟩, ZaP (by rw [Yav]; exact hi), ZaP ⟨by omega, by rw [Yav]; omega⟩, Ya9 hi]
   simp only [List.drop_zero, ZY, cD_at, Zad, hatx2]
   rw [Zj (by omega) (by omega), Zj (by omega) (by omega), hmodo, hnext, Int.sub_sub]
  ·rw [if_neg hgt] at hyi
   rw [ZV (show ¬ (if i ∈ op then x i else 0) > c i - o i from hgt)]
   simp only [cond_false]
   have hsame : YaL a1.length (cI fun j => if j < i then (if j ∈ op then cl j else 0) else (if j ∈ op then x j else 0)) = YaL a1.length (cI fun j => if j < i + 1 then (if j ∈ op then cl j else 0) else (if j ∈ op then x j else 0)) := Ya7 fun j hj => by
    show C.d (.int .i64 (if j < i then (if j ∈ op then cl j else 0) else (if j ∈ op then x j else 0))) = C.d (.int .i64 (if j < i + 1 then (if j ∈ op then cl j else 0) else (if j ∈ op then x j else 0)))
    by_cases hji : j = i
    ·subst hji; rw [hatx, hatx2, hyi]
    ·rw [Ybh (p := j < i + 1) (q := j < i) (by omega) rfl]
   rw [ZaP ⟨by omega, by rw [Yav]; omega⟩, Ya9 hi]
   simp only [List.drop_zero, ZY, cD_at, Zad, hato]
   rw [ZaP ⟨by omega, by rw [Yav]; omega⟩, Ya9 hi]
   simp only [List.drop_zero, ZY, cD_at, Zad, hatx]
   rw [ZaP ⟨by omega, by rw [Yav]; omega⟩, ZaP (by rw [Yav]; exact hi), ZaP ⟨by omega, by rw [Yav]; omega⟩, Ya9 hi]
   simp only [List.drop_zero, ZY, cD_at, Zad, hatx, hyi, ite_self]
   rw [Zj (by omega) (by omega), Zj (by omega) (by omega), hmodo, hnext, Int.sub_sub, hsame]
 ·simp only [Yu.l2, atR, rdQ, Q.ask]
  rw [ZV (show ¬ (a1.length : Int) < (a1.length : Int) by omega)]
  simp only [cond_false]
  rw [hopd, hnN, Ya7 (g := cI fun j => if j < a1.length then nO j else o j) (h := cI nO) fun j hj => by show C.d (.int .i64 (if j < a1.length then nO j else o j)) = C.d (.int .i64 (nO j)); rw [if_pos hj]]
theorem Yv.f_of {β : Type} {k a0 a1 a2 z0} (h : Yv.t k a0 a1 a2 = some z0) (K : LC → Option β) : Yv.f k a0 a1 a2 K = K z0 := by unfold Yv.f; rw [h]; rfl
set_option maxRecDepth 100000 in
theorem impl_round {w c o : Nat → Int} {a1 a2 : LD} (h : DivOk w c a1 a2) (ho : ∀ i, i < a1.length → 0 ≤ o i ∧ o i ≤ c i) {n : Int} (hn2 : n ≤ 10000) {k : Nat} (hk : Z3 k) {β : Type} (K : LC → Option β) (L0 : (Int × LD × LD × LC) → Option β) :
  Yv.l0 k K L0 (n, a1, a2, YaL a1.length (cI o)) = roundD w c a1 a2 K L0 n o := by
 obtain ⟨hw, hc, g1, g2, he, hl, bw, bc⟩ := h
 have hb : big = 2 ^ 64 := rfl
 have hmost : ZN = 2 ^ 36 := rfl
 have hkk : a1.length < k := by unfold Z3 at hk; omega
 have hgw : ∀ i : Nat, gI a1 (i : Int) 0 = w i := fun i => by rw [hw]
 have hgc : ∀ i : Nat, gI a2 (i : Int) 0 = c i := fun i => by rw [hc]
 unfold roundD
 simp only [Yv.l0, Yv.m0]
 by_cases hn : 0 < n
 case neg =>
  rw [if_neg hn, ZV (show ¬ n > 0 from hn)]
  rfl
 rw [if_pos hn, ZQ (show n > 0 from hn)]
 simp only [cond_true]
 refine iter_seq (f := fun i => ((i : Int), upN ((List.range i).filter (opB w c o)))) (n := a1.length) hkk (fun L i hi => ?_) (fun L => ?_)
 ·have hw1 : IntKind.wrap .i64 ((i : Int) + 1) = ((i + 1 : Nat) : Int) := by rw [Zj (by omega) (by omega)]; omega
  have hsh := filt_short (opB w c o) i
  simp only [Yv.l1, Yv.m1, atR, rdQ, Q.ask]
  rw [ZQ (show (i : Int) < (a1.length : Int) by omega)]
  simp only [cond_true]
  simp (disch := omega) only [RI.row g1, RI.row g2, ZY, Zad, Z6, hgw, hgc, Int.toNat_natCast, hw1]
  rw [Yba]
  by_cases hpos : 0 < w i
  ·rw [ZQ (show w i > 0 from hpos)]
   simp only [cond_true]
   have hop : decide (o i < c i) = opB w c o i := by unfold opB; rw [ZQ hpos, Bool.true_and]
   rw [ZaP ⟨by omega, by rw [Yav]; omega⟩, Ya9 hi]
   simp only [List.drop_zero, ZY, cD_at, Zad, hop]
   cases hp : opB w c o i with
   | false => simp only [cond_false, Bool.false_eq_true, if_false, List.append_nil]
   | true =>
    simp only [cond_true, if_true]
    rw [ZaP (by simp only [Ybd, List.length_cons, List.length_nil]; omega), show [[C.d (.int .i64 (i : Int))]] = upN [i] from rfl, upN_app]
  ·rw [ZV (show ¬ w i > 0 from hpos)]
   have hp : opB w c o i = false := by unfold opB; rw [ZV hpos, Bool.false_and]
   simp only [cond_false, hp, Bool.false_eq_true, if_false, List.append_nil]
 simp only [Yv.l1, Yv.m1, atR, rdQ, Q.ask]
 rw [ZV (show ¬ (a1.length : Int) < (a1.length : Int) by omega)]
 simp only [cond_false]
 have hopd : (List.range a1.length).filter (opB w c o) = opL w c o a1.length := rfl
 rw [hopd, Ybd]
 by_cases h0 : opL w c o a1.length = []
 ·rw [if_pos h0, h0]
  rfl
 rw [if_neg h0]
 have hopl := op_short (w := w) (c := c) (o := o) hl
 obtain ⟨o1, o2⟩ := opL_facts (w := w) (c := c) (o := o) (L := a1.length)
 have hw0 : ∀ i ∈ opL w c o a1.length, 0 < w i := fun i hi => ((o2 i).mp hi).2.1
 have hl0 : 0 < (opL w c o a1.length).length := List.length_pos_iff.mpr h0
 rw [show (((opL w c o a1.length).length : Int) == 0) = false from beq_eq_false_iff_ne.mpr (by omega)]
 simp only [cond_false]
 obtain ⟨q1, q2, q3⟩ := clD_sum o1 hn hw0 (fun i hi => ((o2 i).mp hi).2.2) h0
 rw [imm_upN, quotas_fv hw g1 o1 (fun i hi => ((o2 i).mp hi).1) bw hw0 hn hn2 h0 hopl hk]
 have hnO : ∀ j, nxO w c o a1.length n j = o j + if j ∈ opL w c o a1.length then clD w c o n (smL w (opL w c o a1.length)) (opL w c o a1.length) j else 0 := fun j => rfl
 have hnN : nxN w c o a1.length n = n - ((opL w c o a1.length).map (clD w c o n (smL w (opL w c o a1.length)) (opL w c o a1.length))).sum := rfl
 have hcl : ∀ i, clD w c o n (smL w (opL w c o a1.length)) (opL w c o a1.length) i = if c i - o i < xD w n (smL w (opL w c o a1.length)) (opL w c o a1.length) i then c i - o i else xD w n (smL w (opL w c o a1.length)) (opL w c o a1.length) i := fun i => rfl
 generalize hx : xD w n (smL w (opL w c o a1.length)) (opL w c o a1.length) = x at *
 generalize hcl2 : clD w c o n (smL w (opL w c o a1.length)) (opL w c o a1.length) = cl at *
 generalize hope : opL w c o a1.length = op at *
 generalize nxO w c o a1.length n = nO at *
 generalize nxN w c o a1.length n = nN at *
 have hnd : op.Nodup := o1.imp fun h e => by subst e; omega
 have hst : YaL a1.length (cI o) = YaL a1.length (cI fun j => if j ∈ op.take 0 then nO j else o j) := Ya7 fun j hj => by simp
 rw [Yav, hst, show ((n, 0, YaL a1.length (cI fun j => if j ∈ op.take 0 then nO j else o j)) : Int × Int × LC) = (n - ((op.take 0).map cl).sum, ((0 : Nat) : Int), YaL a1.length (cI fun j => if j ∈ op.take 0 then nO j else o j)) from by simp]
 refine iter_seq (f := fun i => (n - ((op.take i).map cl).sum, (i : Int), YaL a1.length (cI fun j => if j ∈ op.take i then nO j else o j))) (n := op.length) (by omega) (fun M i hi => ?_) (fun M => ?_)
 ·have hw1 : IntKind.wrap .i64 ((i : Int) + 1) = ((i + 1 : Nat) : Int) := by rw [Zj (by omega) (by omega)]; omega
  have hm := List.getElem_mem hi
  have hpl := ((o2 _).mp hm).1
  have hoi := ho _ hpl
  have hci := bc _ hpl
  have hqi := q1 _ hm
  have hsum := sum_le (f := cl) (b := 10000) (l := op.take i) fun j hj => by
   have hj1 := List.mem_of_mem_take hj
   have hj2 := ((o2 j).mp hj1).1
   have := q1 j hj1
   have := bc j hj2
   have := ho j hj2
   omega
  have hsh : (op.take i).length ≤ 20 := by rw [List.length_take]; omega
  have hn1 : op[i] ∉ op.take i := fun h => by
   obtain ⟨j, hj, e⟩ := List.getElem_of_mem h
   rw [List.getElem_take] at e
   rw [List.length_take] at hj
   have := (List.getElem_inj (h₀ := by omega) (h₁ := hi) hnd).mp e
   omega
  have hmm : ∀ j, j ∈ op.take (i + 1) ↔ j ∈ op.take i ∨ j = op[i] := fun j => by rw [List.take_add_one, List.getElem?_eq_getElem hi]; simp only [Option.toList, List.mem_append, List.mem_singleton]
  have hmodo : ((YaL a1.length (cI fun j => if j ∈ op.take i then nO j else o j)).modify op[i] fun z => Zq z 0 [.d (.int .i64 (o op[i] + cl op[i]))]) = YaL a1.length (cI fun j => if j ∈ op.take (i + 1) then nO j else o j) := by
   rw [Ybf hpl]
   refine Ya7 fun j hj => ?_
   show (if j = op[i] then C.d (.int .i64 (o op[i] + cl op[i])) else C.d (.int .i64 (if j ∈ op.take i then nO j else o j))) = C.d (.int .i64 (if j ∈ op.take (i + 1) then nO j else o j))
   by_cases hji : j = op[i]
   ·subst hji
    rw [if_pos rfl, if_pos ((hmm _).mpr (Or.inr rfl)), hnO, if_pos hm]
   ·rw [if_neg hji, Ybh (p := j ∈ op.take (i + 1)) (q := j ∈ op.take i) ⟨fun h => ((hmm j).mp h).resolve_right hji, fun h => (hmm j).mpr (Or.inl h)⟩ rfl]
  simp only [Yv.l2, atR, rdQ, Q.ask]
  rw [ZQ (show (i : Int) < (op.length : Int) by omega)]
  simp only [cond_true]
  rw [ZaP ⟨by omega, by rw [Yav]; omega⟩, Int.toNat_natCast, Ya9 hi]
  simp only [List.drop_zero, ZY, cD_at, Zad, getD_at hi]
  rw [ZaP ⟨by omega, by rw [Ybd]; omega⟩, upN_at hi]
  simp only [List.drop_zero, ZY, cD_at, Zad]
  simp (disch := omega) only [RI.row g2, ZY, Zad, Z6, hgc, hw1, Int.toNat_natCast]
  rw [ZaP ⟨by omega, by rw [Yav]; omega⟩, Ya9 hpl]
  simp only [List.drop_zero, ZY, cD_at, Zad, if_neg hn1]
  rw [ZaP ⟨by omega, by rw [Yav]; omega⟩, Ya9 hpl]
  simp only [List.drop_zero, ZY, cD_at, Zad, if_neg hn1]
  have hwc : IntKind.wrap .i64 (c op[i] - o op[i]) = c op[i] - o op[i] := Zj (by omega) (by omega)
  rw [ZaP ⟨by omega, by rw [Yav]; omega⟩, ZaP (by rw [Yav]; exact hpl)]
  simp only [hwc, ← hcl]
  rw [Zj (by omega) (by omega), Zj (by omega) (by omega), hmodo, Ybr hi, Int.sub_sub]
 ·simp only [Yv.l2, atR, rdQ, Q.ask]
  rw [ZV (show ¬ (op.length : Int) < (op.length : Int) by omega)]
  simp only [cond_false, List.take_length]
  rw [hnN, Ya7 (g := cI fun j => if j ∈ op then nO j else o j) (h := cI nO) fun j hj => by
   show C.d (.int .i64 (if j ∈ op then nO j else o j)) = C.d (.int .i64 (nO j))
   by_cases hm : j ∈ op
   ·rw [if_pos hm]
   ·rw [if_neg hm, hnO, if_neg hm, Int.add_zero]]
theorem all_both (p q : Nat → Bool) : ∀ l : List Nat, (l.all fun i => p i && q i) = (l.all p && l.all q)
 | [] => rfl
 | x :: l => by
  simp only [List.all_cons, all_both p q l]
  cases p x <;> cases q x <;> simp
theorem div_rounds {w c : Nat → Int} {a1 a2 : LD} (h : DivOk w c a1 a2) : ∀ (N : Nat) (n : Int) (o : Nat → Int), n.toNat ≤ N → n ≤ 10000 → (∀ i, i < a1.length → 0 ≤ o i ∧ o i ≤ c i) →
  ∃ r : Nat → Int, (∀ i, i < a1.length → 0 ≤ r i ∧ r i ≤ c i) ∧ ∀ {k : Nat}, Z3 k → ∀ m, N < m → ∀ {β : Type} (K : LC → Option β),
   Zo (Yu.l0 k K) m (n, a1, a2, YaL a1.length (cI o)) = K (YaL a1.length (cI r)) ∧ Zo (Yv.l0 k K) m (n, a1, a2, YaL a1.length (cI o)) = K (YaL a1.length (cI r)) := by
 intro N
 induction N with
 | zero =>
  intro n o hN hn2 ho
  refine ⟨o, ho, fun {k} hk m hm {β} K => ?_⟩
  rw [iter_step hm, iter_step hm, spec_round h ho hn2 hk, impl_round h ho hn2 hk]
  unfold roundD
  rw [if_neg (by omega), if_neg (by omega)]
  exact ⟨rfl, rfl⟩
 | succ N ih =>
  intro n o hN hn2 ho
  by_cases hn : 0 < n
  case neg =>
   refine ⟨o, ho, fun {k} hk m hm {β} K => ?_⟩
   rw [iter_step (by omega), iter_step (by omega), spec_round h ho hn2 hk, impl_round h ho hn2 hk]
   unfold roundD
   rw [if_neg hn, if_neg hn]
   exact ⟨rfl, rfl⟩
  by_cases h0 : opL w c o a1.length = []
  ·refine ⟨o, ho, fun {k} hk m hm {β} K => ?_⟩
   rw [iter_step (by omega), iter_step (by omega), spec_round h ho hn2 hk, impl_round h ho hn2 hk]
   unfold roundD
   rw [if_pos hn, if_pos h0, if_pos hn, if_pos h0]
   exact ⟨rfl, rfl⟩
  obtain ⟨o1, o2⟩ := opL_facts (w := w) (c := c) (o := o) (L := a1.length)
  obtain ⟨q1, q2, q3⟩ := clD_sum o1 hn (fun i hi => ((o2 i).mp hi).2.1) (fun i hi => ((o2 i).mp hi).2.2) h0
  have hN' : nxN w c o a1.length n = n - ((opL w c o a1.length).map (clD w c o n (smL w (opL w c o a1.length)) (opL w c o a1.length))).sum := rfl
  obtain ⟨r, hr, hi⟩ := ih (nxN w c o a1.length n) (nxO w c o a1.length n) (by omega) (by omega) fun i hi => by
   have := ho i hi
   unfold nxO
   by_cases hm : i ∈ opL w c o a1.length
   ·rw [if_pos hm]; have := q1 i hm; omega
   ·rw [if_neg hm]; omega
  refine ⟨r, hr, fun {k} hk m hm {β} K => ?_⟩
  rw [iter_step (by omega), iter_step (by omega), spec_round h ho hn2 hk, impl_round h ho hn2 hk]
  unfold roundD
  rw [if_pos hn, if_neg h0, if_pos hn, if_neg h0]
  exact hi hk (m - 1) (by omega) K
def rightB (n : Int) (a1 a2 : LD) : Bool := inB n 0 10000 && (decide (a1.length ≤ 64) && (decide (a1.length = a2.length) && (List.range a1.length).all fun i => inB (gI a1 (i : Int) 0) 0 1000 && inB (gI a2 (i : Int) 0) 0 10000))
set_option maxRecDepth 100000 in
theorem right_spec {n : Int} {a1 a2 : LD} (g1 : Zi RI lim a1) (g2 : Zi RI lim a2) {k : Nat} (hk : Z3 k) {β : Type} (K : Bool → Option β) : Yas.f k n a1 a2 K = K (rightB n a1 a2) := Yas.f_of (by
 have hb : big = 2 ^ 64 := rfl
 have hlen := g1.1
 have hlim : lim = 1048576 := rfl
 unfold Yas.t Yas.g rightB
 rw [l1In_fv]
 cases inB n 0 10000
 ·rfl
 simp only [Bool.not_true, cond_false, Bool.true_and]
 by_cases h1 : a1.length ≤ 64
 case neg =>
  rw [ZQ (show (a1.length : Int) > 64 by omega), ZV h1]
  rfl
 rw [ZV (show ¬ (a1.length : Int) > 64 by omega), ZQ h1]
 simp only [cond_false, Bool.true_and]
 by_cases h2 : a1.length = a2.length
 case neg =>
  rw [show ((a1.length : Int) != (a2.length : Int)) = true from bne_iff_ne.mpr (by omega), ZV h2]
  rfl
 rw [show ((a1.length : Int) != (a2.length : Int)) = false from bne_eq_false_iff_eq.mpr (by omega), ZQ h2]
 simp only [cond_false, Bool.true_and]
 rw [Zb6 (n := a1.length) (fun i => inB (gI a1 (i : Int) 0) 0 1000 && inB (gI a2 (i : Int) 0) 0 10000) (r1 := some false) (r2 := some true) (by unfold Z3 at hk; omega)]
 ·generalize List.all _ _ = x
  cases x <;> rfl
 ·intro L i hi
  simp (disch := omega) only [Yas.l0, atR, rdQ, Q.ask, ZQ (show (i : Int) < a1.length by omega), cond_true, RI.row g1, RI.row g2, ZY, Zad, Z6, l1In_fv, Zj]
  cases inB (gI a1 (i : Int) 0) 0 1000 <;> cases inB (gI a2 (i : Int) 0) 0 10000 <;> rfl
 ·intro L
  simp [Yas.l0, atR, rdQ, Q.ask]) K
set_option maxRecDepth 100000 in
theorem right_impl {n : Int} {a1 a2 : LD} (g1 : Zi RI lim a1) (g2 : Zi RI lim a2) {k : Nat} (hk : Z3 k) {β : Type} (K : Bool → Option β) : YaQ.f k n a1 a2 K = K (rightB n a1 a2) := YaQ.f_of (by
 have hb : big = 2 ^ 64 := rfl
 have hlen := g1.1
 have hlen2 := g2.1
 have hlim : lim = 1048576 := rfl
 have c1 : ∀ {β : Type} (K : Bool → Option β), YD.f k a1 K = K (!(List.range a1.length).all fun i => inB (gI a1 (i : Int) 0) 0 1000) := fun K => YD.f_of (by
  unfold YD.t YD.g
  have hf : ∀ {β : Type} (K : Int → Option β), Yi.f k a1 K = K (Zbo (fun i => !inB (gI a1 (i : Int) 0) 0 1000) a1.length) := fun K => Yi.f_of (by
   unfold Yi.t Yi.g
   refine iter_findI (n := a1.length) _ some (by unfold Z3 at hk; omega) (fun L i hi => ?_) (fun L => by simp [Yi.l0, atR, rdQ, Q.ask])
   have hs : ∀ {β : Type} (K : Bool → Option β), YaE.f k (gI a1 (i : Int) 0) K = K (!inB (gI a1 (i : Int) 0) 0 1000) := fun K => YaE.f_of (by unfold YaE.t YaE.g; rw [within_fv]) K
   simp (disch := omega) only [Yi.l0, atR, rdQ, Q.ask, ZQ (show (i : Int) < a1.length by omega), cond_true, RI.row g1, ZY, Zad, Z6, hs, Zj]) K
  rw [hf, findI_all]
  simp only [Bool.not_not]) K
 have c2 : ∀ {β : Type} (K : Bool → Option β), YC.f k a2 K = K (!(List.range a2.length).all fun i => inB (gI a2 (i : Int) 0) 0 10000) := fun K => YC.f_of (by
  unfold YC.t YC.g
  have hf : ∀ {β : Type} (K : Int → Option β), Yh.f k a2 K = K (Zbo (fun i => !inB (gI a2 (i : Int) 0) 0 10000) a2.length) := fun K => Yh.f_of (by
   unfold Yh.t Yh.g
   refine iter_findI (n := a2.length) _ some (by unfold Z3 at hk; omega) (fun L i hi => ?_) (fun L => by simp [Yh.l0, atR, rdQ, Q.ask])
   have hs : ∀ {β : Type} (K : Bool → Option β), YaD.f k (gI a2 (i : Int) 0) K = K (!inB (gI a2 (i : Int) 0) 0 10000) := fun K => YaD.f_of (by unfold YaD.t YaD.g; rw [within_fv]) K
   simp (disch := omega) only [Yh.l0, atR, rdQ, Q.ask, ZQ (show (i : Int) < a2.length by omega), cond_true, RI.row g2, ZY, Zad, Z6, hs, Zj]) K
  rw [hf, findI_all]
  simp only [Bool.not_not]) K
 unfold YaQ.t YaQ.g rightB
 rw [within_fv]
 cases inB n 0 10000
 ·rfl
 simp only [cond_true, Bool.true_and]
 by_cases h1 : a1.length ≤ 64
 case neg =>
  rw [ZV (show ¬ (a1.length : Int) ≤ 64 by omega), ZV h1]
  rfl
 rw [ZQ (show (a1.length : Int) ≤ 64 by omega), ZQ h1]
 simp only [cond_true, Bool.true_and]
 by_cases h2 : a1.length = a2.length
 case neg =>
  rw [show ((a2.length : Int) == (a1.length : Int)) = false from beq_eq_false_iff_ne.mpr (by omega), ZV h2]
  rfl
 rw [show ((a2.length : Int) == (a1.length : Int)) = true from beq_iff_eq.mpr (by omega), ZQ h2, c1, c2, ← h2]
 simp only [cond_true, Bool.true_and, Bool.not_not]
 rw [show (List.range a1.length).all (fun i => inB (gI a1 (i : Int) 0) 0 1000 && inB (gI a2 (i : Int) 0) 0 10000) = ((List.range a1.length).all (fun i => inB (gI a1 (i : Int) 0) 0 1000) && (List.range a1.length).all (fun i => inB (gI a2 (i : Int) 0) 0 10000)) from all_both _ _ _]
 cases (List.range a1.length).all fun i => inB (gI a1 (i : Int) 0) 0 1000 <;> rfl) K
theorem div_fv {n : Int} {a1 a2 : LD} (g1 : Zi RI lim a1) (g2 : Zi RI lim a2) (hl : a1.length < 20) : ∃ r : LC, (r = [] ∨ ∃ o : Nat → Int, r = YaL a1.length (cI o) ∧ ∀ i, i < a1.length → 0 ≤ o i ∧ o i ≤ 10000) ∧ (rightB n a1 a2 = false → r = []) ∧ (rightB n a1 a2 = true → r.length = a1.length) ∧ ∀ {k : Nat}, Z3 k → ∀ {β : Type} (K : LC → Option β), Yu.f k n a1 a2 K = K r ∧ Yv.f k n a1 a2 K = K r := by
 have hb : big = 2 ^ 64 := rfl
 have hmost : ZN = 2 ^ 36 := rfl
 cases hR : rightB n a1 a2 with
 | false =>
  refine ⟨[], .inl rfl, fun _ => rfl, fun h => by simp at h, fun {k} hk {β} K => ⟨Yu.f_of ?_ K, Yv.f_of ?_ K⟩⟩
  ·unfold Yu.t Yu.g Yu.m
   rw [right_spec g1 g2 hk, hR]
   rfl
  ·unfold Yv.t Yv.g Yv.m
   rw [right_impl g1 g2 hk, hR]
   rfl
 | true =>
  have hR' := hR
  unfold rightB at hR'
  simp only [Bool.and_eq_true, decide_eq_true_eq, List.all_eq_true, List.mem_range, inB] at hR'
  obtain ⟨⟨hn0, hn⟩, _, he, ha⟩ := hR'
  obtain ⟨r, hr, hi⟩ := div_rounds (w := fun i : Nat => gI a1 (i : Int) 0) (c := fun i : Nat => gI a2 (i : Int) 0) (a1 := a1) (a2 := a2) ⟨rfl, rfl, g1, g2, he.symm, hl, fun i hi => (ha i hi).1, fun i hi => (ha i hi).2.2⟩ 10000 n (fun _ => 0) (by omega) hn (fun i hi => ⟨Int.le_refl _, (ha i hi).2.1⟩)
  refine ⟨YaL a1.length (cI r), .inr ⟨r, rfl, fun i hi => by have := hr i hi; have := (ha i hi).2.2; omega⟩, fun h => by simp at h, fun _ => Yav .., fun {k} hk {β} K => ⟨Yu.f_of ?_ K, Yv.f_of ?_ K⟩⟩
  ·unfold Yu.t Yu.g Yu.m
   rw [right_spec g1 g2 hk, hR]
   simp only [Bool.not_true, cond_false]
   rw [ZaP ⟨by omega, by omega, by omega, by omega⟩, Int.toNat_natCast, rowF_rep]
   exact (hi hk k (by unfold Z3 at hk; omega) some).1
  ·unfold Yv.t Yv.g Yv.m
   rw [right_impl g1 g2 hk, hR]
   simp only [Bool.not_true, cond_false]
   rw [ZaP ⟨by omega, by omega, by omega, by omega⟩, Int.toNat_natCast, rowF_rep]
   exact (hi hk k (by unfold Z3 at hk; omega) some).2
theorem Yal.f_of {β : Type} {k aC aD aF aG a1 a2 z0} (h : Yal.t k aC aD aF aG a1 a2 = some z0) (K : LC → Option β) : Yal.f k aC aD aF aG a1 a2 K = K z0 := by unfold Yal.f; rw [h]; rfl
theorem wf_mk {n : Int} (h1 : -9223372036854775808 ≤ n) (h2 : n ≤ 9223372036854775807) : (Lit.int .i64 n).wf = true := by
 simp [Lit.wf, IntKind.min, IntKind.max, IntKind.signed, IntKind.bits]
 omega
set_option maxRecDepth 100000 in
theorem weight_wf {aC : Int} {aD aF aG : LD} {a1 : BA} (g0 : Zi YaC lim aD) (g1 : Zi RS lim aF) (g2 : Zi RSI lim aG) (g3 : a1.size ≤ lim) : (Lit.int .i64 (YG.v aC aD aF aG a1)).wf = true := by
 have hb : big = 2 ^ 64 := rfl
 have hlim : lim = 1048576 := rfl
 have hlen := g2.1
 have hk : Z3 big := Nat.le_refl _
 have h : ∃ y, (Lit.int .i64 y).wf = true ∧ YG.t big aC aD aF aG a1 = some y := by
  unfold YG.t YG.g
  rw [iter_find (n := aG.length) (fun i => Zae (gS aG (i : Int) 0) a1) (r1 := fun i => some (gI aG (i : Int) 1)) (r2 := some 1) (by omega)]
  ·cases hf : (List.range aG.length).find? fun i : Nat => Zae (gS aG (i : Int) 0) a1 with
   | none => exact ⟨1, by decide, rfl⟩
   | some i =>
    have hi := List.mem_range.mp (List.mem_of_find?_eq_some hf)
    exact ⟨_, (RSI.gets g2.2 (v := (i : Int)) (by omega) (by omega)).2.2.1, rfl⟩
  ·intro L i hi
   simp (disch := omega) only [YG.l0, atR, rdQ, Q.ask, ZQ (show (i : Int) < aG.length by omega), cond_true, RSI.row g2, ZY, Zaj, Zad, Z6, Zj]
  ·intro L
   simp [YG.l0, atR, rdQ, Q.ask]
 obtain ⟨y, h1, h2⟩ := h
 rw [YG.tv g0 g1 g2 g3 hk] at h2
 injection h2 with h2
 rw [h2]
 exact h1
section
variable (aC : Int) (aD aF aG a1 : LD)
noncomputable def wtV (i : Nat) : Int := bif YH.v aC aD aF aG (gS a1 (i : Int) 0) (gL a1 (i : Int) 1) (gL a1 (i : Int) 2) (gI a1 (i : Int) 3) then YG.v aC aD aF aG (gS a1 (i : Int) 0) else 0
end
set_option maxRecDepth 100000 in
theorem spec_weights {aC : Int} {aD aF aG a1 a2 : LD} (g1 : Zi YaC lim aD) (g2 : Zi RS lim aF) (g3 : Zi RSI lim aG) (g4 : Zi Yar lim a1) {k : Nat} (hk : Z3 k) {β : Type} (K : LC → Option β) :
  Zo (Yaa.l0 k a1 a2 aC aD aF aG K) k (0, []) = bif (List.range a1.length).all (fun i => YO.v (gS a1 (i : Int) 0) (gL a1 (i : Int) 1) (gL a1 (i : Int) 2) (gI a1 (i : Int) 3)) then Yu.f k aC (rowD a1.length fun j => .int .i64 (wtV aC aD aF aG a1 j)) a2 K else K [] := by
 have hb : big = 2 ^ 64 := rfl
 have hmost : ZN = 2 ^ 36 := rfl
 have hlim : lim = 1048576 := rfl
 have hlen := g4.1
 refine iter_allT (fun i => ((i : Int), YaL i (cI (wtV aC aD aF aG a1)))) (n := a1.length) _ (by unfold Z3 at hk; omega) (fun L i hi => ?_) (fun L => ?_)
 ·obtain ⟨_, e0, e1, e2, _⟩ := Yar.get g4 (v := (i : Int)) (by omega) (by omega)
  have hw1 : IntKind.wrap .i64 ((i : Int) + 1) = ((i + 1 : Nat) : Int) := by rw [Zj (by omega) (by omega)]; omega
  have hsn : ∀ y, y = wtV aC aD aF aG a1 i → YaL i (cI (wtV aC aD aF aG a1)) ++ [[.d (.int .i64 y)]] = YaL (i + 1) (cI (wtV aC aD aF aG a1)) := fun y hy => by
   rw [← rowF_snoc, hy]
  have hgd : (YaL i (cI (wtV aC aD aF aG a1))).length + 1 ≤ ZN := by rw [Yav]; omega
  simp only [Yaa.l0, atR, rdQ, Q.ask]
  rw [ZQ (show (i : Int) < (a1.length : Int) by omega)]
  simp (disch := omega) only [cond_true, Yar.row g4, ZY, Zaj, Za7, Zad, Z6, YO.fv e0 e1 e2 hk, YH.fv g1 g2 g3 e0 e1 e2 hk, YG.fv g1 g2 g3 e0 hk, hw1, List.length_cons, List.length_nil, Nat.zero_add]
  cases YO.v (gS a1 (i : Int) 0) (gL a1 (i : Int) 1) (gL a1 (i : Int) 2) (gI a1 (i : Int) 3)
  ·rfl
  simp only [Bool.not_true, cond_false, cond_true]
  cases hE : YH.v aC aD aF aG (gS a1 (i : Int) 0) (gL a1 (i : Int) 1) (gL a1 (i : Int) 2) (gI a1 (i : Int) 3)
  ·simp only [cond_false]
   rw [ZaP hgd, hsn _ (by unfold wtV; rw [hE]; rfl)]
  ·simp only [cond_true]
   rw [ZaP hgd, hsn _ (by unfold wtV; rw [hE]; rfl)]
 ·simp only [Yaa.l0, atR, rdQ, Q.ask]
  rw [ZV (show ¬ (a1.length : Int) < (a1.length : Int) by omega)]
  simp only [cond_false]
  rw [imm_rowF]
  rfl
set_option maxRecDepth 100000 in
theorem impl_weights {aC : Int} {aD aF aG a1 a2 : LD} (g1 : Zi YaC lim aD) (g2 : Zi RS lim aF) (g3 : Zi RSI lim aG) (g4 : Zi Yar lim a1) {k : Nat} (hk : Z3 k) {β : Type} (K : LC → Option β) :
  Zo (Yal.l0 k a2 a1 (a1.length : Int) aC aD aF aG K) k (0, []) = Yv.f k aC (rowD a1.length fun j => .int .i64 (wtV aC aD aF aG a1 j)) a2 K := by
 have hb : big = 2 ^ 64 := rfl
 have hmost : ZN = 2 ^ 36 := rfl
 have hlim : lim = 1048576 := rfl
 have hlen := g4.1
 refine iter_seq (f := fun i => ((i : Int), YaL i (cI (wtV aC aD aF aG a1)))) (n := a1.length) (by unfold Z3 at hk; omega) (fun L i hi => ?_) (fun L => ?_)
 ·obtain ⟨_, e0, e1, e2, _⟩ := Yar.get g4 (v := (i : Int)) (by omega) (by omega)
  have hw1 : IntKind.wrap .i64 ((i : Int) + 1) = ((i + 1 : Nat) : Int) := by rw [Zj (by omega) (by omega)]; omega
  have hsn : ∀ y, y = wtV aC aD aF aG a1 i → YaL i (cI (wtV aC aD aF aG a1)) ++ [[.d (.int .i64 y)]] = YaL (i + 1) (cI (wtV aC aD aF aG a1)) := fun y hy => by
   rw [← rowF_snoc, hy]
  have hgd : (YaL i (cI (wtV aC aD aF aG a1))).length + 1 ≤ ZN := by rw [Yav]; omega
  have hE : ∀ {β : Type} (K : Bool → Option β), YaK.f k aC aD aF aG (gS a1 (i : Int) 0) (gL a1 (i : Int) 1) (gL a1 (i : Int) 2) (gI a1 (i : Int) 3) K = K (YH.v aC aD aF aG (gS a1 (i : Int) 0) (gL a1 (i : Int) 1) (gL a1 (i : Int) 2) (gI a1 (i : Int) 3)) := fun K => YaK.f_of (by rw [YaK.same g1 g2 g3 e0 e1 e2 hk, YH.tv g1 g2 g3 e0 e1 e2 hk]) K
  have hW : ∀ {β : Type} (K : Int → Option β), Yai.f k aC aD aF aG (gS a1 (i : Int) 0) K = K (YG.v aC aD aF aG (gS a1 (i : Int) 0)) := fun K => Yai.f_of (by rw [Yai.same g1 g2 g3 e0 hk, YG.tv g1 g2 g3 e0 hk]) K
  simp only [Yal.l0, atR, rdQ, Q.ask]
  rw [ZQ (show (i : Int) < (a1.length : Int) by omega)]
  simp (disch := omega) only [cond_true, Yar.row g4, ZY, Zaj, Za7, Zad, Z6, hE, hW, hw1, List.length_cons, List.length_nil, Nat.zero_add]
  cases hE : YH.v aC aD aF aG (gS a1 (i : Int) 0) (gL a1 (i : Int) 1) (gL a1 (i : Int) 2) (gI a1 (i : Int) 3)
  ·simp only [cond_false]
   rw [ZaP hgd, hsn _ (by unfold wtV; rw [hE]; rfl)]
  ·simp only [cond_true]
   rw [ZaP hgd, hsn _ (by unfold wtV; rw [hE]; rfl)]
 ·simp only [Yal.l0, atR, rdQ, Q.ask]
  rw [ZV (show ¬ (a1.length : Int) < (a1.length : Int) by omega)]
  simp only [cond_false]
  rw [imm_rowF]
  rfl
theorem wt_row {aC : Int} {aD aF aG a1 : LD} (g1 : Zi YaC lim aD) (g2 : Zi RS lim aF) (g3 : Zi RSI lim aG) (g4 : Zi Yar lim a1) : Zi RI lim (rowD a1.length fun j => .int .i64 (wtV aC aD aF aG a1 j)) := by
 refine ⟨by rw [Ybg]; exact g4.1, fun r hr => ?_⟩
 obtain ⟨j, hj, rfl⟩ := List.mem_map.mp hr
 have hj := List.mem_range.mp hj
 obtain ⟨_, e0, _⟩ := Yar.get g4 (v := (j : Int)) (by omega) (by omega)
 refine ⟨_, rfl, ?_, trivial⟩
 unfold wtV
 cases YH.v aC aD aF aG (gS a1 (j : Int) 0) (gL a1 (j : Int) 1) (gL a1 (j : Int) 2) (gI a1 (j : Int) 3)
 ·rfl
 ·exact weight_wf g1 g2 g3 e0
noncomputable def okS (aC : Int) (aD aF aG a1 a2 : LD) : Bool := Yz.v aC aD aF aG && (decide (a1.length ≤ 12) && (decide (a2.length = a1.length) && ((List.range a1.length).all (fun i => YO.v (gS a1 (i : Int) 0) (gL a1 (i : Int) 1) (gL a1 (i : Int) 2) (gI a1 (i : Int) 3)) && (List.range a2.length).all fun i => inB (gI a2 (i : Int) 0) 0 10000)))
set_option maxRecDepth 100000 in
theorem want_facts {aC : Int} {aD aF aG : LD} (g1 : Zi YaC lim aD) (g2 : Zi RS lim aF) (g3 : Zi RSI lim aG) (h : Yz.v aC aD aF aG = true) : inB aC 0 10000 = true ∧ ∀ i, i < aG.length → inB (gI aG (i : Int) 1) 0 1000 = true := by
 have hb : big = 2 ^ 64 := rfl
 have hlim : lim = 1048576 := rfl
 have hlen := g3.1
 have hk : Z3 big := Nat.le_refl _
 have ht := Yz.tv (aC := aC) g1 g2 g3 hk
 rw [h] at ht
 unfold Yz.t Yz.g at ht
 rw [Zb6 (n := aG.length) (fun i => Yn.v (gS aG (i : Int) 0) && inB (gI aG (i : Int) 1) 0 1000 && (!decide ((i : Int) > 0) || ZbO (gS aG ((i : Int) - 1) 0) (gS aG (i : Int) 0))) (r1 := some false) (r2 := bif inB aC 0 10000 then (Yr.f big aD fun y78 => bif y78 then (YM.f big aF 8 fun y79 => bif y79 then some (decide ((aG.length : Int) ≤ 12)) else some false) else some false) else some false) (by omega)] at ht
 ·cases hA : (List.range aG.length).all (fun i => Yn.v (gS aG (i : Int) 0) && inB (gI aG (i : Int) 1) 0 1000 && (!decide ((i : Int) > 0) || ZbO (gS aG ((i : Int) - 1) 0) (gS aG (i : Int) 0))) with
  | false => rw [hA] at ht; cases ht
  | true =>
   rw [hA] at ht
   cases hB : inB aC 0 10000 with
   | false => rw [hB] at ht; cases ht
   | true =>
    refine ⟨rfl, fun i hi => ?_⟩
    have := List.all_eq_true.mp hA i (List.mem_range.mpr hi)
    simp only [Bool.and_eq_true] at this
    exact this.1.2
 ·intro L i hi
  obtain ⟨_, e0, _⟩ := RSI.get g3 (v := (i : Int)) (by omega) (by omega)
  simp (disch := omega) only [Yz.l0, atR, rdQ, Q.ask, ZQ (show (i : Int) < aG.length by omega), cond_true, RSI.row g3, ZY, Zaj, Zad, Z6, l1In_fv, Yn.fv e0 hk, Zj]
  cases Yn.v (gS aG (i : Int) 0)
  ·rfl
  cases inB (gI aG (i : Int) 1) 0 1000
  ·rfl
  by_cases h0 : (i : Int) > 0
  ·rw [ZQ h0]
   simp (disch := omega) only [Bool.not_true, cond_false, cond_true, Bool.true_and, Bool.false_or, RSI.row g3, ZY, Zaj, Zad, Z6]
   cases ZbO (gS aG ((i : Int) - 1) 0) (gS aG (i : Int) 0) <;> rfl
  ·rw [ZV h0]
   rfl
 ·intro L
  simp only [Yz.l0, atR, rdQ, Q.ask]
  rw [ZV (show ¬ (aG.length : Int) < (aG.length : Int) by omega)]
  simp only [cond_false, l1In_fv]
theorem gI_rowD {L : Nat} {f : Nat → Int} {i : Nat} (h : i < L) : gI (rowD L fun j => .int .i64 (f j)) (i : Int) 0 = f i := by
 simp only [gI, gR, rowD, Int.toNat_natCast, List.getD, List.getElem?_map, List.getElem?_range h, Option.map_some, Option.getD_some]
 rfl
set_option maxRecDepth 100000 in
theorem wt_in {aC : Int} {aD aF aG a1 : LD} (g1 : Zi YaC lim aD) (g2 : Zi RS lim aF) (g3 : Zi RSI lim aG) (g4 : Zi Yar lim a1) (h : Yz.v aC aD aF aG = true) {i : Nat} (hi : i < a1.length) : inB (wtV aC aD aF aG a1 i) 0 1000 = true := by
 have hb : big = 2 ^ 64 := rfl
 have hlim : lim = 1048576 := rfl
 have hlen := g3.1
 have hk : Z3 big := Nat.le_refl _
 obtain ⟨_, e0, _⟩ := Yar.get g4 (v := (i : Int)) (by omega) (by omega)
 obtain ⟨_, hW⟩ := want_facts g1 g2 g3 h
 unfold wtV
 cases YH.v aC aD aF aG (gS a1 (i : Int) 0) (gL a1 (i : Int) 1) (gL a1 (i : Int) 2) (gI a1 (i : Int) 3)
 ·rfl
 simp only [cond_true]
 generalize gS a1 (i : Int) 0 = nm at e0 ⊢
 have h : ∃ y, inB y 0 1000 = true ∧ YG.t big aC aD aF aG nm = some y := by
  unfold YG.t YG.g
  rw [iter_find (n := aG.length) (fun i => Zae (gS aG (i : Int) 0) nm) (r1 := fun i => some (gI aG (i : Int) 1)) (r2 := some 1) (by omega)]
  ·cases hf : (List.range aG.length).find? fun i : Nat => Zae (gS aG (i : Int) 0) nm with
   | none => exact ⟨1, by decide, rfl⟩
   | some i => exact ⟨_, hW i (List.mem_range.mp (List.mem_of_find?_eq_some hf)), rfl⟩
  ·intro L i hi
   simp (disch := omega) only [YG.l0, atR, rdQ, Q.ask, ZQ (show (i : Int) < aG.length by omega), cond_true, RSI.row g3, ZY, Zaj, Zad, Z6, Zj]
  ·intro L
   simp [YG.l0, atR, rdQ, Q.ask]
 obtain ⟨y, h1, h2⟩ := h
 rw [YG.tv g1 g2 g3 e0 hk] at h2
 injection h2 with h2
 rw [h2]
 exact h1
theorem okS_right {aC : Int} {aD aF aG a1 a2 : LD} (g1 : Zi YaC lim aD) (g2 : Zi RS lim aF) (g3 : Zi RSI lim aG) (g4 : Zi Yar lim a1) (h : okS aC aD aF aG a1 a2 = true) : rightB aC (rowD a1.length fun j => .int .i64 (wtV aC aD aF aG a1 j)) a2 = true := by
 unfold okS at h
 simp only [Bool.and_eq_true, decide_eq_true_eq, List.all_eq_true, List.mem_range] at h
 obtain ⟨hW, h1, h2, _, h4⟩ := h
 have hn := (want_facts g1 g2 g3 hW).1
 unfold rightB
 rw [hn, Ybg, ZQ (show a1.length ≤ 64 by omega), ZQ h2.symm]
 simp only [Bool.true_and]
 refine List.all_eq_true.mpr fun i hi => ?_
 have hi := List.mem_range.mp hi
 rw [gI_rowD hi, wt_in g1 g2 g3 g4 hW hi, h4 i (by omega)]
 rfl
set_option maxRecDepth 100000 in
theorem Ybe {aC : Int} {aD aF aG a1 a2 : LD} (g1 : Zi YaC lim aD) (g2 : Zi RS lim aF) (g3 : Zi RSI lim aG) (g4 : Zi Yar lim a1) (g5 : Zi RI lim a2) {k : Nat} (hk : Z3 k) {β : Type} (K : Bool → Option β) :
  YaH.f k aC aD aF aG a1 a2 K = K (okS aC aD aF aG a1 a2) := YaH.f_of (by
 unfold okS
 have hb : big = 2 ^ 64 := rfl
 have hlen := g4.1
 have hlen2 := g5.1
 have hlim : lim = 1048576 := rfl
 have c1 : ∀ {β : Type} (K : Bool → Option β), Yp.f k a1 K = K (!(List.range a1.length).all fun i => YO.v (gS a1 (i : Int) 0) (gL a1 (i : Int) 1) (gL a1 (i : Int) 2) (gI a1 (i : Int) 3)) := fun K => Yp.f_of (by
  unfold Yp.t Yp.g
  have hf : ∀ {β : Type} (K : Int → Option β), Ye.f k a1 K = K (Zbo (fun i => !YO.v (gS a1 (i : Int) 0) (gL a1 (i : Int) 1) (gL a1 (i : Int) 2) (gI a1 (i : Int) 3)) a1.length) := fun K => Ye.f_of (by
   unfold Ye.t Ye.g
   refine iter_findI (n := a1.length) _ some (by unfold Z3 at hk; omega) (fun L i hi => ?_) (fun L => by simp [Ye.l0, atR, rdQ, Q.ask])
   obtain ⟨_, e0, e1, e2, _⟩ := Yar.get g4 (v := (i : Int)) (by omega) (by omega)
   have hs : ∀ {β : Type} (K : Bool → Option β), YaG.f k (gS a1 (i : Int) 0) (gL a1 (i : Int) 1) (gL a1 (i : Int) 2) (gI a1 (i : Int) 3) K = K (!YO.v (gS a1 (i : Int) 0) (gL a1 (i : Int) 1) (gL a1 (i : Int) 2) (gI a1 (i : Int) 3)) := fun K => YaG.f_of (by
    unfold YaG.t YaG.g YaI.f
    rw [YaI.same e0 e1 e2 hk, YO.tv e0 e1 e2 hk]
    rfl) K
   simp (disch := omega) only [Ye.l0, atR, rdQ, Q.ask, ZQ (show (i : Int) < a1.length by omega), cond_true, Yar.row g4, ZY, Zaj, Za7, Zad, Z6, hs, Zj]) K
  rw [hf, findI_all]
  simp only [Bool.not_not]) K
 have c2 : ∀ {β : Type} (K : Bool → Option β), YE.f k a2 K = K (!(List.range a2.length).all fun i => inB (gI a2 (i : Int) 0) 0 10000) := fun K => YE.f_of (by
  unfold YE.t YE.g
  have hf : ∀ {β : Type} (K : Int → Option β), Yj.f k a2 K = K (Zbo (fun i => !inB (gI a2 (i : Int) 0) 0 10000) a2.length) := fun K => Yj.f_of (by
   unfold Yj.t Yj.g
   refine iter_findI (n := a2.length) _ some (by unfold Z3 at hk; omega) (fun L i hi => ?_) (fun L => by simp [Yj.l0, atR, rdQ, Q.ask])
   have hs : ∀ {β : Type} (K : Bool → Option β), YaF.f k (gI a2 (i : Int) 0) K = K (!inB (gI a2 (i : Int) 0) 0 10000) := fun K => YaF.f_of (by unfold YaF.t YaF.g; rw [isCopies_f]; rfl) K
   simp (disch := omega) only [Yj.l0, atR, rdQ, Q.ask, ZQ (show (i : Int) < a2.length by omega), cond_true, RI.row g5, ZY, Zad, Z6, hs, Zj]) K
  rw [hf, findI_all]
  simp only [Bool.not_not]) K
 unfold YaH.t YaH.g Yat.f
 rw [Yat.same g1 g2 g3 hk, Yz.tv g1 g2 g3 hk]
 show (bif Yz.v aC aD aF aG then _ else _) = _
 cases Yz.v aC aD aF aG
 ·rfl
 simp only [cond_true, Bool.true_and]
 by_cases h1 : a1.length ≤ 12
 case neg =>
  rw [ZV (show ¬ (a1.length : Int) ≤ 12 by omega), ZV h1]
  rfl
 rw [ZQ (show (a1.length : Int) ≤ 12 by omega), ZQ h1]
 simp only [cond_true, Bool.true_and]
 by_cases h2 : a2.length = a1.length
 case neg =>
  rw [show ((a2.length : Int) == (a1.length : Int)) = false from beq_eq_false_iff_ne.mpr (by omega), ZV h2]
  rfl
 rw [show ((a2.length : Int) == (a1.length : Int)) = true from beq_iff_eq.mpr (by omega), ZQ h2, c1, c2]
 simp only [cond_true, Bool.true_and, Bool.not_not]
 cases (List.range a1.length).all fun i => YO.v (gS a1 (i : Int) 0) (gL a1 (i : Int) 1) (gL a1 (i : Int) 2) (gI a1 (i : Int) 3) <;> rfl) K
theorem shares_fv {aC : Int} {aD aF aG a1 a2 : LD} (g1 : Zi YaC lim aD) (g2 : Zi RS lim aF) (g3 : Zi RSI lim aG) (g4 : Zi Yar lim a1) (g5 : Zi RI lim a2) :
  ∃ r : LC, (r = [] ∨ ∃ o : Nat → Int, r = YaL a1.length (cI o) ∧ ∀ i, i < a1.length → 0 ≤ o i ∧ o i ≤ 10000) ∧ (okS aC aD aF aG a1 a2 = false → r = []) ∧ (okS aC aD aF aG a1 a2 = true → r.length = a1.length) ∧ ∀ {k : Nat}, Z3 k → Yaa.t k aC aD aF aG a1 a2 = some r ∧ Yal.t k aC aD aF aG a1 a2 = some r := by
 have hbad : (Yz.v aC aD aF aG && (decide (a1.length ≤ 12) && decide (a2.length = a1.length))) = false → ∀ {k : Nat}, Z3 k → Yaa.t k aC aD aF aG a1 a2 = some [] ∧ Yal.t k aC aD aF aG a1 a2 = some [] := fun h {k} hk => by
  constructor
  ·unfold Yaa.t Yaa.g Yaa.m
   simp only [Yz.fv g1 g2 g3 hk]
   cases hW : Yz.v aC aD aF aG
   ·rfl
   rw [hW, Bool.true_and] at h
   simp only [Bool.not_true, cond_false]
   by_cases h1 : a1.length ≤ 12
   case neg =>
    rw [ZQ (show (a1.length : Int) > 12 by omega)]
    rfl
   rw [ZQ h1, Bool.true_and] at h
   have h2 := of_decide_eq_false h
   rw [ZV (show ¬ (a1.length : Int) > 12 by omega), show ((a2.length : Int) != (a1.length : Int)) = true from bne_iff_ne.mpr (by omega)]
   rfl
  ·unfold Yal.t Yal.g
   rw [Ybe g1 g2 g3 g4 g5 hk]
   unfold okS
   rw [← Bool.and_assoc (decide (a1.length ≤ 12)), ← Bool.and_assoc (Yz.v aC aD aF aG), h]
   rfl
 cases hc : (Yz.v aC aD aF aG && (decide (a1.length ≤ 12) && decide (a2.length = a1.length))) with
 | false =>
  have hk0 : okS aC aD aF aG a1 a2 = false := by
   unfold okS
   rw [← Bool.and_assoc (decide (a1.length ≤ 12)), ← Bool.and_assoc (Yz.v aC aD aF aG), hc]
   rfl
  exact ⟨[], .inl rfl, fun _ => rfl, fun h => by (rw [hk0] at h; cases h), hbad hc⟩
 | true =>
  have hc' := hc
  simp only [Bool.and_eq_true, decide_eq_true_eq] at hc'
  obtain ⟨hW, h1, h2⟩ := hc'
  have hspec : ∀ {k : Nat}, Z3 k → Yaa.t k aC aD aF aG a1 a2 = Zo (Yaa.l0 k a1 a2 aC aD aF aG some) k (0, []) := fun {k} hk => by
   unfold Yaa.t Yaa.g Yaa.m
   simp only [Yz.fv g1 g2 g3 hk, hW, Bool.not_true, cond_false]
   rw [ZV (show ¬ (a1.length : Int) > 12 by omega), show ((a2.length : Int) != (a1.length : Int)) = false from bne_eq_false_iff_eq.mpr (by omega)]
   rfl
  cases hI : (List.range a1.length).all (fun i => YO.v (gS a1 (i : Int) 0) (gL a1 (i : Int) 1) (gL a1 (i : Int) 2) (gI a1 (i : Int) 3)) with
  | false =>
   have hk0 : okS aC aD aF aG a1 a2 = false := by
    unfold okS
    rw [hI]
    simp only [Bool.false_and, Bool.and_false]
   refine ⟨[], .inl rfl, fun _ => rfl, fun h => by (rw [hk0] at h; cases h), fun {k} hk => ⟨?_, ?_⟩⟩
   ·rw [hspec hk, spec_weights g1 g2 g3 g4 hk, hI]
    rfl
   ·unfold Yal.t Yal.g
    rw [Ybe g1 g2 g3 g4 g5 hk, hk0]
    rfl
  | true =>
   obtain ⟨r, hr, hR, hR2, hd⟩ := div_fv (n := aC) (wt_row (aC := aC) g1 g2 g3 g4) g5 (by rw [Ybg]; omega)
   rw [Ybg] at hr hR2
   have hsp : ∀ {k : Nat}, Z3 k → Yaa.t k aC aD aF aG a1 a2 = some r := fun {k} hk => by
    rw [hspec hk, spec_weights g1 g2 g3 g4 hk, hI]
    exact (hd hk some).1
   cases hL : (List.range a2.length).all (fun i => inB (gI a2 (i : Int) 0) 0 10000) with
   | false =>
    have hr0 : r = [] := hR (by
     unfold rightB
     rw [Ybg, ← h2, all_both, hL]
     simp)
    have hk0 : okS aC aD aF aG a1 a2 = false := by
     unfold okS
     rw [hL]
     simp only [Bool.and_false]
    refine ⟨r, hr, fun _ => hr0, fun h => by (rw [hk0] at h; cases h), fun {k} hk => ⟨hsp hk, ?_⟩⟩
    unfold Yal.t Yal.g
    rw [Ybe g1 g2 g3 g4 g5 hk, hk0, hr0]
    rfl
   | true =>
    have hk0 : okS aC aD aF aG a1 a2 = true := by
     unfold okS
     rw [hL, hI, hW, ZQ h1, ZQ h2]
     rfl
    refine ⟨r, hr, fun h => by (rw [hk0] at h; cases h), fun _ => hR2 (okS_right g1 g2 g3 g4 hk0), fun {k} hk => ⟨hsp hk, ?_⟩⟩
    unfold Yal.t Yal.g
    rw [Ybe g1 g2 g3 g4 g5 hk, hk0]
    simp only [Bool.not_true, cond_false]
    rw [impl_weights g1 g2 g3 g4 hk]
    exact (hd hk some).2
theorem YB.tm {ι α : Type} {ok : ι → Prop} {ψ : α → Prop} {p : ι → Nat} {B : Nat} (hp : ∀ i, ok i → B ≤ p i) {a0 a1 φ} (h : Tm (fun k => B ≤ k) (fun k => YB.t k a0 a1) φ) {G : ι → LC → Option α} (hG : ∀ z0, φ z0 → Tm ok (fun i => G i z0) ψ) : Tm ok (fun i => YB.f (p i) a0 a1 (G i)) ψ := ZK (t := fun k => YB.t k a0 a1) hp h hG
theorem Yau.tm {ι α : Type} {ok : ι → Prop} {ψ : α → Prop} {p : ι → Nat} {B : Nat} (hp : ∀ i, ok i → B ≤ p i) {a0 a1 φ} (h : Tm (fun k => B ≤ k) (fun k => Yau.t k a0 a1) φ) {G : ι → Bool → Option α} (hG : ∀ z0, φ z0 → Tm ok (fun i => G i z0) ψ) : Tm ok (fun i => Yau.f (p i) a0 a1 (G i)) ψ := ZK (t := fun k => Yau.t k a0 a1) hp h hG
set_option maxRecDepth 100000 in
theorem Yau.T {B : Nat} {a0 : LD} (ga0 : Zi RI B a0) (hB : B ≤ 1099511627776) : Tm Z3 (fun k => Yau.t k a0 a0) (fun r => r = true) := by
 unfold Yau.t Yau.g
 have hm := Zy
 have hlim : lim = 1048576 := rfl
 have hlen := ga0.1
 refine Tm.ite (fun h1 => ?_) (fun h1 => ?_)
 ·try simp only [bz0, bz1, bz2, bz3, bz4, bz5, bz6, bz7, bz8, bz9, bza] at h1
  exact Tm.ret (by first | rfl | (exfalso; simp [Zu] at *))
 ·try simp only [bz0, bz1, bz2, bz3, bz4, bz5, bz6, bz7, bz8, bz9, bza] at h1
  refine Tm.loop (okk := Z3) (p := fun k => k) (fun i hi => hi) (b := fun k => Yau.l0 k a0 a0 (fun z0 => some z0)) (fun i => (((a0.length : Int)) - i).toNat) (fun i => 0 ≤ i ∧ i ≤ (a0.length : Int)) ?_ ?_ ?_
  ·rintro i hI
   try simp only [] at hI ⊢
   have : big = 2 ^ 64 := rfl
   have := ga0.1
   omega
  ·((try simp only []); omega)
  ·rintro i hI L hL
   try simp only [] at hI
   obtain ⟨i0, i1⟩ := hI
   simp only [Yau.l0, atR, rdQ, Q.ask]
   refine Tm.ite (fun h2 => ?_) (fun h2 => ?_)
   ·try simp only [bz0, bz1, bz2, bz3, bz4, bz5, bz6, bz7, bz8, bz9, bza] at h2
    refine Tm.atRow (by first | assumption | omega) (by first | assumption | omega) (fun x3 hx4 hm5 => ?_)
    obtain ⟨c6, rfl, g7, _⟩ := (ga0.2 x3 hm5).open
    refine Tm.uncons ?_
    refine Tm.dInt ?_
    refine Tm.atEnd ?_
    refine Tm.atRow (by first | assumption | omega) (by first | assumption | omega) (fun x8 hx9 hm10 => ?_)
    rw [hx4] at hx9
    injection hx9 with hx9
    subst hx9
    refine Tm.uncons ?_
    refine Tm.dInt ?_
    refine Tm.atEnd ?_
    refine Tm.ite (fun h12 => ?_) (fun h12 => ?_)
    ·try simp only [bz0, bz1, bz2, bz3, bz4, bz5, bz6, bz7, bz8, bz9, bza] at h12
     exact Tm.ret (by first | rfl | (exfalso; simp [Zu] at *))
    ·try simp only [bz0, bz1, bz2, bz3, bz4, bz5, bz6, bz7, bz8, bz9, bza] at h12
     try rw [Zj (x := i + 1) (by omega) (by omega)]
     exact hL _ (by (try simp only []); omega) (by (try simp only []); omega)
   ·try simp only [bz0, bz1, bz2, bz3, bz4, bz5, bz6, bz7, bz8, bz9, bza] at h2
    exact Tm.ret (by first | rfl | (exfalso; simp [Zu] at *))
theorem Y9.tm {ι α : Type} {ok : ι → Prop} {ψ : α → Prop} {p : ι → Nat} {B : Nat} (hp : ∀ i, ok i → B ≤ p i) {a0 a1 φ} (h : Tm (fun k => B ≤ k) (fun k => Y9.t k a0 a1) φ) {G : ι → Bool → Option α} (hG : ∀ z0, φ z0 → Tm ok (fun i => G i z0) ψ) : Tm ok (fun i => Y9.f (p i) a0 a1 (G i)) ψ := ZK (t := fun k => Y9.t k a0 a1) hp h hG
def RLIE (B : Nat) (r : List D) : Prop := ∃ (c0 : LD), r = [.sl c0] ∧ Zi RI B c0 ∧ True
theorem RLIE.open {B : Nat} {r : List D} (h : RLIE B r) : ∃ (c0 : LD), r = [.sl c0] ∧ Zi RI B c0 ∧ True := h
theorem RLIE.mono {B B' : Nat} (hb : B ≤ B') {r : List D} (h : RLIE B r) : RLIE B' r := by
 obtain ⟨c0, rfl, k0, _⟩ := h
 exact ⟨_, rfl, ⟨Nat.le_trans k0.1 hb, fun r hr => (k0.2 r hr).mono hb⟩, trivial⟩
theorem RLIE.wide {xs : LD} (h : Zi RLIE lim xs) : Zi RLIE 2097152 xs := ⟨Nat.le_trans h.1 (by decide), fun r hr => (h.2 r hr).mono (by decide)⟩
theorem RLIE.len {B : Nat} {r : List D} (h : RLIE B r) : r.length = 1 := by
 obtain ⟨c0, rfl, _⟩ := h.open
 rfl
theorem RLIE.gets {B : Nat} {xs : LD} (h : ∀ r ∈ xs, RLIE B r) {v : Int} (h0 : 0 ≤ v) (h1 : v < xs.length) : gR xs v = [.sl (gL xs v 0)] ∧ Zi RI B (gL xs v 0) ∧ True := by
 obtain ⟨c0, e, k0, _⟩ := (h (gR xs v) (gR_mem h0 h1)).open
 unfold gL
 rw [e]
 exact ⟨rfl, k0, trivial⟩
theorem RLIE.rows {B : Nat} {xs : LD} (h : ∀ r ∈ xs, RLIE B r) {v : Int} (h0 : 0 ≤ v) (h1 : v < xs.length) {β : Type} (F : List D → Option β) : Zbw xs v F = F [.sl (gL xs v 0)] := by
 rw [← (RLIE.gets h h0 h1).1]
 exact Zbp h0 h1 F
theorem RLIE.get {B : Nat} {xs : LD} (h : Zi RLIE B xs) {v : Int} (h0 : 0 ≤ v) (h1 : v < xs.length) : gR xs v = [.sl (gL xs v 0)] ∧ Zi RI B (gL xs v 0) ∧ True := RLIE.gets h.2 h0 h1
theorem RLIE.row {B : Nat} {xs : LD} (h : Zi RLIE B xs) {v : Int} (h0 : 0 ≤ v) (h1 : v < xs.length) {β : Type} (F : List D → Option β) : Zbw xs v F = F [.sl (gL xs v 0)] := RLIE.rows h.2 h0 h1 F
set_option maxRecDepth 100000 in
theorem Y9.T {B : Nat} {a0 : LD} (ga0 : Zi RLIE B a0) (hB : B ≤ 1099511627776) : Tm Z3 (fun k => Y9.t k a0 a0) (fun r => r = true) := by
 unfold Y9.t Y9.g
 have hm := Zy
 have hlim : lim = 1048576 := rfl
 have hlen := ga0.1
 refine Tm.ite (fun h1 => ?_) (fun h1 => ?_)
 ·try simp only [bz0, bz1, bz2, bz3, bz4, bz5, bz6, bz7, bz8, bz9, bza] at h1
  exact Tm.ret (by first | rfl | (exfalso; simp [Zu] at *))
 ·try simp only [bz0, bz1, bz2, bz3, bz4, bz5, bz6, bz7, bz8, bz9, bza] at h1
  refine Tm.loop (okk := Z3) (p := fun k => k) (fun i hi => hi) (b := fun k => Y9.l0 k a0 a0 (fun z0 => some z0)) (fun i => (((a0.length : Int)) - i).toNat) (fun i => 0 ≤ i ∧ i ≤ (a0.length : Int)) ?_ ?_ ?_
  ·rintro i hI
   try simp only [] at hI ⊢
   have : big = 2 ^ 64 := rfl
   have := ga0.1
   omega
  ·((try simp only []); omega)
  ·rintro i hI L hL
   try simp only [] at hI
   obtain ⟨i0, i1⟩ := hI
   simp only [Y9.l0, atR, rdQ, Q.ask]
   refine Tm.ite (fun h2 => ?_) (fun h2 => ?_)
   ·try simp only [bz0, bz1, bz2, bz3, bz4, bz5, bz6, bz7, bz8, bz9, bza] at h2
    refine Tm.atRow (by first | assumption | omega) (by first | assumption | omega) (fun x3 hx4 hm5 => ?_)
    obtain ⟨c6, rfl, g7, _⟩ := (ga0.2 x3 hm5).open
    refine Tm.uncons ?_
    refine Tm.dSl ?_
    refine Tm.atEnd ?_
    refine Tm.atRow (by first | assumption | omega) (by first | assumption | omega) (fun x8 hx9 hm10 => ?_)
    rw [hx4] at hx9
    injection hx9 with hx9
    subst hx9
    refine Tm.uncons ?_
    refine Tm.dSl ?_
    refine Tm.atEnd ?_
    refine Yau.tm (fun i hi => hi.1) (Yau.T (by first | assumption | omega) (by first | assumption | omega)) (fun y13 hy12 => ?_)
    subst hy12
    refine Tm.ite (fun h14 => ?_) (fun h14 => ?_)
    ·try simp only [bz0, bz1, bz2, bz3, bz4, bz5, bz6, bz7, bz8, bz9, bza] at h14
     exact Tm.ret (by first | rfl | (exfalso; simp [Zu] at *))
    ·try simp only [bz0, bz1, bz2, bz3, bz4, bz5, bz6, bz7, bz8, bz9, bza] at h14
     try rw [Zj (x := i + 1) (by omega) (by omega)]
     exact hL _ (by (try simp only []); omega) (by (try simp only []); omega)
   ·try simp only [bz0, bz1, bz2, bz3, bz4, bz5, bz6, bz7, bz8, bz9, bza] at h2
    exact Tm.ret (by first | rfl | (exfalso; simp [Zu] at *))
def accOk (n : Nat) (acc : LC) : Prop := ∀ x ∈ acc, ∃ s : Nat → Int, x = [.own (YaL n (cI s))] ∧ ∀ i, i < n → 0 ≤ s i ∧ s i ≤ 10000
theorem rowD_ok {n : Nat} {o : Nat → Int} (hn : n ≤ lim) (h : ∀ j, j < n → (Lit.int .i64 (o j)).wf = true) : Zi RI lim (rowD n fun j => .int .i64 (o j)) := by
 refine ⟨by rw [Ybg]; exact hn, fun r hr => ?_⟩
 obtain ⟨j, hj, rfl⟩ := List.mem_map.mp hr
 exact ⟨_, rfl, h j (List.mem_range.mp hj), trivial⟩
theorem imm_cI (n : Nat) (o : Nat → Int) : C.immRows (YaL n (cI o)) = rowD n fun j => .int .i64 (o j) := imm_rowF n (cI o)
theorem acc_back {n : Nat} : ∀ {r : LC}, accOk n r → Zb (C.immRows r) = r
 | [], _ => rfl
 | x :: r, h => by
  obtain ⟨s, rfl, _⟩ := h x (by simp)
  have ih := acc_back (n := n) (r := r) fun y hy => h y (by simp [hy])
  simp only [C.immRows, C.immCells, C.imm, Zb, ZZ, ZbW, ih, imm_cI, deep_rowI]
theorem acc_rows {n : Nat} (hn : n ≤ lim) {r : LC} (h : accOk n r) : ∀ x ∈ C.immRows r, RLIE 2097152 x := fun x hx => by
 rw [Ybk] at hx
 obtain ⟨y, hy, rfl⟩ := List.mem_map.mp hx
 obtain ⟨s, rfl, hs⟩ := h y hy
 simp only [C.immCells, C.imm, imm_cI]
 have := rowD_ok (o := s) hn fun j hj => by have := hs j hj; exact wf_mk (by omega) (by omega)
 exact ⟨_, rfl, RI.wide this, trivial⟩
theorem acc_wt {n : Nat} : ∀ {r : LC}, accOk n r → Zp (C.immRows r) = n * r.length
 | [], _ => rfl
 | x :: r, h => by
  obtain ⟨s, rfl, hs⟩ := h x (by simp)
  have ih := acc_wt (n := n) (r := r) fun y hy => h y (by simp [hy])
  have hR : ∀ y ∈ rowD n (fun j => .int .i64 (s j)), RI lim y := fun y hy => by
   obtain ⟨j, hj, rfl⟩ := List.mem_map.mp hy
   have := hs j (List.mem_range.mp hj)
   exact ⟨_, rfl, wf_mk (by omega) (by omega), trivial⟩
  simp only [C.immRows, C.immCells, C.imm, imm_cI, Zp, ZbG, wtD, ih, RI.wt hR, Ybg, List.length_cons]
  rw [Nat.mul_add]
  omega
theorem sub_mod {n i : Nat} (hi : i < n) {o s : Nat → Int} : ((YaL n (cI fun j => if j < i then o j - s j else o j)).modify i fun z => Zq z 0 [.d (.int .i64 (o i - s i))]) = YaL n (cI fun j => if j < i + 1 then o j - s j else o j) := by
 rw [Ybf hi]
 refine Ya7 fun j hj => ?_
 show (if j = i then C.d (.int .i64 (o i - s i)) else C.d (.int .i64 (if j < i then o j - s j else o j))) = C.d (.int .i64 (if j < i + 1 then o j - s j else o j))
 by_cases hji : j = i
 ·subst hji
  rw [if_pos rfl, if_pos (by omega : j < j + 1)]
 ·rw [if_neg hji, Ybh (p := j < i + 1) (q := j < i) (by omega) rfl]
theorem spec_sub {n : Nat} (hn : n ≤ lim) {a0 a1 : LD} {i : Int} {acc : LC} {o s : Nat → Int} (ho : ∀ j, j < n → 0 ≤ o j ∧ o j ≤ 10000) (hs : ∀ j, j < n → 0 ≤ s j ∧ s j ≤ 10000) (ha : acc.length ≤ lim) {k : Nat} (hk : Z3 k) {β : Type} {L1 : (LD × LD × Int × LC × LC) → Option β} {K : LC → Option β} :
  Zo (YA.l2 k a0 a1 i acc (YaL n (cI s)) L1 K) k (0, YaL n (cI o)) = L1 (a0, a1, IntKind.wrap .i64 (i + 1), acc ++ [[.own (YaL n (cI s))]], YaL n (cI fun j => o j - s j)) := by
 have hb : big = 2 ^ 64 := rfl
 have hmost : ZN = 2 ^ 36 := rfl
 have hlim : lim = 1048576 := rfl
 have hst : YaL n (cI o) = YaL n (cI fun j => if j < 0 then o j - s j else o j) := Ya7 fun j hj => by simp
 rw [hst]
 refine iter_seq (f := fun t => ((t : Int), YaL n (cI fun j => if j < t then o j - s j else o j))) (n := n) (by unfold Z3 at hk; omega) (fun M t ht => ?_) (fun M => ?_)
 ·have := ho t ht
  have := hs t ht
  have hw1 : IntKind.wrap .i64 ((t : Int) + 1) = ((t + 1 : Nat) : Int) := by rw [Zj (by omega) (by omega)]; omega
  have hw2 : IntKind.wrap .i64 (o t - s t) = o t - s t := Zj (by omega) (by omega)
  have hat : (if t < t then o t - s t else o t) = o t := if_neg (by omega)
  simp only [YA.l2, Yav]
  rw [ZQ (show (t : Int) < (n : Int) by omega)]
  simp only [cond_true]
  rw [ZaP ⟨by omega, by omega⟩, Int.toNat_natCast, Ya9 ht]
  simp only [List.drop_zero, ZY, cD_at, Zad, hat]
  rw [ZaP ⟨by omega, by omega⟩, Ya9 ht]
  simp only [List.drop_zero, ZY, cD_at, Zad]
  rw [ZaP ⟨by omega, by omega⟩, ZaP ht, hw1, hw2, sub_mod ht]
 ·simp only [YA.l2, Yav]
  rw [ZV (show ¬ (n : Int) < (n : Int) by omega)]
  simp only [cond_false]
  rw [ZaP (by simp only [List.length_cons, List.length_nil]; omega), Ya7 (g := cI fun j => if j < n then o j - s j else o j) (h := cI fun j => o j - s j) fun j hj => by show C.d (.int .i64 (if j < n then o j - s j else o j)) = C.d (.int .i64 (o j - s j)); rw [if_pos hj]]
theorem impl_sub {n : Nat} (hn : n ≤ lim) {a0 a1 : LD} {i w : Int} {acc : LC} {o s : Nat → Int} (ho : ∀ j, j < n → 0 ≤ o j ∧ o j ≤ 10000) (hs : ∀ j, j < n → 0 ≤ s j ∧ s j ≤ 10000) (ha : acc.length ≤ lim) {k : Nat} (hk : Z3 k) {β : Type} {L1 : (LD × LD × Int × Int × LC × LC) → Option β} {K : LC → Option β} :
  Zo (YB.l2 k a1 a0 w i (n : Int) acc (YaL n (cI s)) L1 K) k (0, YaL n (cI o)) = L1 (a1, a0, w, IntKind.wrap .i64 (i + 1), acc ++ [[.own (YaL n (cI s))]], YaL n (cI fun j => o j - s j)) := by
 have hb : big = 2 ^ 64 := rfl
 have hmost : ZN = 2 ^ 36 := rfl
 have hlim : lim = 1048576 := rfl
 have hst : YaL n (cI o) = YaL n (cI fun j => if j < 0 then o j - s j else o j) := Ya7 fun j hj => by simp
 rw [hst]
 refine iter_seq (f := fun t => ((t : Int), YaL n (cI fun j => if j < t then o j - s j else o j))) (n := n) (by unfold Z3 at hk; omega) (fun M t ht => ?_) (fun M => ?_)
 ·have := ho t ht
  have := hs t ht
  have hw1 : IntKind.wrap .i64 ((t : Int) + 1) = ((t + 1 : Nat) : Int) := by rw [Zj (by omega) (by omega)]; omega
  have hw2 : IntKind.wrap .i64 (o t - s t) = o t - s t := Zj (by omega) (by omega)
  have hat : (if t < t then o t - s t else o t) = o t := if_neg (by omega)
  simp only [YB.l2, Yav]
  rw [ZQ (show (t : Int) < (n : Int) by omega)]
  simp only [cond_true]
  rw [ZaP ⟨by omega, by omega⟩, Int.toNat_natCast, Ya9 ht]
  simp only [List.drop_zero, ZY, cD_at, Zad]
  rw [ZaP ⟨by omega, by omega⟩, Ya9 ht]
  simp only [List.drop_zero, ZY, cD_at, Zad, hat]
  rw [ZaP ⟨by omega, by omega⟩, ZaP ht, hw1, hw2, sub_mod ht]
 ·simp only [YB.l2, Yav]
  rw [ZV (show ¬ (n : Int) < (n : Int) by omega)]
  simp only [cond_false]
  rw [ZaP (by simp only [List.length_cons, List.length_nil]; omega), Ya7 (g := cI fun j => if j < n then o j - s j else o j) (h := cI fun j => o j - s j) fun j hj => by show C.d (.int .i64 (if j < n then o j - s j else o j)) = C.d (.int .i64 (o j - s j)); rw [if_pos hj]]
set_option maxRecDepth 100000 in
theorem plans_rounds {a0 a1 : LD} (g0 : Zi YV lim a0) (g1 : Zi Yar lim a1) (h40 : a0.length ≤ 40) : ∀ (m i : Nat), i + m = a0.length → ∀ (o : Nat → Int), (∀ j, j < a1.length → (Lit.int .i64 (o j)).wf = true) → ∀ acc, accOk a1.length acc → acc.length = i →
  ∃ r, accOk a1.length r ∧ r.length ≤ a0.length ∧ ∀ {k : Nat}, Z3 k → ∀ st, m < st → ∀ {β : Type} (K : LC → Option β),
   Zo (YA.l1 k K) st (a0, a1, (i : Int), acc, YaL a1.length (cI o)) = K r ∧ Zo (YB.l1 k K) st (a1, a0, (a0.length : Int), (i : Int), acc, YaL a1.length (cI o)) = K r := by
 have hb : big = 2 ^ 64 := rfl
 have hlim : lim = 1048576 := rfl
 have hn := g1.1
 intro m
 induction m with
 | zero =>
  intro i hi o ho acc hacc hlen
  refine ⟨acc, hacc, by omega, fun {k} hk st hst {β} K => ⟨?_, ?_⟩⟩
  ·rw [iter_step hst]
   simp only [YA.l1, YA.m1, atR, rdQ, Q.ask]
   rw [ZV (show ¬ (i : Int) < (a0.length : Int) by omega)]
   rfl
  ·rw [iter_step hst]
   simp only [YB.l1, YB.m1, atR, rdQ, Q.ask]
   rw [ZV (show ¬ (i : Int) < (a0.length : Int) by omega)]
   rfl
 | succ m ih =>
  intro i hi o ho acc hacc hlen
  obtain ⟨_, _, e1, e2, e3, _⟩ := YV.get g0 (v := (i : Int)) (by omega) (by omega)
  have g5 := rowD_ok hn ho
  obtain ⟨r, hr, hF, hT, hs⟩ := shares_fv (aC := gI a0 (i : Int) 0) e1 e2 e3 g1 g5
  have hS : ∀ {k : Nat}, Z3 k → ∀ {β : Type} (K : LC → Option β), Yaa.f k (gI a0 (i : Int) 0) (gL a0 (i : Int) 1) (gL a0 (i : Int) 2) (gL a0 (i : Int) 3) a1 (rowD a1.length fun j => .int .i64 (o j)) K = K r := fun {k} hk {β} K => Yaa.f_of (hs hk).1 K
  have hI : ∀ {k : Nat}, Z3 k → ∀ {β : Type} (K : LC → Option β), Yal.f k (gI a0 (i : Int) 0) (gL a0 (i : Int) 1) (gL a0 (i : Int) 2) (gL a0 (i : Int) 3) a1 (rowD a1.length fun j => .int .i64 (o j)) K = K r := fun {k} hk {β} K => Yal.f_of (hs hk).2 K
  cases hok : okS (gI a0 (i : Int) 0) (gL a0 (i : Int) 1) (gL a0 (i : Int) 2) (gL a0 (i : Int) 3) a1 (rowD a1.length fun j => .int .i64 (o j)) with
  | false =>
   have hr0 := hF hok
   refine ⟨[], fun x hx => (by cases hx), Nat.zero_le _, fun {k} hk st hst {β} K => ⟨?_, ?_⟩⟩
   ·rw [iter_step (by omega)]
    simp only [YA.l1, YA.m1, atR, rdQ, Q.ask]
    rw [ZQ (show (i : Int) < (a0.length : Int) by omega)]
    simp (disch := omega) only [cond_true, YV.row g0, ZY, Zad, Za7, Z6, imm_cI, hS hk, Yz.fv e1 e2 e3 hk]
    rw [ZV (show ¬ (a0.length : Int) > 40 by omega)]
    simp only [cond_false]
    cases hW : Yz.v (gI a0 (i : Int) 0) (gL a0 (i : Int) 1) (gL a0 (i : Int) 2) (gL a0 (i : Int) 3) with
    | false => rfl
    | true =>
     simp only [Bool.not_true, cond_false]
     have hne : a1.length ≠ 0 := fun h0 => by
      unfold okS at hok
      rw [hW, Ybg, h0] at hok
      simp at hok
     rw [hr0, show ((([] : LC).length : Int) != (a1.length : Int)) = true from bne_iff_ne.mpr (by simp only [List.length_nil]; omega)]
     rfl
   ·rw [iter_step (by omega)]
    simp only [YB.l1, YB.m1, atR, rdQ, Q.ask]
    rw [ZQ (show (i : Int) < (a0.length : Int) by omega)]
    simp (disch := omega) only [cond_true, YV.row g0, ZY, Zad, Za7, Z6, imm_cI, Ybe e1 e2 e3 g1 g5 hk, hok, Bool.not_false]
  | true =>
   have hrl := hT hok
   have hok' := hok
   unfold okS at hok'
   simp only [Bool.and_eq_true, decide_eq_true_eq, List.all_eq_true, List.mem_range] at hok'
   obtain ⟨hW, h12, _, _, hL⟩ := hok'
   have ho2 : ∀ j, j < a1.length → 0 ≤ o j ∧ o j ≤ 10000 := fun j hj => by
    have := hL j (by rw [Ybg]; exact hj)
    rw [gI_rowD hj] at this
    simpa [inB] using this
   obtain ⟨s, rfl, hsb⟩ : ∃ s : Nat → Int, r = YaL a1.length (cI s) ∧ ∀ j, j < a1.length → 0 ≤ s j ∧ s j ≤ 10000 := by
    rcases hr with rfl | ⟨s, rfl, h⟩
    ·refine ⟨fun _ => 0, ?_, fun _ _ => ⟨Int.le_refl 0, (by decide : (0 : Int) ≤ 10000)⟩⟩
     have : a1.length = 0 := hrl.symm
     rw [this]
     rfl
    ·exact ⟨s, rfl, h⟩
   obtain ⟨r2, h1, h2, h3⟩ := ih (i + 1) (by omega) (fun j => o j - s j) (fun j hj => by have := ho2 j hj; have := hsb j hj; exact wf_mk (by omega) (by omega)) (acc ++ [[.own (YaL a1.length (cI s))]]) (fun x hx => by
    rcases List.mem_append.mp hx with h | h
    ·exact hacc x h
    ·rw [List.mem_singleton] at h; exact ⟨s, h, hsb⟩) (by simp [hlen])
   have hw1 : IntKind.wrap .i64 ((i : Int) + 1) = ((i + 1 : Nat) : Int) := by rw [Zj (by omega) (by omega)]; omega
   refine ⟨r2, h1, h2, fun {k} hk st hst {β} K => ⟨?_, ?_⟩⟩
   ·rw [iter_step (by omega)]
    simp only [YA.l1, YA.m1, atR, rdQ, Q.ask]
    rw [ZQ (show (i : Int) < (a0.length : Int) by omega)]
    simp (disch := omega) only [cond_true, YV.row g0, ZY, Zad, Za7, Z6, imm_cI, hS hk, Yz.fv e1 e2 e3 hk, hW, Bool.not_true, cond_false, Yav, bne_self_eq_false]
    rw [ZV (show ¬ (a0.length : Int) > 40 by omega)]
    simp only [cond_false]
    rw [spec_sub hn ho2 hsb (by omega) hk, hw1]
    exact (h3 hk (st - 1) (by omega) K).1
   ·rw [iter_step (by omega)]
    simp only [YB.l1, YB.m1, atR, rdQ, Q.ask]
    rw [ZQ (show (i : Int) < (a0.length : Int) by omega)]
    simp (disch := omega) only [cond_true, YV.row g0, ZY, Zad, Za7, Z6, imm_cI, Ybe e1 e2 e3 g1 g5 hk, hI hk, hok, Bool.not_true, cond_false, Yav]
    rw [impl_sub hn ho2 hsb (by omega) hk, hw1]
    exact (h3 hk (st - 1) (by omega) K).2
set_option maxRecDepth 100000 in
theorem plans_fv {a0 a1 : LD} (g0 : Zi YV lim a0) (g1 : Zi Yar lim a1) : ∃ r, accOk a1.length r ∧ r.length ≤ a0.length ∧ ∀ {k : Nat}, Z3 k → YA.t k a0 a1 = some r ∧ YB.t k a0 a1 = some r := by
 have hb : big = 2 ^ 64 := rfl
 have hmost : ZN = 2 ^ 36 := rfl
 have hlim : lim = 1048576 := rfl
 have hn := g1.1
 have hn0 := g0.1
 have ho : ∀ j, j < a1.length → (Lit.int .i64 (gI a1 (j : Int) 3)).wf = true := fun j hj => (Yar.get g1 (v := (j : Int)) (by omega) (by omega)).2.2.2.2.1
 have hstS : ∀ {k : Nat}, Z3 k → YA.t k a0 a1 = Zo (YA.l1 k some) k (a0, a1, ((0 : Nat) : Int), [], YaL a1.length (cI fun j => gI a1 (j : Int) 3)) := fun {k} hk => by
  unfold YA.t YA.g
  refine iter_seq (f := fun i => ((i : Int), YaL i (cI fun j => gI a1 (j : Int) 3))) (n := a1.length) (by unfold Z3 at hk; omega) (fun L i hi => ?_) (fun L => ?_)
  ·have hw1 : IntKind.wrap .i64 ((i : Int) + 1) = ((i + 1 : Nat) : Int) := by rw [Zj (by omega) (by omega)]; omega
   simp only [YA.l0, YA.m0, atR, rdQ, Q.ask]
   rw [ZQ (show (i : Int) < (a1.length : Int) by omega)]
   simp (disch := omega) only [cond_true, Yar.row g1, ZY, Zaj, Za7, Zad, Z6, hw1]
   rw [ZaP (by simp only [Yav, List.length_cons, List.length_nil]; omega), ← rowF_snoc]
  ·simp only [YA.l0, YA.m0, atR, rdQ, Q.ask]
   rw [ZV (show ¬ (a1.length : Int) < (a1.length : Int) by omega)]
   rfl
 have hstI : ∀ {k : Nat}, Z3 k → YB.t k a0 a1 = bif decide ((a0.length : Int) > 40) then some [] else Zo (YB.l1 k some) k (a1, a0, (a0.length : Int), ((0 : Nat) : Int), [], YaL a1.length (cI fun j => gI a1 (j : Int) 3)) := fun {k} hk => by
  unfold YB.t YB.g
  refine iter_seq (f := fun i => ((i : Int), YaL i (cI fun j => gI a1 (j : Int) 3))) (n := a1.length) (by unfold Z3 at hk; omega) (fun L i hi => ?_) (fun L => ?_)
  ·have hw1 : IntKind.wrap .i64 ((i : Int) + 1) = ((i + 1 : Nat) : Int) := by rw [Zj (by omega) (by omega)]; omega
   simp only [YB.l0, YB.m0, atR, rdQ, Q.ask]
   rw [ZQ (show (i : Int) < (a1.length : Int) by omega)]
   simp (disch := omega) only [cond_true, Yar.row g1, ZY, Zaj, Za7, Zad, Z6, hw1]
   rw [ZaP (by simp only [Yav, List.length_cons, List.length_nil]; omega), ← rowF_snoc]
  ·simp only [YB.l0, YB.m0, atR, rdQ, Q.ask]
   rw [ZV (show ¬ (a1.length : Int) < (a1.length : Int) by omega)]
   rfl
 by_cases h40 : a0.length ≤ 40
 ·obtain ⟨r, h1, h2, h3⟩ := plans_rounds g0 g1 h40 a0.length 0 (by omega) _ ho [] (fun x hx => by cases hx) rfl
  refine ⟨r, h1, h2, fun {k} hk => ⟨?_, ?_⟩⟩
  ·rw [hstS hk]
   exact (h3 hk k (by unfold Z3 at hk; omega) some).1
  ·rw [hstI hk, ZV (show ¬ (a0.length : Int) > 40 by omega)]
   exact (h3 hk k (by unfold Z3 at hk; omega) some).2
 ·refine ⟨[], fun x hx => (by cases hx), Nat.zero_le _, fun {k} hk => ⟨?_, ?_⟩⟩
  ·rw [hstS hk, iter_step (by unfold Z3 at hk; omega)]
   obtain ⟨_, _, e1, e2, e3, _⟩ := YV.get g0 (v := ((0 : Nat) : Int)) (by omega) (by omega)
   have g5 := rowD_ok hn ho
   obtain ⟨r, _, _, _, hs⟩ := shares_fv (aC := gI a0 ((0 : Nat) : Int) 0) e1 e2 e3 g1 g5
   have hS : ∀ {β : Type} (K : LC → Option β), Yaa.f k (gI a0 ((0 : Nat) : Int) 0) (gL a0 ((0 : Nat) : Int) 1) (gL a0 ((0 : Nat) : Int) 2) (gL a0 ((0 : Nat) : Int) 3) a1 (rowD a1.length fun j => .int .i64 (gI a1 (j : Int) 3)) K = K r := fun {β} K => Yaa.f_of (hs hk).1 K
   simp only [YA.l1, YA.m1, atR, rdQ, Q.ask]
   rw [ZQ (show ((0 : Nat) : Int) < (a0.length : Int) by omega)]
   simp (disch := omega) only [cond_true, YV.row g0, ZY, Zad, Za7, Z6, imm_cI, hS]
   rw [ZQ (show (a0.length : Int) > 40 by omega)]
   rfl
  ·rw [hstI hk, ZQ (show (a0.length : Int) > 40 by omega)]
   rfl
theorem YA.T {a0 a1 : LD} (g0 : Zi YV lim a0) (g1 : Zi Yar lim a1) (_ : Zp a0 ≤ 67108864) (_ : Zp a1 ≤ 67108864) :
  Tm Z3 (fun k => YA.t k a0 a1) (fun z => Zi RLIE 2097152 (C.immRows z) ∧ Zp (C.immRows z) ≤ 1125899906842624 ∧ True) := by
 have hlim : lim = 1048576 := rfl
 have hn := g1.1
 have hn0 := g0.1
 obtain ⟨r, h1, h2, h3⟩ := plans_fv g0 g1
 refine Tm.of (fun k hk => (h3 hk).1) ⟨⟨by rw [Ybk, List.length_map]; omega, acc_rows hn h1⟩, ?_, trivial⟩
 rw [acc_wt h1]
 have := Nat.mul_le_mul (show a1.length ≤ 1048576 by omega) (show r.length ≤ 1048576 by omega)
 omega
theorem YB.same {a0 a1 : LD} (g0 : Zi YV lim a0) (g1 : Zi Yar lim a1) (_ : Zp a0 ≤ 67108864) (_ : Zp a1 ≤ 67108864) {k : Nat} (hk : ZF 1 k) {z0 : LC}
  (hz : YA.t k a0 a1 = some z0) : YB.t k a0 a1 = some (Zb (C.immRows z0)) := by
 obtain ⟨r, h1, _, h3⟩ := plans_fv g0 g1
 obtain ⟨q1, q2⟩ := h3 (up0 hk)
 rw [q1] at hz
 injection hz with hz
 subst hz
 rw [q2, acc_back h1]
theorem YR.tm {ι α : Type} {ok : ι → Prop} {ψ : α → Prop} {p : ι → Nat} {B : Nat} (hp : ∀ i, ok i → B ≤ p i) {a0 a1 φ} (h : Tm (fun k => B ≤ k) (fun k => YR.t k a0 a1) φ) {G : ι → Bool → Option α} (hG : ∀ z0, φ z0 → Tm ok (fun i => G i z0) ψ) : Tm ok (fun i => YR.f (p i) a0 a1 (G i)) ψ := ZK (t := fun k => YR.t k a0 a1) hp h hG
set_option maxRecDepth 100000 in
theorem YR.T {B : Nat} {a0 : LD} (ga0 : Zi RS B a0) (hB : B ≤ 1099511627776) : Tm Z3 (fun k => YR.t k a0 a0) (fun r => r = true) := by
 unfold YR.t YR.g
 have hm := Zy
 have hlim : lim = 1048576 := rfl
 have hlen := ga0.1
 refine Tm.ite (fun h1 => ?_) (fun h1 => ?_)
 ·try simp only [bz0, bz1, bz2, bz3, bz4, bz5, bz6, bz7, bz8, bz9, bza] at h1
  exact Tm.ret (by first | rfl | (exfalso; simp [Zu] at *))
 ·try simp only [bz0, bz1, bz2, bz3, bz4, bz5, bz6, bz7, bz8, bz9, bza] at h1
  refine Tm.loop (okk := Z3) (p := fun k => k) (fun i hi => hi) (b := fun k => YR.l0 k a0 a0 (fun z0 => some z0)) (fun i => (((a0.length : Int)) - i).toNat) (fun i => 0 ≤ i ∧ i ≤ (a0.length : Int)) ?_ ?_ ?_
  ·rintro i hI
   try simp only [] at hI ⊢
   have : big = 2 ^ 64 := rfl
   have := ga0.1
   omega
  ·((try simp only []); omega)
  ·rintro i hI L hL
   try simp only [] at hI
   obtain ⟨i0, i1⟩ := hI
   simp only [YR.l0, atR, rdQ, Q.ask]
   refine Tm.ite (fun h2 => ?_) (fun h2 => ?_)
   ·try simp only [bz0, bz1, bz2, bz3, bz4, bz5, bz6, bz7, bz8, bz9, bza] at h2
    refine Tm.atRow (by first | assumption | omega) (by first | assumption | omega) (fun x3 hx4 hm5 => ?_)
    obtain ⟨c6, rfl, g7, _⟩ := (ga0.2 x3 hm5).open
    refine Tm.uncons ?_
    refine Tm.dStr ?_
    refine Tm.atEnd ?_
    refine Tm.atRow (by first | assumption | omega) (by first | assumption | omega) (fun x8 hx9 hm10 => ?_)
    rw [hx4] at hx9
    injection hx9 with hx9
    subst hx9
    refine Tm.uncons ?_
    refine Tm.dStr ?_
    refine Tm.atEnd ?_
    refine Tm.ite (fun h12 => ?_) (fun h12 => ?_)
    ·try simp only [bz0, bz1, bz2, bz3, bz4, bz5, bz6, bz7, bz8, bz9, bza] at h12
     exact Tm.ret (by first | rfl | (exfalso; simp [Zu] at *))
    ·try simp only [bz0, bz1, bz2, bz3, bz4, bz5, bz6, bz7, bz8, bz9, bza] at h12
     try rw [Zj (x := i + 1) (by omega) (by omega)]
     exact hL _ (by (try simp only []); omega) (by (try simp only []); omega)
   ·try simp only [bz0, bz1, bz2, bz3, bz4, bz5, bz6, bz7, bz8, bz9, bza] at h2
    exact Tm.ret (by first | rfl | (exfalso; simp [Zu] at *))
theorem Ya3.tm {ι α : Type} {ok : ι → Prop} {ψ : α → Prop} {p : ι → Nat} {B : Nat} (hp : ∀ i, ok i → B ≤ p i) {aC aD aF aX aW aZ φ} (h : Tm (fun k => B ≤ k) (fun k => Ya3.t k aC aD aF aX aW aZ) φ) {G : ι → Bool → Option α} (hG : ∀ z0, φ z0 → Tm ok (fun i => G i z0) ψ) : Tm ok (fun i => Ya3.f (p i) aC aD aF aX aW aZ (G i)) ψ := ZK (t := fun k => Ya3.t k aC aD aF aX aW aZ) hp h hG
theorem Ya3.T {B : Nat} {aC : Int} {aD : BA} {aF : LD} (ga0_1 : aD.size ≤ B) (ga0_2 : Zi RS B aF) (hB : B ≤ 1099511627776) : Tm Z3 (fun k => Ya3.t k aC aD aF aC aD aF) (fun r => r = true) := by
 unfold Ya3.t Ya3.g
 have hm := Zy
 have hlim : lim = 1048576 := rfl
 refine Tm.ite (fun h1 => ?_) (fun h1 => ?_)
 ·try simp only [bz0, bz1, bz2, bz3, bz4, bz5, bz6, bz7, bz8, bz9, bza] at h1
  exact Tm.ret (by first | rfl | (exfalso; simp [Zu] at *))
 ·try simp only [bz0, bz1, bz2, bz3, bz4, bz5, bz6, bz7, bz8, bz9, bza] at h1
  refine Tm.ite (fun h2 => ?_) (fun h2 => ?_)
  ·try simp only [bz0, bz1, bz2, bz3, bz4, bz5, bz6, bz7, bz8, bz9, bza] at h2
   exact Tm.ret (by first | rfl | (exfalso; simp [Zu] at *))
  ·try simp only [bz0, bz1, bz2, bz3, bz4, bz5, bz6, bz7, bz8, bz9, bza] at h2
   refine YR.tm (fun i hi => hi) (YR.T (by first | assumption | omega) (by first | assumption | omega)) (fun y4 hy3 => ?_)
   subst hy3
   refine Tm.ite (fun h5 => ?_) (fun h5 => ?_)
   ·try simp only [bz0, bz1, bz2, bz3, bz4, bz5, bz6, bz7, bz8, bz9, bza] at h5
    exact Tm.ret (by first | rfl | (exfalso; simp [Zu] at *))
   ·try simp only [bz0, bz1, bz2, bz3, bz4, bz5, bz6, bz7, bz8, bz9, bza] at h5
    exact Tm.ret (by first | rfl | (exfalso; simp [Zu] at *))
theorem Yap.tm {ι α : Type} {ok : ι → Prop} {ψ : α → Prop} {p : ι → Nat} {B : Nat} (hp : ∀ i, ok i → B ≤ p i) {a0 a1 φ} (h : Tm (fun k => B ≤ k) (fun k => Yap.t k a0 a1) φ) {G : ι → Bool → Option α} (hG : ∀ z0, φ z0 → Tm ok (fun i => G i z0) ψ) : Tm ok (fun i => Yap.f (p i) a0 a1 (G i)) ψ := ZK (t := fun k => Yap.t k a0 a1) hp h hG
set_option maxRecDepth 100000 in
theorem Yap.T {B : Nat} {a0 : LD} (ga0 : Zi YaC B a0) (hB : B ≤ 1099511627776) : Tm Z3 (fun k => Yap.t k a0 a0) (fun r => r = true) := by
 unfold Yap.t Yap.g
 have hm := Zy
 have hlim : lim = 1048576 := rfl
 have hlen := ga0.1
 refine Tm.ite (fun h1 => ?_) (fun h1 => ?_)
 ·try simp only [bz0, bz1, bz2, bz3, bz4, bz5, bz6, bz7, bz8, bz9, bza] at h1
  exact Tm.ret (by first | rfl | (exfalso; simp [Zu] at *))
 ·try simp only [bz0, bz1, bz2, bz3, bz4, bz5, bz6, bz7, bz8, bz9, bza] at h1
  refine Tm.loop (okk := Z3) (p := fun k => k) (fun i hi => hi) (b := fun k => Yap.l0 k a0 a0 (fun z0 => some z0)) (fun i => (((a0.length : Int)) - i).toNat) (fun i => 0 ≤ i ∧ i ≤ (a0.length : Int)) ?_ ?_ ?_
  ·rintro i hI
   try simp only [] at hI ⊢
   have : big = 2 ^ 64 := rfl
   have := ga0.1
   omega
  ·((try simp only []); omega)
  ·rintro i hI L hL
   try simp only [] at hI
   obtain ⟨i0, i1⟩ := hI
   simp only [Yap.l0, atR, rdQ, Q.ask]
   refine Tm.ite (fun h2 => ?_) (fun h2 => ?_)
   ·try simp only [bz0, bz1, bz2, bz3, bz4, bz5, bz6, bz7, bz8, bz9, bza] at h2
    refine Tm.atRow (by first | assumption | omega) (by first | assumption | omega) (fun x3 hx4 hm5 => ?_)
    obtain ⟨c6, c7, c8, rfl, g9, g10, g11, _⟩ := (ga0.2 x3 hm5).open
    refine Tm.uncons ?_
    refine Tm.dInt ?_
    refine Tm.uncons ?_
    refine Tm.dStr ?_
    refine Tm.uncons ?_
    refine Tm.dSl ?_
    refine Tm.atEnd ?_
    refine Tm.atRow (by first | assumption | omega) (by first | assumption | omega) (fun x12 hx13 hm14 => ?_)
    rw [hx4] at hx13
    injection hx13 with hx13
    subst hx13
    refine Tm.uncons ?_
    refine Tm.dInt ?_
    refine Tm.uncons ?_
    refine Tm.dStr ?_
    refine Tm.uncons ?_
    refine Tm.dSl ?_
    refine Tm.atEnd ?_
    refine Ya3.tm (fun i hi => hi.1) (Ya3.T (by first | assumption | omega) (by first | assumption | omega) (by first | assumption | omega)) (fun y19 hy18 => ?_)
    subst hy18
    refine Tm.ite (fun h20 => ?_) (fun h20 => ?_)
    ·try simp only [bz0, bz1, bz2, bz3, bz4, bz5, bz6, bz7, bz8, bz9, bza] at h20
     exact Tm.ret (by first | rfl | (exfalso; simp [Zu] at *))
    ·try simp only [bz0, bz1, bz2, bz3, bz4, bz5, bz6, bz7, bz8, bz9, bza] at h20
     try rw [Zj (x := i + 1) (by omega) (by omega)]
     exact hL _ (by (try simp only []); omega) (by (try simp only []); omega)
   ·try simp only [bz0, bz1, bz2, bz3, bz4, bz5, bz6, bz7, bz8, bz9, bza] at h2
    exact Tm.ret (by first | rfl | (exfalso; simp [Zu] at *))
theorem YaV.tm {ι α : Type} {ok : ι → Prop} {ψ : α → Prop} {p : ι → Nat} {B : Nat} (hp : ∀ i, ok i → B ≤ p i) {aC aD aX aW φ} (h : Tm (fun k => B ≤ k) (fun k => YaV.t k aC aD aX aW) φ) {G : ι → Bool → Option α} (hG : ∀ z0, φ z0 → Tm ok (fun i => G i z0) ψ) : Tm ok (fun i => YaV.f (p i) aC aD aX aW (G i)) ψ := ZK (t := fun k => YaV.t k aC aD aX aW) hp h hG
theorem YaV.T {B : Nat} {aC : BA} {aD : Int} (ga0_0 : aC.size ≤ B) (hB : B ≤ 1099511627776) : Tm Z3 (fun k => YaV.t k aC aD aC aD) (fun r => r = true) := by
 unfold YaV.t YaV.g
 have hm := Zy
 have hlim : lim = 1048576 := rfl
 refine Tm.ite (fun h1 => ?_) (fun h1 => ?_)
 ·try simp only [bz0, bz1, bz2, bz3, bz4, bz5, bz6, bz7, bz8, bz9, bza] at h1
  exact Tm.ret (by first | rfl | (exfalso; simp [Zu] at *))
 ·try simp only [bz0, bz1, bz2, bz3, bz4, bz5, bz6, bz7, bz8, bz9, bza] at h1
  refine Tm.ite (fun h2 => ?_) (fun h2 => ?_)
  ·try simp only [bz0, bz1, bz2, bz3, bz4, bz5, bz6, bz7, bz8, bz9, bza] at h2
   exact Tm.ret (by first | rfl | (exfalso; simp [Zu] at *))
  ·try simp only [bz0, bz1, bz2, bz3, bz4, bz5, bz6, bz7, bz8, bz9, bza] at h2
   exact Tm.ret (by first | rfl | (exfalso; simp [Zu] at *))
theorem Yag.tm {ι α : Type} {ok : ι → Prop} {ψ : α → Prop} {p : ι → Nat} {B : Nat} (hp : ∀ i, ok i → B ≤ p i) {a0 a1 φ} (h : Tm (fun k => B ≤ k) (fun k => Yag.t k a0 a1) φ) {G : ι → Bool → Option α} (hG : ∀ z0, φ z0 → Tm ok (fun i => G i z0) ψ) : Tm ok (fun i => Yag.f (p i) a0 a1 (G i)) ψ := ZK (t := fun k => Yag.t k a0 a1) hp h hG
set_option maxRecDepth 100000 in
theorem Yag.T {B : Nat} {a0 : LD} (ga0 : Zi RSI B a0) (hB : B ≤ 1099511627776) : Tm Z3 (fun k => Yag.t k a0 a0) (fun r => r = true) := by
 unfold Yag.t Yag.g
 have hm := Zy
 have hlim : lim = 1048576 := rfl
 have hlen := ga0.1
 refine Tm.ite (fun h1 => ?_) (fun h1 => ?_)
 ·try simp only [bz0, bz1, bz2, bz3, bz4, bz5, bz6, bz7, bz8, bz9, bza] at h1
  exact Tm.ret (by first | rfl | (exfalso; simp [Zu] at *))
 ·try simp only [bz0, bz1, bz2, bz3, bz4, bz5, bz6, bz7, bz8, bz9, bza] at h1
  refine Tm.loop (okk := Z3) (p := fun k => k) (fun i hi => hi) (b := fun k => Yag.l0 k a0 a0 (fun z0 => some z0)) (fun i => (((a0.length : Int)) - i).toNat) (fun i => 0 ≤ i ∧ i ≤ (a0.length : Int)) ?_ ?_ ?_
  ·rintro i hI
   try simp only [] at hI ⊢
   have : big = 2 ^ 64 := rfl
   have := ga0.1
   omega
  ·((try simp only []); omega)
  ·rintro i hI L hL
   try simp only [] at hI
   obtain ⟨i0, i1⟩ := hI
   simp only [Yag.l0, atR, rdQ, Q.ask]
   refine Tm.ite (fun h2 => ?_) (fun h2 => ?_)
   ·try simp only [bz0, bz1, bz2, bz3, bz4, bz5, bz6, bz7, bz8, bz9, bza] at h2
    refine Tm.atRow (by first | assumption | omega) (by first | assumption | omega) (fun x3 hx4 hm5 => ?_)
    obtain ⟨c6, c7, rfl, g8, g9, _⟩ := (ga0.2 x3 hm5).open
    refine Tm.uncons ?_
    refine Tm.dStr ?_
    refine Tm.uncons ?_
    refine Tm.dInt ?_
    refine Tm.atEnd ?_
    refine Tm.atRow (by first | assumption | omega) (by first | assumption | omega) (fun x10 hx11 hm12 => ?_)
    rw [hx4] at hx11
    injection hx11 with hx11
    subst hx11
    refine Tm.uncons ?_
    refine Tm.dStr ?_
    refine Tm.uncons ?_
    refine Tm.dInt ?_
    refine Tm.atEnd ?_
    refine YaV.tm (fun i hi => hi.1) (YaV.T (by first | assumption | omega) (by first | assumption | omega)) (fun y16 hy15 => ?_)
    subst hy15
    refine Tm.ite (fun h17 => ?_) (fun h17 => ?_)
    ·try simp only [bz0, bz1, bz2, bz3, bz4, bz5, bz6, bz7, bz8, bz9, bza] at h17
     exact Tm.ret (by first | rfl | (exfalso; simp [Zu] at *))
    ·try simp only [bz0, bz1, bz2, bz3, bz4, bz5, bz6, bz7, bz8, bz9, bza] at h17
     try rw [Zj (x := i + 1) (by omega) (by omega)]
     exact hL _ (by (try simp only []); omega) (by (try simp only []); omega)
   ·try simp only [bz0, bz1, bz2, bz3, bz4, bz5, bz6, bz7, bz8, bz9, bza] at h2
    exact Tm.ret (by first | rfl | (exfalso; simp [Zu] at *))
theorem Ya2.tm {ι α : Type} {ok : ι → Prop} {ψ : α → Prop} {p : ι → Nat} {B : Nat} (hp : ∀ i, ok i → B ≤ p i) {aC aD aF aG aX aW aZ bE φ} (h : Tm (fun k => B ≤ k) (fun k => Ya2.t k aC aD aF aG aX aW aZ bE) φ) {G : ι → Bool → Option α} (hG : ∀ z0, φ z0 → Tm ok (fun i => G i z0) ψ) : Tm ok (fun i => Ya2.f (p i) aC aD aF aG aX aW aZ bE (G i)) ψ := ZK (t := fun k => Ya2.t k aC aD aF aG aX aW aZ bE) hp h hG
theorem Ya2.T {B : Nat} {aC : Int} {aD aF aG : LD} (ga0_1 : Zi YaC B aD) (ga0_2 : Zi RS B aF) (ga0_3 : Zi RSI B aG) (hB : B ≤ 1099511627776) : Tm Z3 (fun k => Ya2.t k aC aD aF aG aC aD aF aG) (fun r => r = true) := by
 unfold Ya2.t Ya2.g
 have hm := Zy
 have hlim : lim = 1048576 := rfl
 refine Tm.ite (fun h1 => ?_) (fun h1 => ?_)
 ·try simp only [bz0, bz1, bz2, bz3, bz4, bz5, bz6, bz7, bz8, bz9, bza] at h1
  exact Tm.ret (by first | rfl | (exfalso; simp [Zu] at *))
 ·try simp only [bz0, bz1, bz2, bz3, bz4, bz5, bz6, bz7, bz8, bz9, bza] at h1
  refine Yap.tm (fun i hi => hi) (Yap.T (by first | assumption | omega) (by first | assumption | omega)) (fun y3 hy2 => ?_)
  subst hy2
  refine Tm.ite (fun h4 => ?_) (fun h4 => ?_)
  ·try simp only [bz0, bz1, bz2, bz3, bz4, bz5, bz6, bz7, bz8, bz9, bza] at h4
   exact Tm.ret (by first | rfl | (exfalso; simp [Zu] at *))
  ·try simp only [bz0, bz1, bz2, bz3, bz4, bz5, bz6, bz7, bz8, bz9, bza] at h4
   refine YR.tm (fun i hi => hi) (YR.T (by first | assumption | omega) (by first | assumption | omega)) (fun y6 hy5 => ?_)
   subst hy5
   refine Tm.ite (fun h7 => ?_) (fun h7 => ?_)
   ·try simp only [bz0, bz1, bz2, bz3, bz4, bz5, bz6, bz7, bz8, bz9, bza] at h7
    exact Tm.ret (by first | rfl | (exfalso; simp [Zu] at *))
   ·try simp only [bz0, bz1, bz2, bz3, bz4, bz5, bz6, bz7, bz8, bz9, bza] at h7
    refine Yag.tm (fun i hi => hi) (Yag.T (by first | assumption | omega) (by first | assumption | omega)) (fun y9 hy8 => ?_)
    subst hy8
    refine Tm.ite (fun h10 => ?_) (fun h10 => ?_)
    ·try simp only [bz0, bz1, bz2, bz3, bz4, bz5, bz6, bz7, bz8, bz9, bza] at h10
     exact Tm.ret (by first | rfl | (exfalso; simp [Zu] at *))
    ·try simp only [bz0, bz1, bz2, bz3, bz4, bz5, bz6, bz7, bz8, bz9, bza] at h10
     exact Tm.ret (by first | rfl | (exfalso; simp [Zu] at *))
theorem Yao.tm {ι α : Type} {ok : ι → Prop} {ψ : α → Prop} {p : ι → Nat} {B : Nat} (hp : ∀ i, ok i → B ≤ p i) {a0 a1 φ} (h : Tm (fun k => B ≤ k) (fun k => Yao.t k a0 a1) φ) {G : ι → Bool → Option α} (hG : ∀ z0, φ z0 → Tm ok (fun i => G i z0) ψ) : Tm ok (fun i => Yao.f (p i) a0 a1 (G i)) ψ := ZK (t := fun k => Yao.t k a0 a1) hp h hG
set_option maxRecDepth 100000 in
theorem Yao.T {B : Nat} {a0 : LD} (ga0 : Zi YV B a0) (hB : B ≤ 1099511627776) : Tm Z3 (fun k => Yao.t k a0 a0) (fun r => r = true) := by
 unfold Yao.t Yao.g
 have hm := Zy
 have hlim : lim = 1048576 := rfl
 have hlen := ga0.1
 refine Tm.ite (fun h1 => ?_) (fun h1 => ?_)
 ·try simp only [bz0, bz1, bz2, bz3, bz4, bz5, bz6, bz7, bz8, bz9, bza] at h1
  exact Tm.ret (by first | rfl | (exfalso; simp [Zu] at *))
 ·try simp only [bz0, bz1, bz2, bz3, bz4, bz5, bz6, bz7, bz8, bz9, bza] at h1
  refine Tm.loop (okk := Z3) (p := fun k => k) (fun i hi => hi) (b := fun k => Yao.l0 k a0 a0 (fun z0 => some z0)) (fun i => (((a0.length : Int)) - i).toNat) (fun i => 0 ≤ i ∧ i ≤ (a0.length : Int)) ?_ ?_ ?_
  ·rintro i hI
   try simp only [] at hI ⊢
   have : big = 2 ^ 64 := rfl
   have := ga0.1
   omega
  ·((try simp only []); omega)
  ·rintro i hI L hL
   try simp only [] at hI
   obtain ⟨i0, i1⟩ := hI
   simp only [Yao.l0, atR, rdQ, Q.ask]
   refine Tm.ite (fun h2 => ?_) (fun h2 => ?_)
   ·try simp only [bz0, bz1, bz2, bz3, bz4, bz5, bz6, bz7, bz8, bz9, bza] at h2
    refine Tm.atRow (by first | assumption | omega) (by first | assumption | omega) (fun x3 hx4 hm5 => ?_)
    obtain ⟨c6, c7, c8, c9, rfl, g10, g11, g12, g13, _⟩ := (ga0.2 x3 hm5).open
    refine Tm.uncons ?_
    refine Tm.dInt ?_
    refine Tm.uncons ?_
    refine Tm.dSl ?_
    refine Tm.uncons ?_
    refine Tm.dSl ?_
    refine Tm.uncons ?_
    refine Tm.dSl ?_
    refine Tm.atEnd ?_
    refine Tm.atRow (by first | assumption | omega) (by first | assumption | omega) (fun x14 hx15 hm16 => ?_)
    rw [hx4] at hx15
    injection hx15 with hx15
    subst hx15
    refine Tm.uncons ?_
    refine Tm.dInt ?_
    refine Tm.uncons ?_
    refine Tm.dSl ?_
    refine Tm.uncons ?_
    refine Tm.dSl ?_
    refine Tm.uncons ?_
    refine Tm.dSl ?_
    refine Tm.atEnd ?_
    refine Ya2.tm (fun i hi => hi.1) (Ya2.T (by first | assumption | omega) (by first | assumption | omega) (by first | assumption | omega) (by first | assumption | omega)) (fun y22 hy21 => ?_)
    subst hy21
    refine Tm.ite (fun h23 => ?_) (fun h23 => ?_)
    ·try simp only [bz0, bz1, bz2, bz3, bz4, bz5, bz6, bz7, bz8, bz9, bza] at h23
     exact Tm.ret (by first | rfl | (exfalso; simp [Zu] at *))
    ·try simp only [bz0, bz1, bz2, bz3, bz4, bz5, bz6, bz7, bz8, bz9, bza] at h23
     try rw [Zj (x := i + 1) (by omega) (by omega)]
     exact hL _ (by (try simp only []); omega) (by (try simp only []); omega)
   ·try simp only [bz0, bz1, bz2, bz3, bz4, bz5, bz6, bz7, bz8, bz9, bza] at h2
    exact Tm.ret (by first | rfl | (exfalso; simp [Zu] at *))
theorem YaW.tm {ι α : Type} {ok : ι → Prop} {ψ : α → Prop} {p : ι → Nat} {B : Nat} (hp : ∀ i, ok i → B ≤ p i) {aC aD aX aW φ} (h : Tm (fun k => B ≤ k) (fun k => YaW.t k aC aD aX aW) φ) {G : ι → Bool → Option α} (hG : ∀ z0, φ z0 → Tm ok (fun i => G i z0) ψ) : Tm ok (fun i => YaW.f (p i) aC aD aX aW (G i)) ψ := ZK (t := fun k => YaW.t k aC aD aX aW) hp h hG
theorem YaW.T {B : Nat} {aC aD : BA} (ga0_0 : aC.size ≤ B) (ga0_1 : aD.size ≤ B) (hB : B ≤ 1099511627776) : Tm Z3 (fun k => YaW.t k aC aD aC aD) (fun r => r = true) := by
 unfold YaW.t YaW.g
 have hm := Zy
 have hlim : lim = 1048576 := rfl
 refine Tm.ite (fun h1 => ?_) (fun h1 => ?_)
 ·try simp only [bz0, bz1, bz2, bz3, bz4, bz5, bz6, bz7, bz8, bz9, bza] at h1
  exact Tm.ret (by first | rfl | (exfalso; simp [Zu] at *))
 ·try simp only [bz0, bz1, bz2, bz3, bz4, bz5, bz6, bz7, bz8, bz9, bza] at h1
  refine Tm.ite (fun h2 => ?_) (fun h2 => ?_)
  ·try simp only [bz0, bz1, bz2, bz3, bz4, bz5, bz6, bz7, bz8, bz9, bza] at h2
   exact Tm.ret (by first | rfl | (exfalso; simp [Zu] at *))
  ·try simp only [bz0, bz1, bz2, bz3, bz4, bz5, bz6, bz7, bz8, bz9, bza] at h2
   exact Tm.ret (by first | rfl | (exfalso; simp [Zu] at *))
theorem Yah.tm {ι α : Type} {ok : ι → Prop} {ψ : α → Prop} {p : ι → Nat} {B : Nat} (hp : ∀ i, ok i → B ≤ p i) {a0 a1 φ} (h : Tm (fun k => B ≤ k) (fun k => Yah.t k a0 a1) φ) {G : ι → Bool → Option α} (hG : ∀ z0, φ z0 → Tm ok (fun i => G i z0) ψ) : Tm ok (fun i => Yah.f (p i) a0 a1 (G i)) ψ := ZK (t := fun k => Yah.t k a0 a1) hp h hG
set_option maxRecDepth 100000 in
theorem Yah.T {B : Nat} {a0 : LD} (ga0 : Zi RSS B a0) (hB : B ≤ 1099511627776) : Tm Z3 (fun k => Yah.t k a0 a0) (fun r => r = true) := by
 unfold Yah.t Yah.g
 have hm := Zy
 have hlim : lim = 1048576 := rfl
 have hlen := ga0.1
 refine Tm.ite (fun h1 => ?_) (fun h1 => ?_)
 ·try simp only [bz0, bz1, bz2, bz3, bz4, bz5, bz6, bz7, bz8, bz9, bza] at h1
  exact Tm.ret (by first | rfl | (exfalso; simp [Zu] at *))
 ·try simp only [bz0, bz1, bz2, bz3, bz4, bz5, bz6, bz7, bz8, bz9, bza] at h1
  refine Tm.loop (okk := Z3) (p := fun k => k) (fun i hi => hi) (b := fun k => Yah.l0 k a0 a0 (fun z0 => some z0)) (fun i => (((a0.length : Int)) - i).toNat) (fun i => 0 ≤ i ∧ i ≤ (a0.length : Int)) ?_ ?_ ?_
  ·rintro i hI
   try simp only [] at hI ⊢
   have : big = 2 ^ 64 := rfl
   have := ga0.1
   omega
  ·((try simp only []); omega)
  ·rintro i hI L hL
   try simp only [] at hI
   obtain ⟨i0, i1⟩ := hI
   simp only [Yah.l0, atR, rdQ, Q.ask]
   refine Tm.ite (fun h2 => ?_) (fun h2 => ?_)
   ·try simp only [bz0, bz1, bz2, bz3, bz4, bz5, bz6, bz7, bz8, bz9, bza] at h2
    refine Tm.atRow (by first | assumption | omega) (by first | assumption | omega) (fun x3 hx4 hm5 => ?_)
    obtain ⟨c6, c7, rfl, g8, g9, _⟩ := (ga0.2 x3 hm5).open
    refine Tm.uncons ?_
    refine Tm.dStr ?_
    refine Tm.uncons ?_
    refine Tm.dStr ?_
    refine Tm.atEnd ?_
    refine Tm.atRow (by first | assumption | omega) (by first | assumption | omega) (fun x10 hx11 hm12 => ?_)
    rw [hx4] at hx11
    injection hx11 with hx11
    subst hx11
    refine Tm.uncons ?_
    refine Tm.dStr ?_
    refine Tm.uncons ?_
    refine Tm.dStr ?_
    refine Tm.atEnd ?_
    refine YaW.tm (fun i hi => hi.1) (YaW.T (by first | assumption | omega) (by first | assumption | omega) (by first | assumption | omega)) (fun y16 hy15 => ?_)
    subst hy15
    refine Tm.ite (fun h17 => ?_) (fun h17 => ?_)
    ·try simp only [bz0, bz1, bz2, bz3, bz4, bz5, bz6, bz7, bz8, bz9, bza] at h17
     exact Tm.ret (by first | rfl | (exfalso; simp [Zu] at *))
    ·try simp only [bz0, bz1, bz2, bz3, bz4, bz5, bz6, bz7, bz8, bz9, bza] at h17
     try rw [Zj (x := i + 1) (by omega) (by omega)]
     exact hL _ (by (try simp only []); omega) (by (try simp only []); omega)
   ·try simp only [bz0, bz1, bz2, bz3, bz4, bz5, bz6, bz7, bz8, bz9, bza] at h2
    exact Tm.ret (by first | rfl | (exfalso; simp [Zu] at *))
theorem YaO.tm {ι α : Type} {ok : ι → Prop} {ψ : α → Prop} {p : ι → Nat} {B : Nat} (hp : ∀ i, ok i → B ≤ p i) {aC aD aF aG aX aW aZ bE φ} (h : Tm (fun k => B ≤ k) (fun k => YaO.t k aC aD aF aG aX aW aZ bE) φ) {G : ι → Bool → Option α} (hG : ∀ z0, φ z0 → Tm ok (fun i => G i z0) ψ) : Tm ok (fun i => YaO.f (p i) aC aD aF aG aX aW aZ bE (G i)) ψ := ZK (t := fun k => YaO.t k aC aD aF aG aX aW aZ bE) hp h hG
theorem YaO.T {B : Nat} {aC : BA} {aD aF : LD} {aG : Int} (ga0_0 : aC.size ≤ B) (ga0_1 : Zi RSS B aD) (ga0_2 : Zi RS B aF) (hB : B ≤ 1099511627776) : Tm Z3 (fun k => YaO.t k aC aD aF aG aC aD aF aG) (fun r => r = true) := by
 unfold YaO.t YaO.g
 have hm := Zy
 have hlim : lim = 1048576 := rfl
 refine Tm.ite (fun h1 => ?_) (fun h1 => ?_)
 ·try simp only [bz0, bz1, bz2, bz3, bz4, bz5, bz6, bz7, bz8, bz9, bza] at h1
  exact Tm.ret (by first | rfl | (exfalso; simp [Zu] at *))
 ·try simp only [bz0, bz1, bz2, bz3, bz4, bz5, bz6, bz7, bz8, bz9, bza] at h1
  refine Yah.tm (fun i hi => hi) (Yah.T (by first | assumption | omega) (by first | assumption | omega)) (fun y3 hy2 => ?_)
  subst hy2
  refine Tm.ite (fun h4 => ?_) (fun h4 => ?_)
  ·try simp only [bz0, bz1, bz2, bz3, bz4, bz5, bz6, bz7, bz8, bz9, bza] at h4
   exact Tm.ret (by first | rfl | (exfalso; simp [Zu] at *))
  ·try simp only [bz0, bz1, bz2, bz3, bz4, bz5, bz6, bz7, bz8, bz9, bza] at h4
   refine YR.tm (fun i hi => hi) (YR.T (by first | assumption | omega) (by first | assumption | omega)) (fun y6 hy5 => ?_)
   subst hy5
   refine Tm.ite (fun h7 => ?_) (fun h7 => ?_)
   ·try simp only [bz0, bz1, bz2, bz3, bz4, bz5, bz6, bz7, bz8, bz9, bza] at h7
    exact Tm.ret (by first | rfl | (exfalso; simp [Zu] at *))
   ·try simp only [bz0, bz1, bz2, bz3, bz4, bz5, bz6, bz7, bz8, bz9, bza] at h7
    refine Tm.ite (fun h8 => ?_) (fun h8 => ?_)
    ·try simp only [bz0, bz1, bz2, bz3, bz4, bz5, bz6, bz7, bz8, bz9, bza] at h8
     exact Tm.ret (by first | rfl | (exfalso; simp [Zu] at *))
    ·try simp only [bz0, bz1, bz2, bz3, bz4, bz5, bz6, bz7, bz8, bz9, bza] at h8
     exact Tm.ret (by first | rfl | (exfalso; simp [Zu] at *))
theorem Y5.tm {ι α : Type} {ok : ι → Prop} {ψ : α → Prop} {p : ι → Nat} {B : Nat} (hp : ∀ i, ok i → B ≤ p i) {a0 a1 φ} (h : Tm (fun k => B ≤ k) (fun k => Y5.t k a0 a1) φ) {G : ι → Bool → Option α} (hG : ∀ z0, φ z0 → Tm ok (fun i => G i z0) ψ) : Tm ok (fun i => Y5.f (p i) a0 a1 (G i)) ψ := ZK (t := fun k => Y5.t k a0 a1) hp h hG
set_option maxRecDepth 100000 in
theorem Y5.T {B : Nat} {a0 : LD} (ga0 : Zi Yar B a0) (hB : B ≤ 1099511627776) : Tm Z3 (fun k => Y5.t k a0 a0) (fun r => r = true) := by
 unfold Y5.t Y5.g
 have hm := Zy
 have hlim : lim = 1048576 := rfl
 have hlen := ga0.1
 refine Tm.ite (fun h1 => ?_) (fun h1 => ?_)
 ·try simp only [bz0, bz1, bz2, bz3, bz4, bz5, bz6, bz7, bz8, bz9, bza] at h1
  exact Tm.ret (by first | rfl | (exfalso; simp [Zu] at *))
 ·try simp only [bz0, bz1, bz2, bz3, bz4, bz5, bz6, bz7, bz8, bz9, bza] at h1
  refine Tm.loop (okk := Z3) (p := fun k => k) (fun i hi => hi) (b := fun k => Y5.l0 k a0 a0 (fun z0 => some z0)) (fun i => (((a0.length : Int)) - i).toNat) (fun i => 0 ≤ i ∧ i ≤ (a0.length : Int)) ?_ ?_ ?_
  ·rintro i hI
   try simp only [] at hI ⊢
   have : big = 2 ^ 64 := rfl
   have := ga0.1
   omega
  ·((try simp only []); omega)
  ·rintro i hI L hL
   try simp only [] at hI
   obtain ⟨i0, i1⟩ := hI
   simp only [Y5.l0, atR, rdQ, Q.ask]
   refine Tm.ite (fun h2 => ?_) (fun h2 => ?_)
   ·try simp only [bz0, bz1, bz2, bz3, bz4, bz5, bz6, bz7, bz8, bz9, bza] at h2
    refine Tm.atRow (by first | assumption | omega) (by first | assumption | omega) (fun x3 hx4 hm5 => ?_)
    obtain ⟨c6, c7, c8, c9, rfl, g10, g11, g12, g13, _⟩ := (ga0.2 x3 hm5).open
    refine Tm.uncons ?_
    refine Tm.dStr ?_
    refine Tm.uncons ?_
    refine Tm.dSl ?_
    refine Tm.uncons ?_
    refine Tm.dSl ?_
    refine Tm.uncons ?_
    refine Tm.dInt ?_
    refine Tm.atEnd ?_
    refine Tm.atRow (by first | assumption | omega) (by first | assumption | omega) (fun x14 hx15 hm16 => ?_)
    rw [hx4] at hx15
    injection hx15 with hx15
    subst hx15
    refine Tm.uncons ?_
    refine Tm.dStr ?_
    refine Tm.uncons ?_
    refine Tm.dSl ?_
    refine Tm.uncons ?_
    refine Tm.dSl ?_
    refine Tm.uncons ?_
    refine Tm.dInt ?_
    refine Tm.atEnd ?_
    refine YaO.tm (fun i hi => hi.1) (YaO.T (by first | assumption | omega) (by first | assumption | omega) (by first | assumption | omega) (by first | assumption | omega)) (fun y22 hy21 => ?_)
    subst hy21
    refine Tm.ite (fun h23 => ?_) (fun h23 => ?_)
    ·try simp only [bz0, bz1, bz2, bz3, bz4, bz5, bz6, bz7, bz8, bz9, bza] at h23
     exact Tm.ret (by first | rfl | (exfalso; simp [Zu] at *))
    ·try simp only [bz0, bz1, bz2, bz3, bz4, bz5, bz6, bz7, bz8, bz9, bza] at h23
     try rw [Zj (x := i + 1) (by omega) (by omega)]
     exact hL _ (by (try simp only []); omega) (by (try simp only []); omega)
   ·try simp only [bz0, bz1, bz2, bz3, bz4, bz5, bz6, bz7, bz8, bz9, bza] at h2
    exact Tm.ret (by first | rfl | (exfalso; simp [Zu] at *))
theorem Ym.f_of {β : Type} {k a0 z0} (h : Ym.t k a0 = some z0) (K : BA → Option β) : Ym.f k a0 K = K z0 := by unfold Ym.f; rw [h]; rfl
theorem Ym.tm {ι α : Type} {ok : ι → Prop} {ψ : α → Prop} {p : ι → Nat} {B : Nat} (hp : ∀ i, ok i → B ≤ p i) {a0 φ} (h : Tm (fun k => B ≤ k) (fun k => Ym.t k a0) φ) {G : ι → BA → Option α} (hG : ∀ z0, φ z0 → Tm ok (fun i => G i z0) ψ) : Tm ok (fun i => Ym.f (p i) a0 (G i)) ψ := ZK (t := fun k => Ym.t k a0) hp h hG
theorem Ym.T {a0 : Int} (h1 : a0 ≤ 4611686018427387904) : Tm Z3 (fun k => Ym.t k a0) (fun _ => True) := by
 unfold Ym.t Ym.g
 have hb : big = 2 ^ 64 := rfl
 refine Tm.ite (fun _ => Tm.ret trivial) (fun h => ?_)
 simp only [decide_eq_false_iff_not, Int.not_le] at h
 refine Tm.loop (okk := Z3) (p := fun k => k) (fun i hi => hi) (b := fun k => Ym.l0 k (fun z0 => some z0)) (fun v => match v with | (u, s) => u.toNat) (fun v => match v with | (u, s) => 0 ≤ u ∧ u + s.size ≤ a0) ?_ ?_ ?_
 ·rintro ⟨u, s⟩ hI
  simp only [] at hI ⊢
  omega
 ·simp only []
  have : (⟨#[]⟩ : BA).size = 0 := rfl
  omega
 ·rintro ⟨u, s⟩ hI L hL
  simp only [] at hI
  obtain ⟨u0, u1⟩ := hI
  simp only [Ym.l0]
  refine Tm.ite (fun h4 => ?_) (fun h4 => ?_)
  ·simp only [decide_eq_true_eq] at h4
   have e1 : ∀ x : UInt8, (⟨#[x]⟩ : BA).size = 1 := fun _ => rfl
   have ed : Int.tdiv u 10 = u / 10 := Int.tdiv_eq_ediv_of_nonneg (by omega)
   refine Tm.guard (by decide) (Tm.guard (by rw [e1]; omega) (Tm.guard (by decide) ?_))
   rw [ed, Zj (x := u / 10) (by omega) (by omega)]
   refine hL (_, _) ⟨by omega, ?_⟩ (by simp only []; omega)
   rw [ByteArray.size_append, e1]
   omega
  ·have e1 : (⟨#[109]⟩ : BA).size = 1 := rfl
   exact Tm.guard (by rw [e1]; omega) (Tm.ret trivial)
noncomputable def Ym.v (a0 : Int) : BA := (Ym.t big a0).getD default
theorem Ym.tv {a0 : Int} (h1 : a0 ≤ 4611686018427387904) {k : Nat} (hk : Z3 k) : Ym.t k a0 = some (Ym.v a0) := (Ym.T h1).val hk
theorem Ym.fv {a0 : Int} (h1 : a0 ≤ 4611686018427387904) {k : Nat} (hk : Z3 k) {β : Type} (K : BA → Option β) : Ym.f k a0 K = K (Ym.v a0) := Ym.f_of (Ym.tv h1 hk) K
theorem YI.tm {ι α : Type} {ok : ι → Prop} {ψ : α → Prop} {p : ι → Nat} {B : Nat} (hp : ∀ i, ok i → B ≤ p i) {a0 a1 φ} (h : Tm (fun k => B ≤ k) (fun k => YI.t k a0 a1) φ) {G : ι → Int → LC → Option α} (hG : ∀ z0 z1, φ (z0, z1) → Tm ok (fun i => G i z0 z1) ψ) : Tm ok (fun i => YI.f (p i) a0 a1 (G i)) ψ := bd2_tm (t := fun k => YI.t k a0 a1) hp h hG
theorem Y0.tm {ι α : Type} {ok : ι → Prop} {ψ : α → Prop} {p : ι → Nat} {B : Nat} (hp : ∀ i, ok i → B ≤ p i) {a0 a1 φ} (h : Tm (fun k => B ≤ k) (fun k => Y0.t k a0 a1) φ) {G : ι → Int → LC → Option α} (hG : ∀ z0 z1, φ (z0, z1) → Tm ok (fun i => G i z0 z1) ψ) : Tm ok (fun i => Y0.f (p i) a0 a1 (G i)) ψ := bd2_tm (t := fun k => Y0.t k a0 a1) hp h hG
theorem YW.tm {ι α : Type} {ok : ι → Prop} {ψ : α → Prop} {p : ι → Nat} {B : Nat} (hp : ∀ i, ok i → B ≤ p i) {a0 a1 φ} (h : Tm (fun k => B ≤ k) (fun k => YW.t k a0 a1) φ) {G : ι → Int → LC → Option α} (hG : ∀ z0 z1, φ (z0, z1) → Tm ok (fun i => G i z0 z1) ψ) : Tm ok (fun i => YW.f (p i) a0 a1 (G i)) ψ := bd2_tm (t := fun k => YW.t k a0 a1) hp h hG
theorem YZ.tm {ι α : Type} {ok : ι → Prop} {ψ : α → Prop} {p : ι → Nat} {B : Nat} (hp : ∀ i, ok i → B ≤ p i) {a0 a1 φ} (h : Tm (fun k => B ≤ k) (fun k => YZ.t k a0 a1) φ) {G : ι → Int → LC → Option α} (hG : ∀ z0 z1, φ (z0, z1) → Tm ok (fun i => G i z0 z1) ψ) : Tm ok (fun i => YZ.f (p i) a0 a1 (G i)) ψ := bd2_tm (t := fun k => YZ.t k a0 a1) hp h hG
theorem YX.tm {ι α : Type} {ok : ι → Prop} {ψ : α → Prop} {p : ι → Nat} {B : Nat} (hp : ∀ i, ok i → B ≤ p i) {a0 a1 φ} (h : Tm (fun k => B ≤ k) (fun k => YX.t k a0 a1) φ) {G : ι → Int → LC → Option α} (hG : ∀ z0 z1, φ (z0, z1) → Tm ok (fun i => G i z0 z1) ψ) : Tm ok (fun i => YX.f (p i) a0 a1 (G i)) ψ := bd2_tm (t := fun k => YX.t k a0 a1) hp h hG
theorem YT.tm {ι α : Type} {ok : ι → Prop} {ψ : α → Prop} {p : ι → Nat} {B : Nat} (hp : ∀ i, ok i → B ≤ p i) {a0 a1 φ} (h : Tm (fun k => B ≤ k) (fun k => YT.t k a0 a1) φ) {G : ι → Int → LC → Option α} (hG : ∀ z0 z1, φ (z0, z1) → Tm ok (fun i => G i z0 z1) ψ) : Tm ok (fun i => YT.f (p i) a0 a1 (G i)) ψ := bd2_tm (t := fun k => YT.t k a0 a1) hp h hG
theorem Yab.tm {ι α : Type} {ok : ι → Prop} {ψ : α → Prop} {p : ι → Nat} {B : Nat} (hp : ∀ i, ok i → B ≤ p i) {a0 a1 φ} (h : Tm (fun k => B ≤ k) (fun k => Yab.t k a0 a1) φ) {G : ι → Int → LC → Option α} (hG : ∀ z0 z1, φ (z0, z1) → Tm ok (fun i => G i z0 z1) ψ) : Tm ok (fun i => Yab.f (p i) a0 a1 (G i)) ψ := bd2_tm (t := fun k => Yab.t k a0 a1) hp h hG
theorem Y1.tm {ι α : Type} {ok : ι → Prop} {ψ : α → Prop} {p : ι → Nat} {B : Nat} (hp : ∀ i, ok i → B ≤ p i) {a0 a1 φ} (h : Tm (fun k => B ≤ k) (fun k => Y1.t k a0 a1) φ) {G : ι → Int → LC → Option α} (hG : ∀ z0 z1, φ (z0, z1) → Tm ok (fun i => G i z0 z1) ψ) : Tm ok (fun i => Y1.f (p i) a0 a1 (G i)) ψ := bd2_tm (t := fun k => Y1.t k a0 a1) hp h hG
theorem Y3.f_of {β : Type} {k a0 a1 z0} (h : Y3.t k a0 a1 = some z0) (K : Int → Option β) : Y3.f k a0 a1 K = K z0 := by unfold Y3.f; rw [h]; rfl
set_option maxRecDepth 100000 in
set_option maxHeartbeats 8000000 in
theorem Y3.step {u : Int}  (h0 : 0 ≤ u)  (h1 : u + 1 ≤ 4611686018427387904) {k : Nat} (hk : Z3 k) : HStep (fun xs L v => Y3.l0 k xs (fun z0 => some z0) L v) u [.int .i64 (u)] (u + 1) := by
 have hk0 : Z3 k := hk
 intro xs i i0 i1 hl hr L
 simp (maxSteps := 4000000) (disch := first | assumption | omega) only [Y3.l0, atR, rdQ, Q.ask, ZQ i1, cond_true, cond_false, Zbp i0 i1, hr, ZY, Zad, Zaj, ZaQ, Za7, Z6, Zj, Ym.fv, Zu, bne_self_eq_false, beq_self_eq_true, Bool.not_true]
theorem scal_deep : ∀ r : List D, r.all Zau = true → ZZ r = r.map C.d
 | [], _ => rfl
 | x :: r, h => by
  simp only [List.all_cons, Bool.and_eq_true] at h
  have hx : ZbW x = .d x := by cases x <;> first | rfl | simp [Zau] at h
  simp only [ZZ, List.map_cons, hx, scal_deep r h.2]
theorem held_flat {S : Int → List D → Int → Prop} (hS : ∀ u r u', S u r u' → r.all Zau = true) {n u : Int} {xs : LD} (h : ZbX S n xs u) : flatC (Zb xs) = true := by
 induction h with
 | nil => rfl
 | snoc h hs ih =>
  rw [Zai]
  unfold flatC at ih ⊢
  rw [List.all_append, ih]
  simp only [Zb, List.all_cons, List.all_nil, Bool.true_and, Bool.and_true, scal_deep _ (hS _ _ _ hs), List.all_map]
  exact hS _ _ _ hs
set_option maxRecDepth 100000 in
set_option maxHeartbeats 8000000 in
theorem Yab.T {B : Nat} (hB : B ≤ 1099511627776) {xs : LD} {n : Int} (g : Zi RI B xs) (h0 : 0 ≤ n) (h1 : n + Zp xs ≤ 4611686018427387904) : Tm Z3 (fun k => Yab.t k (Zb xs) n) (fun z => ∃ ys, z.2 = Zb ys ∧ (ys.length = xs.length ∧ flatC (Zb ys) = true) ∧ z.1 = n + Zp xs ∧ ∀ k, Z3 k → Y3.t k ys n = some z.1) := by
 have hb : big = 2 ^ 64 := rfl
 have hl := g.1
 have key : Tm Z3 (fun k => Yab.t k (Zb xs) n) (fun z => ∃ ys, z.2 = Zb ys ∧ ys.length = xs.length ∧ z.1 = n + Zp xs ∧ ZbX (fun u r u' => (∀ k, Z3 k → HStep (fun xs L v => Y3.l0 k xs (fun z0 => some z0) L v) u r u') ∧ r.all Zau = true) n ys z.1) := by
  unfold Yab.t Yab.g
  refine Tm.loop (okk := Z3) (p := fun k => k) (fun i hi => hi) (b := fun k => Yab.l0 k (fun z0 z1 => some (z0, z1))) (fun v => match v with | (u, i, tab) => ((xs.length : Int) - i).toNat) (fun v => match v with | (u, i, tab) => 0 ≤ i ∧ i ≤ xs.length ∧ ∃ done : LD, done.length = i.toNat ∧ tab = Zb done ++ Zb (xs.drop i.toNat) ∧ u = n + Zp (xs.take i.toNat) ∧ ZbX (fun u r u' => (∀ k, Z3 k → HStep (fun xs L v => Y3.l0 k xs (fun z0 => some z0) L v) u r u') ∧ r.all Zau = true) n done u) ?_ ?_ ?_
  ·rintro ⟨u, i, tab⟩ hI
   simp only [] at hI ⊢
   omega
  ·exact ⟨by omega, by omega, [], rfl, by simp [Zb], by simp [Zp], .nil⟩
  ·rintro ⟨u, i, tab⟩ hI L hL
   simp only [] at hI
   obtain ⟨i0, i1, done, hd, rfl, hu, hH⟩ := hI
   have hA : (Zb done).length = i.toNat := by rw [Zw, hd]
   have hT : (Zb done ++ Zb (xs.drop i.toNat)).length = xs.length := by rw [List.length_append, hA, Zw, List.length_drop]; omega
   simp only [Yab.l0]
   refine Tm.ite (fun h4 => ?_) (fun h4 => ?_)
   ·simp only [decide_eq_true_eq, hT] at h4
    have hx := gR_at i0 h4
    obtain ⟨c0, e, k0, _⟩ := (g.2 _ (gR_mem i0 h4)).open
    rw [e] at hx
    have hdr := drop_at i0 hx
    have hw := wt_take i0 hx
    simp only [ZbG, wtD] at hw
    have hs := wt_split xs (i + 1).toNat
    rw [hdr] at hT ⊢
    simp only [Zb, ZZ, ZbW] at hT ⊢
    have hT2 := hT
    simp only [List.length_append, List.length_cons] at hT2
    refine Tm.guard (by first | decide | (simp only [List.length_modify, List.length_append, List.length_cons]; omega)) ?_
    refine Tm.guard (by first | decide | (simp only [List.length_modify, List.length_append, List.length_cons]; omega)) ?_
    try simp (disch := omega) only [Zj]
    try simp only [Zaf hA, Zq, List.take_zero, List.take_succ_cons, List.drop_succ_cons, List.drop_zero, List.nil_append, List.cons_append, List.length_cons, List.length_nil, Nat.zero_add, Nat.reduceAdd, List.set_cons_succ, List.set_cons_zero]
    refine hL (_, _, _) ⟨by omega, by omega, done ++ [[.int .i64 (u)]], by simp only [List.length_append, List.length_cons, List.length_nil]; omega, ?_, by omega, ZbX.snoc hH ⟨(fun k hk => Y3.step (by omega) (by omega) hk), rfl⟩⟩ (by simp only []; omega)
    rw [Zai]
    simp only [Zb, ZZ, ZbW, List.append_assoc, List.cons_append, List.nil_append]
   ·simp only [decide_eq_false_iff_not, hT] at h4
    refine Tm.ret ⟨done, ?_, by omega, ?_, hH⟩
    ·rw [List.drop_eq_nil_of_le (by omega)]
     simp only [Zb, List.append_nil]
    ·rw [List.take_of_length_le (by omega)] at hu
     exact hu
 obtain ⟨v, ⟨ys, e1, e2, e3, hH⟩, h2⟩ := key
 exact ⟨v, ⟨ys, e1, ⟨e2, held_flat (fun _ _ _ h => h.2) hH⟩, e3, fun k hk => by
  have hk0 : Z3 k := hk
  unfold Y3.t Y3.g
  exact held_run (b := fun xs L v => Y3.l0 k xs (fun z0 => some z0) L v) (by omega) (hH.mono fun _ _ _ h => h.1 k hk) (by omega) (fun L => by simp [Y3.l0, atR, rdQ, Q.ask])⟩, h2⟩
theorem YU.tm {ι α : Type} {ok : ι → Prop} {ψ : α → Prop} {p : ι → Nat} {B : Nat} (hp : ∀ i, ok i → B ≤ p i) {a0 a1 φ} (h : Tm (fun k => B ≤ k) (fun k => YU.t k a0 a1) φ) {G : ι → Int → Option α} (hG : ∀ z0, φ z0 → Tm ok (fun i => G i z0) ψ) : Tm ok (fun i => YU.f (p i) a0 a1 (G i)) ψ := ZK (t := fun k => YU.t k a0 a1) hp h hG
set_option maxRecDepth 100000 in
set_option maxHeartbeats 8000000 in
theorem YU.step {u : Int} {ys0 : LD} {n0 : Int} (h0 : 0 ≤ u) (hn0 : u ≤ n0) (hh0 : ∀ k, Z3 k → Y3.t k ys0 (u) = some n0) (h1 : n0 ≤ 4611686018427387904) {k : Nat} (hk : Z3 k) : HStep (fun xs L v => YU.l0 k xs (fun z0 => some z0) L v) u [.sl ys0] (n0) := by
 have hk0 : Z3 k := hk
 intro xs i i0 i1 hl hr L
 simp (maxSteps := 4000000) (disch := first | assumption | omega) only [YU.l0, atR, rdQ, Q.ask, ZQ i1, cond_true, cond_false, Zbp i0 i1, hr, ZY, Zad, Zaj, ZaQ, Za7, Z6, Zj, Ym.fv, Zu, bne_self_eq_false, beq_self_eq_true, Bool.not_true, Y3.f_of (hh0 k hk), ZV (show ¬ n0 < 0 by omega)]
set_option maxRecDepth 100000 in
set_option maxHeartbeats 8000000 in
theorem Y1.T {B : Nat} (hB : B ≤ 1099511627776) {xs : LD} {n : Int} (g : Zi RLIE B xs) (h0 : 0 ≤ n) (h1 : n + Zp xs ≤ 4611686018427387904) : Tm Z3 (fun k => Y1.t k (Zb xs) n) (fun z => ∃ ys, z.2 = Zb ys ∧ ys.length = xs.length ∧ z.1 = n + Zp xs ∧ ∀ k, Z3 k → YU.t k ys n = some z.1) := by
 have hb : big = 2 ^ 64 := rfl
 have hl := g.1
 have key : Tm Z3 (fun k => Y1.t k (Zb xs) n) (fun z => ∃ ys, z.2 = Zb ys ∧ ys.length = xs.length ∧ z.1 = n + Zp xs ∧ ZbX (fun u r u' => ∀ k, Z3 k → HStep (fun xs L v => YU.l0 k xs (fun z0 => some z0) L v) u r u') n ys z.1) := by
  unfold Y1.t Y1.g
  refine Tm.loop (okk := Z3) (p := fun k => k) (fun i hi => hi) (b := fun k => Y1.l0 k (fun z0 z1 => some (z0, z1))) (fun v => match v with | (u, i, tab) => ((xs.length : Int) - i).toNat) (fun v => match v with | (u, i, tab) => 0 ≤ i ∧ i ≤ xs.length ∧ ∃ done : LD, done.length = i.toNat ∧ tab = Zb done ++ Zb (xs.drop i.toNat) ∧ u = n + Zp (xs.take i.toNat) ∧ ZbX (fun u r u' => ∀ k, Z3 k → HStep (fun xs L v => YU.l0 k xs (fun z0 => some z0) L v) u r u') n done u) ?_ ?_ ?_
  ·rintro ⟨u, i, tab⟩ hI
   simp only [] at hI ⊢
   omega
  ·exact ⟨by omega, by omega, [], rfl, by simp [Zb], by simp [Zp], .nil⟩
  ·rintro ⟨u, i, tab⟩ hI L hL
   simp only [] at hI
   obtain ⟨i0, i1, done, hd, rfl, hu, hH⟩ := hI
   have hA : (Zb done).length = i.toNat := by rw [Zw, hd]
   have hT : (Zb done ++ Zb (xs.drop i.toNat)).length = xs.length := by rw [List.length_append, hA, Zw, List.length_drop]; omega
   simp only [Y1.l0]
   refine Tm.ite (fun h4 => ?_) (fun h4 => ?_)
   ·simp only [decide_eq_true_eq, hT] at h4
    have hx := gR_at i0 h4
    obtain ⟨c0, e, k0, _⟩ := (g.2 _ (gR_mem i0 h4)).open
    rw [e] at hx
    have hdr := drop_at i0 hx
    have hw := wt_take i0 hx
    simp only [ZbG, wtD] at hw
    have hs := wt_split xs (i + 1).toNat
    rw [hdr] at hT ⊢
    simp only [Zb, ZZ, ZbW] at hT ⊢
    have hT2 := hT
    simp only [List.length_append, List.length_cons] at hT2
    refine Tm.guard (by first | decide | (simp only [List.length_modify, List.length_append, List.length_cons]; omega)) ?_
    try simp only [Zaf hA, ZaV hA, Zq, List.take_zero, List.take_succ_cons, List.drop_succ_cons, List.drop_zero, List.nil_append, List.cons_append, List.length_cons, List.length_nil, Nat.zero_add, Nat.reduceAdd, List.set_cons_succ, List.set_cons_zero]
    refine Tm.uncons ?_
    refine Tm.cOwn ?_
    try simp (disch := omega) only [Zj]
    refine Yab.tm (fun i hi => hi.1) (Yab.T hB k0 (by omega) (by omega)) (fun y0 t0 hy => ?_)
    obtain ⟨ys0, et0, el0, en0, hh0⟩ := hy
    simp only [] at et0 en0 hh0
    subst et0 en0
    try simp (disch := omega) only [Zj]
    try simp only [Zaf hA, Zq, List.take_zero, List.take_succ_cons, List.drop_succ_cons, List.drop_zero, List.nil_append, List.cons_append, List.length_cons, List.length_nil, Nat.zero_add, Nat.reduceAdd, List.set_cons_succ, List.set_cons_zero]
    refine hL (_, _, _) ⟨by omega, by omega, done ++ [[.sl ys0]], by simp only [List.length_append, List.length_cons, List.length_nil]; omega, ?_, by omega, ZbX.snoc hH (fun k hk => YU.step (by omega) (by omega) hh0 (by omega) hk)⟩ (by simp only []; omega)
    rw [Zai]
    simp only [Zb, ZZ, ZbW, List.append_assoc, List.cons_append, List.nil_append]
   ·simp only [decide_eq_false_iff_not, hT] at h4
    refine Tm.ret ⟨done, ?_, by omega, ?_, hH⟩
    ·rw [List.drop_eq_nil_of_le (by omega)]
     simp only [Zb, List.append_nil]
    ·rw [List.take_of_length_le (by omega)] at hu
     exact hu
 obtain ⟨v, ⟨ys, e1, e2, e3, hH⟩, h2⟩ := key
 exact ⟨v, ⟨ys, e1, e2, e3, fun k hk => by
  have hk0 : Z3 k := hk
  unfold YU.t YU.g
  exact held_run (b := fun xs L v => YU.l0 k xs (fun z0 => some z0) L v) (by omega) (hH.mono fun _ _ _ h => h k hk) (by omega) (fun L => by simp [YU.l0, atR, rdQ, Q.ask])⟩, h2⟩
end Go.Proofs.YtppfencdbabmeaaGreat
