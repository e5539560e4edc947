/- Printed, and by hand: the functions that FnPlans reaches come to their end; the program's answer as the reference's. -/
import Derived.Test.YtpgplbalenfgfaaYFnPlans0
import Derived.KernelRfl
set_option linter.unusedVariables false
set_option linter.unusedSimpArgs false
namespace Go.Proofs.Ytpgplbalenfgfaa
open Go Go.T Go.Proofs
theorem mem_filt {p : Nat → Bool} {l : List Nat} {x : Nat} (h : x ∈ l.filter p) : x ∈ l := (List.mem_filter.mp h).1
theorem YaW {α : Type} {p q : Prop} [Decidable p] [Decidable q] {a a' b : α} (h : p ↔ q) (ha : a = a') : (if p then a else b) = if q then a' else b := by
 subst ha
 by_cases hp : p
 ·rw [if_pos hp, if_pos (h.mp hp)]
 ·rw [if_neg hp, if_neg fun hq => hp (h.mpr hq)]
theorem bestD_snoc {r : Nat → Int} {i : Nat} : ∀ (l : List Nat) (b : Option Nat), bestD r (l ++ [i]) b = match bestD r l b with | none => some i | some b => if r b < r i then some i else some b
 | [], none => rfl
 | [], some b => by simp only [List.nil_append, bestD]
 | x :: l, none => by
  simp only [List.cons_append, bestD]
  exact bestD_snoc l (some x)
 | x :: l, some b => by
  simp only [List.cons_append, bestD]
  split
  ·exact bestD_snoc l (some x)
  ·exact bestD_snoc l (some b)
theorem bestD_mem {r : Nat → Int} : ∀ (l : List Nat) (b : Option Nat) (c : Nat), bestD r l b = some c → c ∈ l ∨ b = some c
 | [], b, c, h => .inr h
 | x :: l, none, c, h => by
  rcases bestD_mem l (some x) c h with h | h
  ·exact .inl (by simp [h])
  ·cases h; exact .inl (by simp)
 | x :: l, some b, c, h => by
  unfold bestD at h
  split at h
  ·rcases bestD_mem l (some x) c h with h | h
   ·exact .inl (by simp [h])
   ·cases h; exact .inl (by simp)
  ·rcases bestD_mem l (some b) c h with h | h
   ·exact .inl (by simp [h])
   ·exact .inr h
def encO : Option Nat → Int
 | none => -1
 | some b => b
set_option maxRecDepth 100000 in
theorem best_fv {a1 : LD} {L : Nat} {p : Nat → Bool} {r' : Nat → Int} {left : Int} {base : LC} (hL : L = a1.length) (hl : L < 20) {k : Nat} (hk : Z3 k) {β : Type} {L1 : (LD × LD × Int × LC × LC) → Option β} {K : LC → Option β} {c : Nat} (hc : bestD r' ((List.range L).filter p) none = some c) :
  Zo (Yt.l2 k a1 (rowD L fun j => .bool (p j)) left base (Yak L (cI r')) L1 K) k (-1, 0) = Yt.l2 k a1 (rowD L fun j => .bool (p j)) left base (Yak L (cI r')) L1 K (fun _ => none) ((c : Int), (L : Int)) := by
 have hb : big = 2 ^ 64 := rfl
 refine iter_seq (f := fun i => (encO (bestD r' ((List.range i).filter p) none), (i : Int))) (n := L) (by unfold Z3 at hk; omega) (fun M i hi => ?_) (fun M => ?_)
 ·have hw1 : IntKind.wrap .i64 ((i : Int) + 1) = ((i + 1 : Nat) : Int) := by rw [Zj (by omega) (by omega)]; omega
  simp only [Yt.l2, atR, rdQ, Q.ask]
  rw [ZQ (show (i : Int) < (a1.length : Int) by omega)]
  simp only [cond_true, rowD_at hi, ZY, ZaQ, Z6, hw1]
  rw [YaK]
  cases hp : p i with
  | false => simp only [cond_false, Bool.false_eq_true, if_false, List.append_nil]
  | true =>
   simp only [cond_true, if_true]
   rw [bestD_snoc]
   cases hbe : bestD r' ((List.range i).filter p) none with
   | none => rw [ZQ (show encO none < 0 by decide)]; rfl
   | some b =>
    have hbl : b < L := by
     rcases bestD_mem _ _ _ hbe with h | h
     ·have := List.mem_range.mp (mem_filt h); omega
     ·cases h
    rw [ZV (show ¬ encO (some b) < 0 by simp only [encO]; omega)]
    simp only [cond_false, encO]
    rw [ZaP ⟨by omega, by rw [Yab]; omega⟩, Int.toNat_natCast, YaH hi]
    simp only [List.drop_zero, ZY, cD_at, Zad]
    rw [ZaP ⟨by omega, by rw [Yab]; omega⟩, Int.toNat_natCast, YaH hbl]
    simp only [List.drop_zero, ZY, cD_at, Zad]
    by_cases hlt : r' b < r' i
    ·rw [ZQ (show r' i > r' b from hlt), if_pos hlt]
     rfl
    ·rw [ZV (show ¬ r' i > r' b from hlt), if_neg hlt]
     rfl
 ·rw [hc]
  have : ¬ ((L : Nat) : Int) < (a1.length : Int) := by omega
  simp only [Yt.l2, atR, rdQ, Q.ask, encO]
  rw [ZV this]
  rfl
set_option maxRecDepth 100000 in
theorem wants_fv {n : Int} {a1 : LD} {w c o : Nat → Int} {op : List Nat} {s : Int} (hwd : w = fun i : Nat => gI a1 (i : Int) 0) (hop : op = opL w c o a1.length) (hs : s = smL w op) (g1 : Zi RI lim a1) (hw : ∀ i, i < a1.length → 0 ≤ w i ∧ w i ≤ 1000) (hn : 0 < n) (hn2 : n ≤ 10000) (h0 : op ≠ []) (hl : a1.length < 20) {k : Nat} (hk : Z3 k) {β : Type} (K : LC → Option β) :
  Yt.f k n a1 (rowD a1.length fun j => .bool (opB w c o j)) s K = K (Yak a1.length (cI fun j => if j ∈ op then xD w n s op j else 0)) := Yt.f_of (by
 have hb : big = 2 ^ 64 := rfl
 have hmost : ZN = 2 ^ 36 := rfl
 have hkk : a1.length < k := by unfold Z3 at hk; omega
 obtain ⟨o1, o2⟩ := opL_facts (w := w) (c := c) (o := o) (L := a1.length)
 rw [← hop] at o1 o2
 have hw0 : ∀ i ∈ op, 0 < w i := fun i hi => ((o2 i).mp hi).2.1
 obtain ⟨f1, f2, f3, f4⟩ := lfD_bound (Int.le_of_lt hn) hw0 h0
 rw [← hs] at f1 f2 f3 f4
 have hopl : op.length < 20 := by
  have : op.length ≤ (List.range a1.length).length := by rw [hop]; exact List.length_filter_le ..
  rw [List.length_range] at this; omega
 have hbs : ∀ i, i < a1.length → 0 ≤ n * w i ∧ n * w i ≤ 10000000 ∧ 0 ≤ bsD w n s i ∧ bsD w n s i ≤ 10000000 := fun i hi => bsD_le (Int.le_of_lt hn) hn2 f1 (hw i hi)
 have hrs : ∀ i, i < a1.length → 0 ≤ rsD w n s i ∧ rsD w n s i < s ∧ 0 ≤ bsD w n s i := fun i hi => rsD_bound f1 (Int.le_of_lt hn) (hw i hi).1
 have hgw : ∀ i : Nat, gI a1 (i : Int) 0 = w i := fun i => by rw [hwd]
 have hopn : ∀ i, i ≤ a1.length → 0 ≤ (((List.range i).filter (opB w c o)).map (bsD w n s)).sum ∧ (((List.range i).filter (opB w c o)).map (bsD w n s)).sum ≤ 200000000 := fun i hi => by
  have h2 : ((List.range i).filter (opB w c o)).length ≤ i := by have := List.length_filter_le (opB w c o) (List.range i); rwa [List.length_range] at this
  have := sum_le (f := bsD w n s) (b := 10000000) (l := (List.range i).filter (opB w c o)) fun j hj => (hbs j (by have := List.mem_range.mp (mem_filt hj); omega)).2.2
  omega
 unfold Yt.t Yt.g Yt.m
 simp only []
 rw [ZaP ⟨by omega, by omega, by omega, by omega⟩, ZaP ⟨by omega, by omega, by omega, by omega⟩, Int.toNat_natCast, rowF_rep]
 have hz : ∀ g : Nat → Int, Yak a1.length (fun _ => .d (.int .i64 0)) = Yak a1.length (cI fun j => if j < 0 ∧ opB w c o j = true then g j else 0) := fun g => YaF fun j hj => by simp
 rw [show ((n, 0, Yak a1.length (fun _ => .d (.int .i64 0)), Yak a1.length (fun _ => .d (.int .i64 0))) : Int × Int × LC × LC) = (n - (((List.range 0).filter (opB w c o)).map (bsD w n s)).sum, ((0 : Nat) : Int), Yak a1.length (cI fun j => if j < 0 ∧ opB w c o j = true then bsD w n s j else 0), Yak a1.length (cI fun j => if j < 0 ∧ opB w c o j = true then rsD w n s j else 0)) from by rw [← hz, ← hz]; simp]
 refine iter_seq (f := fun i => (n - (((List.range i).filter (opB w c o)).map (bsD w n s)).sum, (i : Int), Yak a1.length (cI fun j => if j < i ∧ opB w c o j = true then bsD w n s j else 0), Yak a1.length (cI fun j => if j < i ∧ opB w c o j = true then rsD w n s j else 0))) (n := a1.length) hkk (fun L i hi => ?_) (fun L => ?_)
 ·have hw1 : IntKind.wrap .i64 ((i : Int) + 1) = ((i + 1 : Nat) : Int) := by rw [Zj (by omega) (by omega)]; omega
  obtain ⟨m1, m2, m3, m4⟩ := hbs i hi
  have hst : ∀ g : Nat → Int, opB w c o i = true → Yak a1.length (fun j => if j = i then C.d (.int .i64 (g i)) else cI (fun j => if j < i ∧ opB w c o j = true then g j else 0) j) = Yak a1.length (cI fun j => if j < i + 1 ∧ opB w c o j = true then g j else 0) := fun g hp => YaF fun j hj => by
   by_cases hji : j = i
   ·subst hji
    rw [if_pos rfl]
    show _ = C.d (.int .i64 (if j < j + 1 ∧ opB w c o j = true then g j else 0))
    rw [if_pos ⟨by omega, hp⟩]
   ·rw [if_neg hji]
    show C.d (.int .i64 (if j < i ∧ opB w c o j = true then g j else 0)) = C.d (.int .i64 (if j < i + 1 ∧ opB w c o j = true then g j else 0))
    congr 2
    exact YaW ⟨fun h => ⟨by omega, h.2⟩, fun h => ⟨by omega, h.2⟩⟩ rfl
  have hsf : ∀ g : Nat → Int, opB w c o i = false → Yak a1.length (cI fun j => if j < i ∧ opB w c o j = true then g j else 0) = Yak a1.length (cI fun j => if j < i + 1 ∧ opB w c o j = true then g j else 0) := fun g hp => YaF fun j hj => by
   show C.d (.int .i64 (if j < i ∧ opB w c o j = true then g j else 0)) = C.d (.int .i64 (if j < i + 1 ∧ opB w c o j = true then g j else 0))
   congr 2
   refine YaW ⟨fun h => ⟨by omega, h.2⟩, fun h => ⟨?_, h.2⟩⟩ rfl
   have : j ≠ i := fun e => by subst e; rw [hp] at h; simp at h
   omega
  simp only [Yt.l0, Yt.m0, atR, rdQ, Q.ask]
  rw [ZQ (show (i : Int) < (a1.length : Int) by omega)]
  simp only [cond_true, rowD_at hi, ZY, ZaQ, Z6, hw1]
  rw [YaK]
  cases hp : opB w c o i with
  | false => simp only [cond_false, Bool.false_eq_true, if_false, List.append_nil, hsf _ hp]
  | true =>
   simp only [cond_true, if_true]
   simp (disch := omega) only [RI.row g1, ZY, Zad, Z6, hgw]
   have e : Int.tdiv (n * w i) s = bsD w n s i := rfl
   have e2 : Int.tmod (n * w i) s = rsD w n s i := rfl
   rw [Zj (x := n * w i) (by omega) (by omega), e, e2, Zj (x := bsD w n s i) (by omega) (by omega)]
   have hmod : ∀ g : Nat → Int, ((Yak a1.length (cI fun j => if j < i ∧ opB w c o j = true then g j else 0)).modify i fun x => Zq x 0 [.d (.int .i64 (g i))]) = Yak a1.length (cI fun j => if j < i + 1 ∧ opB w c o j = true then g j else 0) := fun g => by rw [YaV hi, hst g hp]
   simp only [Int.toNat_natCast, hmod (bsD w n s), hmod (rsD w n s)]
   rw [ZaP (show s ≠ 0 by omega), ZaP ⟨by omega, by rw [Yab]; omega⟩, ZaP (by rw [Yab]; exact hi), ZaP (show s ≠ 0 by omega), ZaP ⟨by omega, by rw [Yab]; omega⟩, ZaP (by rw [Yab]; exact hi), ZaP ⟨by omega, by rw [Yab]; omega⟩, YaH hi]
   simp only [List.drop_zero, ZY, cD_at, Zad]
   have hq := hopn i (by omega)
   rw [if_pos ⟨by omega, hp⟩, Zj (by omega) (by omega), List.map_append, List.sum_append, Int.sub_sub]
   simp
 ·simp only [Yt.l0, Yt.m0, atR, rdQ, Q.ask]
  rw [ZV (show ¬ (a1.length : Int) < (a1.length : Int) by omega)]
  simp only [cond_false]
  have hop' : (List.range a1.length).filter (opB w c o) = op := hop.symm
  rw [hop', show n - (op.map (bsD w n s)).sum = lfD w n s op from rfl]
  obtain ⟨s1, s2, s3⟩ := YaP (r := rsD w n s) o1
  have hchd : chD w n s op = (YaI (rsD w n s) op).take (lfD w n s op).toNat := rfl
  have hnd : (YaI (rsD w n s) op).Nodup := s1.imp fun {i j} h e => by subst e; rcases h with h | h <;> omega
  have hnext := fun t ht r' hr => best_next (r := rsD w n s) o1 (fun i hi => (hrs i ((o2 i).mp hi).1).1) (t := t) ht (r' := r') hr
  have hmo : ∀ j, j < a1.length → (opB w c o j = true ↔ j ∈ op) := fun j hj => by rw [hop, opL, List.mem_filter, List.mem_range]; exact ⟨fun h => ⟨hj, h⟩, fun h => h.2⟩
  have e1 : Yak a1.length (cI fun j => if j < a1.length ∧ opB w c o j = true then bsD w n s j else 0) = Yak a1.length (cI fun j => if j ∈ op then bsD w n s j + (if j ∈ (YaI (rsD w n s) op).take 0 then 1 else 0) else 0) := YaF fun j hj => by
   show C.d (.int .i64 (if j < a1.length ∧ opB w c o j = true then bsD w n s j else 0)) = C.d (.int .i64 (if j ∈ op then bsD w n s j + (if j ∈ (YaI (rsD w n s) op).take 0 then 1 else 0) else 0))
   congr 2
   exact YaW ⟨fun h => (hmo j hj).mp h.2, fun h => ⟨hj, (hmo j hj).mpr h⟩⟩ (by simp)
  have e2 : Yak a1.length (cI fun j => if j < a1.length ∧ opB w c o j = true then rsD w n s j else 0) = Yak a1.length (cI fun j => if j ∈ (YaI (rsD w n s) op).take 0 then -1 else if j ∈ op then rsD w n s j else 0) := YaF fun j hj => by
   show C.d (.int .i64 (if j < a1.length ∧ opB w c o j = true then rsD w n s j else 0)) = C.d (.int .i64 (if j ∈ (YaI (rsD w n s) op).take 0 then -1 else if j ∈ op then rsD w n s j else 0))
   rw [List.take_zero, if_neg (by simp : ¬ j ∈ ([] : List Nat))]
   congr 2
   exact YaW ⟨fun h => (hmo j hj).mp h.2, fun h => ⟨hj, (hmo j hj).mpr h⟩⟩ rfl
  rw [e1, e2]
  generalize YaI (rsD w n s) op = Z at *
  have hzo : ∀ z ∈ Z, z ∈ op := fun z hz => (s2 z).mp hz
  rw [show ((a1, rowD a1.length (fun j => D.bool (opB w c o j)), lfD w n s op, Yak a1.length (cI fun j => if j ∈ op then bsD w n s j + (if j ∈ Z.take 0 then 1 else 0) else 0), Yak a1.length (cI fun j => if j ∈ Z.take 0 then -1 else if j ∈ op then rsD w n s j else 0)) : LD × LD × Int × LC × LC) = (a1, rowD a1.length (fun j => D.bool (opB w c o j)), lfD w n s op - ((0 : Nat) : Int), Yak a1.length (cI fun j => if j ∈ op then bsD w n s j + (if j ∈ Z.take 0 then 1 else 0) else 0), Yak a1.length (cI fun j => if j ∈ Z.take 0 then -1 else if j ∈ op then rsD w n s j else 0)) from by simp]
  refine iter_seq (f := fun t => (a1, rowD a1.length (fun j => D.bool (opB w c o j)), lfD w n s op - (t : Int), Yak a1.length (cI fun j => if j ∈ op then bsD w n s j + (if j ∈ Z.take t then 1 else 0) else 0), Yak a1.length (cI fun j => if j ∈ Z.take t then -1 else if j ∈ op then rsD w n s j else 0))) (n := (lfD w n s op).toNat) (by omega) (fun M t ht => ?_) (fun M => ?_)
  ·have htl : t < Z.length := by omega
   have hbest := hnext t (by omega) (fun j => if j ∈ Z.take t then -1 else if j ∈ op then rsD w n s j else 0) (fun i hi => by simp only [hi, if_true])
   rw [List.getElem?_eq_getElem htl] at hbest
   have hzt := hzo _ (List.getElem_mem htl)
   have hzl := ((o2 _).mp hzt).1
   obtain ⟨m1, m2, m3, m4⟩ := hbs Z[t] hzl
   have hn1 : Z[t] ∉ Z.take t := fun h => by
    obtain ⟨j, hj, e⟩ := List.getElem_of_mem h
    rw [List.getElem_take] at e
    rw [List.length_take] at hj
    have := (List.getElem_inj (h₀ := by omega) (h₁ := htl) hnd).mp e
    omega
   have hm : ∀ j, j ∈ Z.take (t + 1) ↔ j ∈ Z.take t ∨ j = Z[t] := fun j => by rw [List.take_add_one, List.getElem?_eq_getElem htl]; simp only [Option.toList, List.mem_append, List.mem_singleton]
   simp only [Yt.l1, Yt.m1]
   rw [ZQ (show lfD w n s op - (t : Int) > 0 by omega)]
   simp only [cond_true]
   rw [best_fv rfl hl hk (by rw [hop']; exact hbest)]
   simp only [Yt.l2, atR, rdQ, Q.ask]
   rw [ZV (show ¬ (a1.length : Int) < (a1.length : Int) by omega)]
   simp only [cond_false]
   rw [ZaP ⟨by omega, by rw [Yab]; omega⟩, Int.toNat_natCast, YaH hzl]
   simp only [List.drop_zero, ZY, cD_at, Zad]
   rw [ZaP ⟨by omega, by rw [Yab]; omega⟩, ZaP (by rw [Yab]; exact hzl), ZaP ⟨by omega, by rw [Yab]; omega⟩, ZaP (by rw [Yab]; exact hzl), YaV hzl, YaV hzl, if_pos hzt, if_neg hn1, Int.add_zero, Zj (by omega) (by omega), Zj (by omega) (by omega)]
   have r1 : Yak a1.length (fun j => if j = Z[t] then C.d (.int .i64 (bsD w n s Z[t] + 1)) else cI (fun j => if j ∈ op then bsD w n s j + (if j ∈ Z.take t then 1 else 0) else 0) j) = Yak a1.length (cI fun j => if j ∈ op then bsD w n s j + (if j ∈ Z.take (t + 1) then 1 else 0) else 0) := YaF fun j hj => by
    by_cases hjz : j = Z[t]
    ·subst hjz
     rw [if_pos rfl]
     show _ = C.d (.int .i64 (if Z[t] ∈ op then bsD w n s Z[t] + (if Z[t] ∈ Z.take (t + 1) then 1 else 0) else 0))
     rw [if_pos hzt, if_pos ((hm _).mpr (Or.inr rfl))]
    ·rw [if_neg hjz]
     show C.d (.int .i64 (if j ∈ op then bsD w n s j + (if j ∈ Z.take t then 1 else 0) else 0)) = C.d (.int .i64 (if j ∈ op then bsD w n s j + (if j ∈ Z.take (t + 1) then 1 else 0) else 0))
     rw [YaW (p := j ∈ Z.take (t + 1)) (q := j ∈ Z.take t) ⟨fun h => ((hm j).mp h).resolve_right hjz, fun h => (hm j).mpr (Or.inl h)⟩ rfl]
   have r2 : Yak a1.length (fun j => if j = Z[t] then C.d (.int .i64 (-1)) else cI (fun j => if j ∈ Z.take t then -1 else if j ∈ op then rsD w n s j else 0) j) = Yak a1.length (cI fun j => if j ∈ Z.take (t + 1) then -1 else if j ∈ op then rsD w n s j else 0) := YaF fun j hj => by
    by_cases hjz : j = Z[t]
    ·subst hjz
     rw [if_pos rfl]
     show _ = C.d (.int .i64 (if Z[t] ∈ Z.take (t + 1) then -1 else if Z[t] ∈ op then rsD w n s Z[t] else 0))
     rw [if_pos ((hm _).mpr (Or.inr rfl))]
    ·rw [if_neg hjz]
     show C.d (.int .i64 (if j ∈ Z.take t then -1 else if j ∈ op then rsD w n s j else 0)) = C.d (.int .i64 (if j ∈ Z.take (t + 1) then -1 else if j ∈ op then rsD w n s j else 0))
     rw [YaW (p := j ∈ Z.take (t + 1)) (q := j ∈ Z.take t) ⟨fun h => ((hm j).mp h).resolve_right hjz, fun h => (hm j).mpr (Or.inl h)⟩ rfl]
   rw [r1, r2, show lfD w n s op - (t : Int) - 1 = lfD w n s op - ((t + 1 : Nat) : Int) by omega]
  ·simp only [Yt.l1, Yt.m1]
   rw [ZV (show ¬ lfD w n s op - ((lfD w n s op).toNat : Int) > 0 by omega)]
   simp only [cond_false]
   congr 1
   refine YaF fun j hj => ?_
   show C.d (.int .i64 (if j ∈ op then bsD w n s j + (if j ∈ Z.take (lfD w n s op).toNat then 1 else 0) else 0)) = C.d (.int .i64 (if j ∈ op then xD w n s op j else 0))
   unfold xD
   rw [hchd]) K
theorem Yw.f_of {β : Type} {k a0 a1 a2 z0} (h : Yw.t k a0 a1 a2 = some z0) (K : LC → Option β) : Yw.f k a0 a1 a2 K = K z0 := by unfold Yw.f; rw [h]; rfl
section
variable (w c o : Nat → Int) (L : Nat) (n : Int)
def nxO (j : Nat) : Int := o j + if j ∈ opL w c o L then clD w c o n (smL w (opL w c o L)) (opL w c o L) j else 0
def nxN : Int := n - ((opL w c o L).map (clD w c o n (smL w (opL w c o L)) (opL w c o L))).sum
end
def roundD {β : Type} (w c : Nat → Int) (a1 a2 : LD) (K : LC → Option β) (L0 : (Int × LD × LD × LC) → Option β) (n : Int) (o : Nat → Int) : Option β :=
 if 0 < n then (if opL w c o a1.length = [] then K (Yak a1.length (cI o)) else L0 (nxN w c o a1.length n, a1, a2, Yak a1.length (cI (nxO w c o a1.length n)))) else K (Yak a1.length (cI o))
theorem opB_mem {w c o : Nat → Int} {L i : Nat} (hi : i < L) : opB w c o i = true ↔ i ∈ opL w c o L := by
 rw [opL, List.mem_filter, List.mem_range]
 exact ⟨fun h => ⟨hi, h⟩, fun h => h.2⟩
theorem op_short {w c o : Nat → Int} {L : Nat} (hl : L < 20) : (opL w c o L).length < 20 := by
 have : (opL w c o L).length ≤ (List.range L).length := List.length_filter_le ..
 rw [List.length_range] at this; omega
theorem filt_short (p : Nat → Bool) (i : Nat) : ((List.range i).filter p).length ≤ i := by have := List.length_filter_le p (List.range i); rwa [List.length_range] at this
structure DivOk (w c : Nat → Int) (a1 a2 : LD) : Prop where
 hw : w = fun i : Nat => gI a1 (i : Int) 0
 hc : c = fun i : Nat => gI a2 (i : Int) 0
 g1 : Zi RI lim a1
 g2 : Zi RI lim a2
 he : a2.length = a1.length
 hl : a1.length < 20
 bw : ∀ i, i < a1.length → 0 ≤ w i ∧ w i ≤ 1000
 bc : ∀ i, i < a1.length → c i ≤ 10000
set_option maxRecDepth 100000 in
theorem spec_round {w c o : Nat → Int} {a1 a2 : LD} (h : DivOk w c a1 a2) (ho : ∀ i, i < a1.length → 0 ≤ o i ∧ o i ≤ c i) {n : Int} (hn2 : n ≤ 10000) {k : Nat} (hk : Z3 k) {β : Type} (K : LC → Option β) (L0 : (Int × LD × LD × LC) → Option β) :
  Yw.l0 k K L0 (n, a1, a2, Yak a1.length (cI o)) = roundD w c a1 a2 K L0 n o := by
 obtain ⟨hw, hc, g1, g2, he, hl, bw, bc⟩ := h
 have hb : big = 2 ^ 64 := rfl
 have hmost : ZN = 2 ^ 36 := rfl
 have hkk : a1.length < k := by unfold Z3 at hk; omega
 have hgw : ∀ i : Nat, gI a1 (i : Int) 0 = w i := fun i => by rw [hw]
 have hgc : ∀ i : Nat, gI a2 (i : Int) 0 = c i := fun i => by rw [hc]
 unfold roundD
 simp only [Yw.l0, Yw.m0]
 by_cases hn : 0 < n
 case neg =>
  rw [if_neg hn, ZV (show ¬ n > 0 from hn)]
  rfl
 rw [if_pos hn, ZQ (show n > 0 from hn)]
 simp only [cond_true]
 rw [ZaP ⟨by omega, by omega, by omega, by omega⟩, Int.toNat_natCast, rowF_rep]
 have hz : Yak a1.length (fun _ => C.d (.bool false)) = Yak a1.length (cB fun j => decide (j < 0) && opB w c o j) := YaF fun j hj => by simp
 rw [hz]
 refine iter_seq (f := fun i => (smL w ((List.range i).filter (opB w c o)), (i : Int), Yak a1.length (cB fun j => decide (j < i) && opB w c o j))) (n := a1.length) hkk (fun L i hi => ?_) (fun L => ?_)
 ·have hw1 : IntKind.wrap .i64 ((i : Int) + 1) = ((i + 1 : Nat) : Int) := by rw [Zj (by omega) (by omega)]; omega
  have hmod : ∀ b, b = opB w c o i → ((Yak a1.length (cB fun j => decide (j < i) && opB w c o j)).modify i fun x => Zq x 0 [.d (.bool b)]) = Yak a1.length (cB fun j => decide (j < i + 1) && opB w c o j) := fun b hbe => by
   subst hbe
   rw [YaV hi]
   refine YaF fun j hj => ?_
   show (if j = i then C.d (.bool (opB w c o i)) else C.d (.bool (decide (j < i) && opB w c o j))) = C.d (.bool (decide (j < i + 1) && opB w c o j))
   by_cases hji : j = i
   ·subst hji
    simp
   ·rw [if_neg hji, show decide (j < i + 1) = decide (j < i) from decide_eq_decide.mpr (by omega)]
  have hat : (decide (i < i + 1) && opB w c o i) = opB w c o i := by simp
  have hsum := sum_le (f := w) (b := 1000) (l := (List.range i).filter (opB w c o)) fun j hj => bw j (by have := List.mem_range.mp (mem_filt hj); omega)
  have hsh := filt_short (opB w c o) i
  have hwi := bw i hi
  simp only [Yw.l1, Yw.m1, atR, rdQ, Q.ask]
  rw [ZQ (show (i : Int) < (a1.length : Int) by omega)]
  simp only [cond_true]
  simp (disch := omega) only [RI.row g1, RI.row g2, ZY, Zad, Z6, hgw, hgc, Int.toNat_natCast, hw1]
  by_cases hpos : 0 < w i
  ·rw [ZQ (show w i > 0 from hpos)]
   simp only [cond_true]
   have hop : decide (o i < c i) = opB w c o i := by unfold opB; rw [ZQ hpos, Bool.true_and]
   rw [ZaP ⟨by omega, by rw [Yab]; omega⟩, YaH hi]
   simp only [List.drop_zero, ZY, cD_at, Zad, hop, hmod _ rfl]
   rw [ZaP ⟨by omega, by rw [Yab]; omega⟩, ZaP (by rw [Yab]; exact hi), ZaP ⟨by omega, by rw [Yab]; omega⟩, YaH hi]
   simp only [List.drop_zero, ZY, cD_at, ZaQ, hat]
   rw [YaK]
   cases hp : opB w c o i with
   | false => simp only [cond_false, Bool.false_eq_true, if_false, List.append_nil]
   | true =>
    simp only [cond_true, if_true]
    rw [Zj (by unfold smL; omega) (by unfold smL; omega)]
    unfold smL
    rw [List.map_append, List.sum_append]
    simp
  ·rw [ZV (show ¬ w i > 0 from hpos)]
   simp only [cond_false]
   have hp : false = opB w c o i := by unfold opB; rw [ZV hpos, Bool.false_and]
   simp only [hmod _ hp]
   rw [ZaP ⟨by omega, by rw [Yab]; omega⟩, ZaP (by rw [Yab]; exact hi), ZaP ⟨by omega, by rw [Yab]; omega⟩, YaH hi]
   simp only [List.drop_zero, ZY, cD_at, ZaQ, hat]
   rw [YaK, ← hp]
   simp only [cond_false, Bool.false_eq_true, if_false, List.append_nil]
 simp only [Yw.l1, Yw.m1, atR, rdQ, Q.ask]
 rw [ZV (show ¬ (a1.length : Int) < (a1.length : Int) by omega)]
 simp only [cond_false]
 have hopd : (List.range a1.length).filter (opB w c o) = opL w c o a1.length := rfl
 rw [hopd]
 by_cases h0 : opL w c o a1.length = []
 ·rw [if_pos h0, h0]
  rfl
 rw [if_neg h0]
 obtain ⟨o1, o2⟩ := opL_facts (w := w) (c := c) (o := o) (L := a1.length)
 have hw0 : ∀ i ∈ opL w c o a1.length, 0 < w i := fun i hi => ((o2 i).mp hi).2.1
 obtain ⟨f1, _⟩ := lfD_bound (Int.le_of_lt hn) hw0 h0
 rw [show (smL w (opL w c o a1.length) == 0) = false from beq_eq_false_iff_ne.mpr (by omega)]
 simp only [cond_false]
 have hop2 : C.immRows (Yak a1.length (cB fun j => decide (j < a1.length) && opB w c o j)) = rowD a1.length (fun j => .bool (opB w c o j)) := by
  rw [YaF (h := cB (opB w c o)) fun j hj => by simp [hj], imm_rowF]
  rfl
 obtain ⟨q1, q2, q3⟩ := clD_sum o1 hn hw0 (fun i hi => ((o2 i).mp hi).2.2) h0
 rw [hop2, wants_fv hw rfl rfl g1 bw hn hn2 h0 hl hk]
 have hmem := fun i (hi : i < a1.length) => opB_mem (w := w) (c := c) (o := o) hi
 have hnO : ∀ j, nxO w c o a1.length n j = o j + if j ∈ opL w c o a1.length then clD w c o n (smL w (opL w c o a1.length)) (opL w c o a1.length) j else 0 := fun j => rfl
 have hnN : nxN w c o a1.length n = n - ((opL w c o a1.length).map (clD w c o n (smL w (opL w c o a1.length)) (opL w c o a1.length))).sum := rfl
 have hcl : ∀ i, clD w c o n (smL w (opL w c o a1.length)) (opL w c o a1.length) i = if c i - o i < xD w n (smL w (opL w c o a1.length)) (opL w c o a1.length) i then c i - o i else xD w n (smL w (opL w c o a1.length)) (opL w c o a1.length) i := fun i => rfl
 generalize hx : xD w n (smL w (opL w c o a1.length)) (opL w c o a1.length) = x at *
 generalize hcl2 : clD w c o n (smL w (opL w c o a1.length)) (opL w c o a1.length) = cl at *
 generalize hope : opL w c o a1.length = op at *
 generalize nxO w c o a1.length n = nO at *
 generalize nxN w c o a1.length n = nN at *
 have hy : ∀ j, j < a1.length → (if c j - o j < (if j ∈ op then x j else 0) then c j - o j else (if j ∈ op then x j else 0)) = if j ∈ op then cl j else 0 := fun j hj => by
  by_cases hm : j ∈ op
  ·simp only [if_pos hm, hcl]
  ·have := ho j hj
   simp only [if_neg hm]
   rw [if_neg (by omega)]
 have hst : Yak a1.length (cI o) = Yak a1.length (cI fun j => if j < 0 then nO j else o j) := YaF fun j hj => by simp
 have hst2 : Yak a1.length (cI fun j => if j ∈ op then x j else 0) = Yak a1.length (cI fun j => if j < 0 then (if j ∈ op then cl j else 0) else (if j ∈ op then x j else 0)) := YaF fun j hj => by simp
 rw [hst, hst2, show ((n, 0, Yak a1.length (cI fun j => if j < 0 then nO j else o j), Yak a1.length (cI fun j => if j < 0 then (if j ∈ op then cl j else 0) else (if j ∈ op then x j else 0))) : Int × Int × LC × LC) = (n - (((List.range 0).filter (opB w c o)).map cl).sum, ((0 : Nat) : Int), Yak a1.length (cI fun j => if j < 0 then nO j else o j), Yak a1.length (cI fun j => if j < 0 then (if j ∈ op then cl j else 0) else (if j ∈ op then x j else 0))) from by simp]
 refine iter_seq (f := fun i => (n - (((List.range i).filter (opB w c o)).map cl).sum, (i : Int), Yak a1.length (cI fun j => if j < i then nO j else o j), Yak a1.length (cI fun j => if j < i then (if j ∈ op then cl j else 0) else (if j ∈ op then x j else 0)))) (n := a1.length) hkk (fun M i hi => ?_) (fun M => ?_)
 ·have hw1 : IntKind.wrap .i64 ((i : Int) + 1) = ((i + 1 : Nat) : Int) := by rw [Zj (by omega) (by omega)]; omega
  have hoi := ho i hi
  have hci := bc i hi
  have hyi := hy i hi
  have hsum := sum_le (f := cl) (b := 10000) (l := (List.range i).filter (opB w c o)) fun j hj => by
   have hj1 : j < a1.length := by have := List.mem_range.mp (mem_filt hj); omega
   have := q1 j ((hmem j hj1).mp (List.mem_filter.mp hj).2)
   have := bc j hj1
   have := ho j hj1
   omega
  have hsh := filt_short (opB w c o) i
  have hnext : (((List.range (i + 1)).filter (opB w c o)).map cl).sum = (((List.range i).filter (opB w c o)).map cl).sum + if i ∈ op then cl i else 0 := by
   rw [YaK, List.map_append, List.sum_append]
   by_cases hm : i ∈ op
   ·rw [if_pos hm, if_pos ((hmem i hi).mpr hm)]; simp
   ·rw [if_neg hm, if_neg fun h => hm ((hmem i hi).mp h)]; simp
  have hY0 : 0 ≤ (if i ∈ op then cl i else 0) ∧ (if i ∈ op then cl i else 0) ≤ c i - o i := by
   by_cases hm : i ∈ op
   ·rw [if_pos hm]; have := q1 i hm; omega
   ·rw [if_neg hm]; omega
  have hmodo : ((Yak a1.length (cI fun j => if j < i then nO j else o j)).modify i fun z => Zq z 0 [.d (.int .i64 (o i + if i ∈ op then cl i else 0))]) = Yak a1.length (cI fun j => if j < i + 1 then nO j else o j) := by
   rw [YaV hi]
   refine YaF fun j hj => ?_
   show (if j = i then C.d (.int .i64 (o i + if i ∈ op then cl i else 0)) else C.d (.int .i64 (if j < i then nO j else o j))) = C.d (.int .i64 (if j < i + 1 then nO j else o j))
   by_cases hji : j = i
   ·subst hji
    rw [if_pos rfl, if_pos (by omega : j < j + 1), hnO]
   ·rw [if_neg hji, YaW (p := j < i + 1) (q := j < i) (by omega) rfl]
  have hmodx : ((Yak a1.length (cI fun j => if j < i then (if j ∈ op then cl j else 0) else (if j ∈ op then x j else 0))).modify i fun z => Zq z 0 [.d (.int .i64 (if i ∈ op then cl i else 0))]) = Yak a1.length (cI fun j => if j < i + 1 then (if j ∈ op then cl j else 0) else (if j ∈ op then x j else 0)) := by
   rw [YaV hi]
   refine YaF fun j hj => ?_
   show (if j = i then C.d (.int .i64 (if i ∈ op then cl i else 0)) else C.d (.int .i64 (if j < i then (if j ∈ op then cl j else 0) else (if j ∈ op then x j else 0)))) = C.d (.int .i64 (if j < i + 1 then (if j ∈ op then cl j else 0) else (if j ∈ op then x j else 0)))
   by_cases hji : j = i
   ·subst hji
    rw [if_pos rfl, if_pos (by omega : j < j + 1)]
   ·rw [if_neg hji, YaW (p := j < i + 1) (q := j < i) (by omega) rfl]
  have hato : (if i < i then nO i else o i) = o i := if_neg (by omega)
  have hatx : (if i < i then (if i ∈ op then cl i else 0) else (if i ∈ op then x i else 0)) = (if i ∈ op then x i else 0) := if_neg (by omega)
  have hatx2 : (if i < i + 1 then (if i ∈ op then cl i else 0) else (if i ∈ op then x i else 0)) = (if i ∈ op then cl i else 0) := if_pos (by omega)
  simp only [Yw.l2, atR, rdQ, Q.ask]
  rw [ZQ (show (i : Int) < (a1.length : Int) by omega)]
  simp only [cond_true]
  rw [ZaP ⟨by omega, by rw [Yab]; omega⟩, Int.toNat_natCast, YaH hi]
  simp only [List.drop_zero, ZY, cD_at, Zad, hatx]
  simp (disch := omega) only [RI.row g2, ZY, Zad, Z6, hgc, hw1]
  rw [ZaP ⟨by omega, by rw [Yab]; omega⟩, YaH hi]
  simp only [List.drop_zero, ZY, cD_at, Zad, hato]
  have hwc : IntKind.wrap .i64 (c i - o i) = c i - o i := Zj (by omega) (by omega)
  simp only [hwc]
  have hwy : IntKind.wrap .i64 (if i ∈ op then cl i else 0) = (if i ∈ op then cl i else 0) := Zj (by omega) (by omega)
  by_cases hgt : c i - o i < if i ∈ op then x i else 0
  ·rw [if_pos hgt] at hyi
   rw [ZQ (show (if i ∈ op then x i else 0) > c i - o i from hgt)]
   simp only [cond_true, hyi, hmodx]
   rw [ZaP ⟨by omega, by rw [Yab]; omega⟩, YaH hi]
   simp only [List.drop_zero, ZY, cD_at, Zad, hato, hwc, hyi, hwy, hmodx]
   rw [ZaP ⟨by omega, by rw [Yab]; omega⟩, ZaP (by rw [Yab]; exact hi), ZaP ⟨by omega, by rw [Yab]; omega⟩, YaH hi]
   simp only [List.drop_zero, ZY, cD_at, Zad, hato]
   rw [ZaP ⟨by omega, by rw [Yab]; omega⟩, YaH hi]
   simp only [List.drop_zero, ZY, cD_at, Zad, hatx2]
   rw [ZaP ⟨by omega, by rw [Yab]; omega⟩, ZaP (by rw [Yab]; exact hi), ZaP ⟨by omega, by rw [Yab]; omega⟩, YaH hi]
   simp only [List.drop_zero, ZY, cD_at, Zad, hatx2]
   rw [Zj (by omega) (by omega), Zj (by omega) (by omega), hmodo, hnext, Int.sub_sub]
  ·rw [if_neg hgt] at hyi
   rw [ZV (show ¬ (if i ∈ op then x i else 0) > c i - o i from hgt)]
   simp only [cond_false]
   have hsame : Yak a1.length (cI fun j => if j < i then (if j ∈ op then cl j else 0) else (if j ∈ op then x j else 0)) = Yak a1.length (cI fun j => if j < i + 1 then (if j ∈ op then cl j else 0) else (if j ∈ op then x j else 0)) := YaF fun j hj => by
    show C.d (.int .i64 (if j < i then (if j ∈ op then cl j else 0) else (if j ∈ op then x j else 0))) = C.d (.int .i64 (if j < i + 1 then (if j ∈ op then cl j else 0) else (if j ∈ op then x j else 0)))
    by_cases hji : j = i
    ·subst hji; rw [hatx, hatx2, hyi]
    ·rw [YaW (p := j < i + 1) (q := j < i) (by omega) rfl]
   rw [ZaP ⟨by omega, by rw [Yab]; omega⟩, YaH hi]
   simp only [List.drop_zero, ZY, cD_at, Zad, hato]
   rw [ZaP ⟨by omega, by rw [Yab]; omega⟩, YaH hi]
   simp only [List.drop_zero, ZY, cD_at, Zad, hatx]
   rw [ZaP ⟨by omega, by rw [Yab]; omega⟩, ZaP (by rw [Yab]; exact hi), ZaP ⟨by omega, by rw [Yab]; omega⟩, YaH hi]
   simp only [List.drop_zero, ZY, cD_at, Zad, hatx, hyi, ite_self]
   rw [Zj (by omega) (by omega), Zj (by omega) (by omega), hmodo, hnext, Int.sub_sub, hsame]
 ·simp only [Yw.l2, atR, rdQ, Q.ask]
  rw [ZV (show ¬ (a1.length : Int) < (a1.length : Int) by omega)]
  simp only [cond_false]
  rw [hopd, hnN, YaF (g := cI fun j => if j < a1.length then nO j else o j) (h := cI nO) fun j hj => by show C.d (.int .i64 (if j < a1.length then nO j else o j)) = C.d (.int .i64 (nO j)); rw [if_pos hj]]
set_option maxRecDepth 100000 in
theorem YaR {w c o : Nat → Int} {a1 a2 : LD} (h : DivOk w c a1 a2) (ho : ∀ i, i < a1.length → 0 ≤ o i ∧ o i ≤ c i) {n : Int} (hn2 : n ≤ 10000) {k : Nat} (hk : Z3 k) {β : Type} (K : LC → Option β) (L0 : (Int × LD × LD × LC) → Option β) :
  Yr.l0 k K L0 (n, a1, a2, Yak a1.length (cI o)) = roundD w c a1 a2 K L0 n o := by
 obtain ⟨hw, hc, g1, g2, he, hl, bw, bc⟩ := h
 have hb : big = 2 ^ 64 := rfl
 have hmost : ZN = 2 ^ 36 := rfl
 have hkk : a1.length < k := by unfold Z3 at hk; omega
 have hgw : ∀ i : Nat, gI a1 (i : Int) 0 = w i := fun i => by rw [hw]
 have hgc : ∀ i : Nat, gI a2 (i : Int) 0 = c i := fun i => by rw [hc]
 unfold roundD
 simp only [Yr.l0, Yr.m0]
 by_cases hn : 0 < n
 case neg =>
  rw [if_neg hn, ZV (show ¬ n > 0 from hn)]
  rfl
 rw [if_pos hn, ZQ (show n > 0 from hn)]
 simp only [cond_true]
 refine iter_seq (f := fun i => ((i : Int), upN ((List.range i).filter (opB w c o)))) (n := a1.length) hkk (fun L i hi => ?_) (fun L => ?_)
 ·have hw1 : IntKind.wrap .i64 ((i : Int) + 1) = ((i + 1 : Nat) : Int) := by rw [Zj (by omega) (by omega)]; omega
  have hsh := filt_short (opB w c o) i
  simp only [Yr.l1, Yr.m1, atR, rdQ, Q.ask]
  rw [ZQ (show (i : Int) < (a1.length : Int) by omega)]
  simp only [cond_true]
  simp (disch := omega) only [RI.row g1, RI.row g2, ZY, Zad, Z6, hgw, hgc, Int.toNat_natCast, hw1]
  rw [YaK]
  by_cases hpos : 0 < w i
  ·rw [ZQ (show w i > 0 from hpos)]
   simp only [cond_true]
   have hop : decide (o i < c i) = opB w c o i := by unfold opB; rw [ZQ hpos, Bool.true_and]
   rw [ZaP ⟨by omega, by rw [Yab]; omega⟩, YaH hi]
   simp only [List.drop_zero, ZY, cD_at, Zad, hop]
   cases hp : opB w c o i with
   | false => simp only [cond_false, Bool.false_eq_true, if_false, List.append_nil]
   | true =>
    simp only [cond_true, if_true]
    rw [ZaP (by simp only [YaS, List.length_cons, List.length_nil]; omega), show [[C.d (.int .i64 (i : Int))]] = upN [i] from rfl, upN_app]
  ·rw [ZV (show ¬ w i > 0 from hpos)]
   have hp : opB w c o i = false := by unfold opB; rw [ZV hpos, Bool.false_and]
   simp only [cond_false, hp, Bool.false_eq_true, if_false, List.append_nil]
 simp only [Yr.l1, Yr.m1, atR, rdQ, Q.ask]
 rw [ZV (show ¬ (a1.length : Int) < (a1.length : Int) by omega)]
 simp only [cond_false]
 have hopd : (List.range a1.length).filter (opB w c o) = opL w c o a1.length := rfl
 rw [hopd, YaS]
 by_cases h0 : opL w c o a1.length = []
 ·rw [if_pos h0, h0]
  rfl
 rw [if_neg h0]
 have hopl := op_short (w := w) (c := c) (o := o) hl
 obtain ⟨o1, o2⟩ := opL_facts (w := w) (c := c) (o := o) (L := a1.length)
 have hw0 : ∀ i ∈ opL w c o a1.length, 0 < w i := fun i hi => ((o2 i).mp hi).2.1
 have hl0 : 0 < (opL w c o a1.length).length := List.length_pos_iff.mpr h0
 rw [show (((opL w c o a1.length).length : Int) == 0) = false from beq_eq_false_iff_ne.mpr (by omega)]
 simp only [cond_false]
 obtain ⟨q1, q2, q3⟩ := clD_sum o1 hn hw0 (fun i hi => ((o2 i).mp hi).2.2) h0
 rw [imm_upN, quotas_fv hw g1 o1 (fun i hi => ((o2 i).mp hi).1) bw hw0 hn hn2 h0 hopl hk]
 have hnO : ∀ j, nxO w c o a1.length n j = o j + if j ∈ opL w c o a1.length then clD w c o n (smL w (opL w c o a1.length)) (opL w c o a1.length) j else 0 := fun j => rfl
 have hnN : nxN w c o a1.length n = n - ((opL w c o a1.length).map (clD w c o n (smL w (opL w c o a1.length)) (opL w c o a1.length))).sum := rfl
 have hcl : ∀ i, clD w c o n (smL w (opL w c o a1.length)) (opL w c o a1.length) i = if c i - o i < xD w n (smL w (opL w c o a1.length)) (opL w c o a1.length) i then c i - o i else xD w n (smL w (opL w c o a1.length)) (opL w c o a1.length) i := fun i => rfl
 generalize hx : xD w n (smL w (opL w c o a1.length)) (opL w c o a1.length) = x at *
 generalize hcl2 : clD w c o n (smL w (opL w c o a1.length)) (opL w c o a1.length) = cl at *
 generalize hope : opL w c o a1.length = op at *
 generalize nxO w c o a1.length n = nO at *
 generalize nxN w c o a1.length n = nN at *
 have hnd : op.Nodup := o1.imp fun h e => by subst e; omega
 have hst : Yak a1.length (cI o) = Yak a1.length (cI fun j => if j ∈ op.take 0 then nO j else o j) := YaF fun j hj => by simp
 rw [Yab, hst, show ((n, 0, Yak a1.length (cI fun j => if j ∈ op.take 0 then nO j else o j)) : Int × Int × LC) = (n - ((op.take 0).map cl).sum, ((0 : Nat) : Int), Yak a1.length (cI fun j => if j ∈ op.take 0 then nO j else o j)) from by simp]
 refine iter_seq (f := fun i => (n - ((op.take i).map cl).sum, (i : Int), Yak a1.length (cI fun j => if j ∈ op.take i then nO j else o j))) (n := op.length) (by omega) (fun M i hi => ?_) (fun M => ?_)
 ·have hw1 : IntKind.wrap .i64 ((i : Int) + 1) = ((i + 1 : Nat) : Int) := by rw [Zj (by omega) (by omega)]; omega
  have hm := List.getElem_mem hi
  have hpl := ((o2 _).mp hm).1
  have hoi := ho _ hpl
  have hci := bc _ hpl
  have hqi := q1 _ hm
  have hsum := sum_le (f := cl) (b := 10000) (l := op.take i) fun j hj => by
   have hj1 := List.mem_of_mem_take hj
   have hj2 := ((o2 j).mp hj1).1
   have := q1 j hj1
   have := bc j hj2
   have := ho j hj2
   omega
  have hsh : (op.take i).length ≤ 20 := by rw [List.length_take]; omega
  have hn1 : op[i] ∉ op.take i := fun h => by
   obtain ⟨j, hj, e⟩ := List.getElem_of_mem h
   rw [List.getElem_take] at e
   rw [List.length_take] at hj
   have := (List.getElem_inj (h₀ := by omega) (h₁ := hi) hnd).mp e
   omega
  have hmm : ∀ j, j ∈ op.take (i + 1) ↔ j ∈ op.take i ∨ j = op[i] := fun j => by rw [List.take_add_one, List.getElem?_eq_getElem hi]; simp only [Option.toList, List.mem_append, List.mem_singleton]
  have hmodo : ((Yak a1.length (cI fun j => if j ∈ op.take i then nO j else o j)).modify op[i] fun z => Zq z 0 [.d (.int .i64 (o op[i] + cl op[i]))]) = Yak a1.length (cI fun j => if j ∈ op.take (i + 1) then nO j else o j) := by
   rw [YaV hpl]
   refine YaF fun j hj => ?_
   show (if j = op[i] then C.d (.int .i64 (o op[i] + cl op[i])) else C.d (.int .i64 (if j ∈ op.take i then nO j else o j))) = C.d (.int .i64 (if j ∈ op.take (i + 1) then nO j else o j))
   by_cases hji : j = op[i]
   ·subst hji
    rw [if_pos rfl, if_pos ((hmm _).mpr (Or.inr rfl)), hnO, if_pos hm]
   ·rw [if_neg hji, YaW (p := j ∈ op.take (i + 1)) (q := j ∈ op.take i) ⟨fun h => ((hmm j).mp h).resolve_right hji, fun h => (hmm j).mpr (Or.inl h)⟩ rfl]
  simp only [Yr.l2, atR, rdQ, Q.ask]
  rw [ZQ (show (i : Int) < (op.length : Int) by omega)]
  simp only [cond_true]
  rw [ZaP ⟨by omega, by rw [Yab]; omega⟩, Int.toNat_natCast, YaH hi]
  simp only [List.drop_zero, ZY, cD_at, Zad, getD_at hi]
  rw [ZaP ⟨by omega, by rw [YaS]; omega⟩, upN_at hi]
  simp only [List.drop_zero, ZY, cD_at, Zad]
  simp (disch := omega) only [RI.row g2, ZY, Zad, Z6, hgc, hw1, Int.toNat_natCast]
  rw [ZaP ⟨by omega, by rw [Yab]; omega⟩, YaH hpl]
  simp only [List.drop_zero, ZY, cD_at, Zad, if_neg hn1]
  rw [ZaP ⟨by omega, by rw [Yab]; omega⟩, YaH hpl]
  simp only [List.drop_zero, ZY, cD_at, Zad, if_neg hn1]
  have hwc : IntKind.wrap .i64 (c op[i] - o op[i]) = c op[i] - o op[i] := Zj (by omega) (by omega)
  rw [ZaP ⟨by omega, by rw [Yab]; omega⟩, ZaP (by rw [Yab]; exact hpl)]
  simp only [hwc, ← hcl]
  rw [Zj (by omega) (by omega), Zj (by omega) (by omega), hmodo, Ya9 hi, Int.sub_sub]
 ·simp only [Yr.l2, atR, rdQ, Q.ask]
  rw [ZV (show ¬ (op.length : Int) < (op.length : Int) by omega)]
  simp only [cond_false, List.take_length]
  rw [hnN, YaF (g := cI fun j => if j ∈ op then nO j else o j) (h := cI nO) fun j hj => by
   show C.d (.int .i64 (if j ∈ op then nO j else o j)) = C.d (.int .i64 (nO j))
   by_cases hm : j ∈ op
   ·rw [if_pos hm]
   ·rw [if_neg hm, hnO, if_neg hm, Int.add_zero]]
theorem all_both (p q : Nat → Bool) : ∀ l : List Nat, (l.all fun i => p i && q i) = (l.all p && l.all q)
 | [] => rfl
 | x :: l => by
  simp only [List.all_cons, all_both p q l]
  cases p x <;> cases q x <;> simp
theorem div_rounds {w c : Nat → Int} {a1 a2 : LD} (h : DivOk w c a1 a2) : ∀ (N : Nat) (n : Int) (o : Nat → Int), n.toNat ≤ N → n ≤ 10000 → (∀ i, i < a1.length → 0 ≤ o i ∧ o i ≤ c i) →
  ∃ r : Nat → Int, (∀ i, i < a1.length → 0 ≤ r i ∧ r i ≤ c i) ∧ ∀ {k : Nat}, Z3 k → ∀ m, N < m → ∀ {β : Type} (K : LC → Option β),
   Zo (Yw.l0 k K) m (n, a1, a2, Yak a1.length (cI o)) = K (Yak a1.length (cI r)) ∧ Zo (Yr.l0 k K) m (n, a1, a2, Yak a1.length (cI o)) = K (Yak a1.length (cI r)) := by
 intro N
 induction N with
 | zero =>
  intro n o hN hn2 ho
  refine ⟨o, ho, fun {k} hk m hm {β} K => ?_⟩
  rw [iter_step hm, iter_step hm, spec_round h ho hn2 hk, YaR h ho hn2 hk]
  unfold roundD
  rw [if_neg (by omega), if_neg (by omega)]
  exact ⟨rfl, rfl⟩
 | succ N ih =>
  intro n o hN hn2 ho
  by_cases hn : 0 < n
  case neg =>
   refine ⟨o, ho, fun {k} hk m hm {β} K => ?_⟩
   rw [iter_step (by omega), iter_step (by omega), spec_round h ho hn2 hk, YaR h ho hn2 hk]
   unfold roundD
   rw [if_neg hn, if_neg hn]
   exact ⟨rfl, rfl⟩
  by_cases h0 : opL w c o a1.length = []
  ·refine ⟨o, ho, fun {k} hk m hm {β} K => ?_⟩
   rw [iter_step (by omega), iter_step (by omega), spec_round h ho hn2 hk, YaR h ho hn2 hk]
   unfold roundD
   rw [if_pos hn, if_pos h0, if_pos hn, if_pos h0]
   exact ⟨rfl, rfl⟩
  obtain ⟨o1, o2⟩ := opL_facts (w := w) (c := c) (o := o) (L := a1.length)
  obtain ⟨q1, q2, q3⟩ := clD_sum o1 hn (fun i hi => ((o2 i).mp hi).2.1) (fun i hi => ((o2 i).mp hi).2.2) h0
  have hN' : nxN w c o a1.length n = n - ((opL w c o a1.length).map (clD w c o n (smL w (opL w c o a1.length)) (opL w c o a1.length))).sum := rfl
  obtain ⟨r, hr, hi⟩ := ih (nxN w c o a1.length n) (nxO w c o a1.length n) (by omega) (by omega) fun i hi => by
   have := ho i hi
   unfold nxO
   by_cases hm : i ∈ opL w c o a1.length
   ·rw [if_pos hm]; have := q1 i hm; omega
   ·rw [if_neg hm]; omega
  refine ⟨r, hr, fun {k} hk m hm {β} K => ?_⟩
  rw [iter_step (by omega), iter_step (by omega), spec_round h ho hn2 hk, YaR h ho hn2 hk]
  unfold roundD
  rw [if_pos hn, if_neg h0, if_pos hn, if_neg h0]
  exact hi hk (m - 1) (by omega) K
def YaY (n : Int) (a1 a2 : LD) : Bool := inB n 0 10000 && (decide (a1.length ≤ 64) && (decide (a1.length = a2.length) && (List.range a1.length).all fun i => inB (gI a1 (i : Int) 0) 0 1000 && inB (gI a2 (i : Int) 0) 0 10000))
set_option maxRecDepth 100000 in
theorem right_spec {n : Int} {a1 a2 : LD} (g1 : Zi RI lim a1) (g2 : Zi RI lim a2) {k : Nat} (hk : Z3 k) {β : Type} (K : Bool → Option β) : Y8.f k n a1 a2 K = K (YaY n a1 a2) := Y8.f_of (by
 have hb : big = 2 ^ 64 := rfl
 have hlen := g1.1
 have hlim : lim = 1048576 := rfl
 unfold Y8.t Y8.g YaY
 rw [l1In_fv]
 cases inB n 0 10000
 ·rfl
 simp only [Bool.not_true, cond_false, Bool.true_and]
 by_cases h1 : a1.length ≤ 64
 case neg =>
  rw [ZQ (show (a1.length : Int) > 64 by omega), ZV h1]
  rfl
 rw [ZV (show ¬ (a1.length : Int) > 64 by omega), ZQ h1]
 simp only [cond_false, Bool.true_and]
 by_cases h2 : a1.length = a2.length
 case neg =>
  rw [show ((a1.length : Int) != (a2.length : Int)) = true from bne_iff_ne.mpr (by omega), ZV h2]
  rfl
 rw [show ((a1.length : Int) != (a2.length : Int)) = false from bne_eq_false_iff_eq.mpr (by omega), ZQ h2]
 simp only [cond_false, Bool.true_and]
 rw [Zb6 (n := a1.length) (fun i => inB (gI a1 (i : Int) 0) 0 1000 && inB (gI a2 (i : Int) 0) 0 10000) (r1 := some false) (r2 := some true) (by unfold Z3 at hk; omega)]
 ·generalize List.all _ _ = x
  cases x <;> rfl
 ·intro L i hi
  simp (disch := omega) only [Y8.l0, atR, rdQ, Q.ask, ZQ (show (i : Int) < a1.length by omega), cond_true, RI.row g1, RI.row g2, ZY, Zad, Z6, l1In_fv, Zj]
  cases inB (gI a1 (i : Int) 0) 0 1000 <;> cases inB (gI a2 (i : Int) 0) 0 10000 <;> rfl
 ·intro L
  simp [Y8.l0, atR, rdQ, Q.ask]) K
set_option maxRecDepth 100000 in
theorem right_impl {n : Int} {a1 a2 : LD} (g1 : Zi RI lim a1) (g2 : Zi RI lim a2) {k : Nat} (hk : Z3 k) {β : Type} (K : Bool → Option β) : YaA.f k n a1 a2 K = K (YaY n a1 a2) := YaA.f_of (by
 have hb : big = 2 ^ 64 := rfl
 have hlen := g1.1
 have hlen2 := g2.1
 have hlim : lim = 1048576 := rfl
 have c1 : ∀ {β : Type} (K : Bool → Option β), YG.f k a1 K = K (!(List.range a1.length).all fun i => inB (gI a1 (i : Int) 0) 0 1000) := fun K => YG.f_of (by
  unfold YG.t YG.g
  have hf : ∀ {β : Type} (K : Int → Option β), Yi.f k a1 K = K (Zbo (fun i => !inB (gI a1 (i : Int) 0) 0 1000) a1.length) := fun K => Yi.f_of (by
   unfold Yi.t Yi.g
   refine iter_findI (n := a1.length) _ some (by unfold Z3 at hk; omega) (fun L i hi => ?_) (fun L => by simp [Yi.l0, atR, rdQ, Q.ask])
   have hs : ∀ {β : Type} (K : Bool → Option β), Yap.f k (gI a1 (i : Int) 0) K = K (!inB (gI a1 (i : Int) 0) 0 1000) := fun K => Yap.f_of (by unfold Yap.t Yap.g; rw [within_fv]) K
   simp (disch := omega) only [Yi.l0, atR, rdQ, Q.ask, ZQ (show (i : Int) < a1.length by omega), cond_true, RI.row g1, ZY, Zad, Z6, hs, Zj]) K
  rw [hf, findI_all]
  simp only [Bool.not_not]) K
 have c2 : ∀ {β : Type} (K : Bool → Option β), YF.f k a2 K = K (!(List.range a2.length).all fun i => inB (gI a2 (i : Int) 0) 0 10000) := fun K => YF.f_of (by
  unfold YF.t YF.g
  have hf : ∀ {β : Type} (K : Int → Option β), Yh.f k a2 K = K (Zbo (fun i => !inB (gI a2 (i : Int) 0) 0 10000) a2.length) := fun K => Yh.f_of (by
   unfold Yh.t Yh.g
   refine iter_findI (n := a2.length) _ some (by unfold Z3 at hk; omega) (fun L i hi => ?_) (fun L => by simp [Yh.l0, atR, rdQ, Q.ask])
   have hs : ∀ {β : Type} (K : Bool → Option β), Yao.f k (gI a2 (i : Int) 0) K = K (!inB (gI a2 (i : Int) 0) 0 10000) := fun K => Yao.f_of (by unfold Yao.t Yao.g; rw [within_fv]) K
   simp (disch := omega) only [Yh.l0, atR, rdQ, Q.ask, ZQ (show (i : Int) < a2.length by omega), cond_true, RI.row g2, ZY, Zad, Z6, hs, Zj]) K
  rw [hf, findI_all]
  simp only [Bool.not_not]) K
 unfold YaA.t YaA.g YaY
 rw [within_fv]
 cases inB n 0 10000
 ·rfl
 simp only [cond_true, Bool.true_and]
 by_cases h1 : a1.length ≤ 64
 case neg =>
  rw [ZV (show ¬ (a1.length : Int) ≤ 64 by omega), ZV h1]
  rfl
 rw [ZQ (show (a1.length : Int) ≤ 64 by omega), ZQ h1]
 simp only [cond_true, Bool.true_and]
 by_cases h2 : a1.length = a2.length
 case neg =>
  rw [show ((a2.length : Int) == (a1.length : Int)) = false from beq_eq_false_iff_ne.mpr (by omega), ZV h2]
  rfl
 rw [show ((a2.length : Int) == (a1.length : Int)) = true from beq_iff_eq.mpr (by omega), ZQ h2, c1, c2, ← h2]
 simp only [cond_true, Bool.true_and, Bool.not_not]
 rw [show (List.range a1.length).all (fun i => inB (gI a1 (i : Int) 0) 0 1000 && inB (gI a2 (i : Int) 0) 0 10000) = ((List.range a1.length).all (fun i => inB (gI a1 (i : Int) 0) 0 1000) && (List.range a1.length).all (fun i => inB (gI a2 (i : Int) 0) 0 10000)) from all_both _ _ _]
 cases (List.range a1.length).all fun i => inB (gI a1 (i : Int) 0) 0 1000 <;> rfl) K
theorem div_fv {n : Int} {a1 a2 : LD} (g1 : Zi RI lim a1) (g2 : Zi RI lim a2) (hl : a1.length < 20) : ∃ r : LC, (r = [] ∨ ∃ o : Nat → Int, r = Yak a1.length (cI o) ∧ ∀ i, i < a1.length → 0 ≤ o i ∧ o i ≤ 10000) ∧ (YaY n a1 a2 = false → r = []) ∧ (YaY n a1 a2 = true → r.length = a1.length) ∧ ∀ {k : Nat}, Z3 k → ∀ {β : Type} (K : LC → Option β), Yw.f k n a1 a2 K = K r ∧ Yr.f k n a1 a2 K = K r := by
 have hb : big = 2 ^ 64 := rfl
 have hmost : ZN = 2 ^ 36 := rfl
 cases hR : YaY n a1 a2 with
 | false =>
  refine ⟨[], .inl rfl, fun _ => rfl, fun h => by simp at h, fun {k} hk {β} K => ⟨Yw.f_of ?_ K, Yr.f_of ?_ K⟩⟩
  ·unfold Yw.t Yw.g Yw.m
   rw [right_spec g1 g2 hk, hR]
   rfl
  ·unfold Yr.t Yr.g Yr.m
   rw [right_impl g1 g2 hk, hR]
   rfl
 | true =>
  have hR' := hR
  unfold YaY at hR'
  simp only [Bool.and_eq_true, decide_eq_true_eq, List.all_eq_true, List.mem_range, inB] at hR'
  obtain ⟨⟨hn0, hn⟩, _, he, ha⟩ := hR'
  obtain ⟨r, hr, hi⟩ := div_rounds (w := fun i : Nat => gI a1 (i : Int) 0) (c := fun i : Nat => gI a2 (i : Int) 0) (a1 := a1) (a2 := a2) ⟨rfl, rfl, g1, g2, he.symm, hl, fun i hi => (ha i hi).1, fun i hi => (ha i hi).2.2⟩ 10000 n (fun _ => 0) (by omega) hn (fun i hi => ⟨Int.le_refl _, (ha i hi).2.1⟩)
  refine ⟨Yak a1.length (cI r), .inr ⟨r, rfl, fun i hi => by have := hr i hi; have := (ha i hi).2.2; omega⟩, fun h => by simp at h, fun _ => Yab .., fun {k} hk {β} K => ⟨Yw.f_of ?_ K, Yr.f_of ?_ K⟩⟩
  ·unfold Yw.t Yw.g Yw.m
   rw [right_spec g1 g2 hk, hR]
   simp only [Bool.not_true, cond_false]
   rw [ZaP ⟨by omega, by omega, by omega, by omega⟩, Int.toNat_natCast, rowF_rep]
   exact (hi hk k (by unfold Z3 at hk; omega) some).1
  ·unfold Yr.t Yr.g Yr.m
   rw [right_impl g1 g2 hk, hR]
   simp only [Bool.not_true, cond_false]
   rw [ZaP ⟨by omega, by omega, by omega, by omega⟩, Int.toNat_natCast, rowF_rep]
   exact (hi hk k (by unfold Z3 at hk; omega) some).2
theorem Y0.f_of {β : Type} {k aB aC aA aH a1 a2 z0} (h : Y0.t k aB aC aA aH a1 a2 = some z0) (K : LC → Option β) : Y0.f k aB aC aA aH a1 a2 K = K z0 := by unfold Y0.f; rw [h]; rfl
def Y6 (B : Nat) (r : List D) : Prop := ∃ (c0 : BA) (c1 : LD) (c2 : LD) (c3 : Int), r = [.str c0, .sl c1, .sl c2, .int .i64 c3] ∧ c0.size ≤ B ∧ Zi RSS B c1 ∧ Zi RS B c2 ∧ (Lit.int .i64 c3).wf = true ∧ True
theorem Y6.open {B : Nat} {r : List D} (h : Y6 B r) : ∃ (c0 : BA) (c1 : LD) (c2 : LD) (c3 : Int), r = [.str c0, .sl c1, .sl c2, .int .i64 c3] ∧ c0.size ≤ B ∧ Zi RSS B c1 ∧ Zi RS B c2 ∧ (Lit.int .i64 c3).wf = true ∧ True := h
theorem Y6.mono {B B' : Nat} (hb : B ≤ B') {r : List D} (h : Y6 B r) : Y6 B' r := by
 obtain ⟨c0, c1, c2, c3, rfl, k0, k1, k2, k3, _⟩ := h
 exact ⟨_, _, _, _, rfl, (Nat.le_trans k0 hb), ⟨Nat.le_trans k1.1 hb, fun r hr => (k1.2 r hr).mono hb⟩, ⟨Nat.le_trans k2.1 hb, fun r hr => (k2.2 r hr).mono hb⟩, k3, trivial⟩
theorem Y6.wide {xs : LD} (h : Zi Y6 lim xs) : Zi Y6 2097152 xs := ⟨Nat.le_trans h.1 (by decide), fun r hr => (h.2 r hr).mono (by decide)⟩
theorem Y6.len {B : Nat} {r : List D} (h : Y6 B r) : r.length = 4 := by
 obtain ⟨c0, c1, c2, c3, rfl, _⟩ := h.open
 rfl
theorem Y6.gets {B : Nat} {xs : LD} (h : ∀ r ∈ xs, Y6 B r) {v : Int} (h0 : 0 ≤ v) (h1 : v < xs.length) : gR xs v = [.str (gS xs v 0), .sl (gL xs v 1), .sl (gL xs v 2), .int .i64 (gI xs v 3)] ∧ (gS xs v 0).size ≤ B ∧ Zi RSS B (gL xs v 1) ∧ Zi RS B (gL xs v 2) ∧ (Lit.int .i64 (gI xs v 3)).wf = true ∧ True := by
 obtain ⟨c0, c1, c2, c3, e, k0, k1, k2, k3, _⟩ := (h (gR xs v) (gR_mem h0 h1)).open
 unfold gI gL gS
 rw [e]
 exact ⟨rfl, k0, k1, k2, k3, trivial⟩
theorem Y6.rows {B : Nat} {xs : LD} (h : ∀ r ∈ xs, Y6 B r) {v : Int} (h0 : 0 ≤ v) (h1 : v < xs.length) {β : Type} (F : List D → Option β) : Zbw xs v F = F [.str (gS xs v 0), .sl (gL xs v 1), .sl (gL xs v 2), .int .i64 (gI xs v 3)] := by
 rw [← (Y6.gets h h0 h1).1]
 exact Zbp h0 h1 F
theorem Y6.get {B : Nat} {xs : LD} (h : Zi Y6 B xs) {v : Int} (h0 : 0 ≤ v) (h1 : v < xs.length) : gR xs v = [.str (gS xs v 0), .sl (gL xs v 1), .sl (gL xs v 2), .int .i64 (gI xs v 3)] ∧ (gS xs v 0).size ≤ B ∧ Zi RSS B (gL xs v 1) ∧ Zi RS B (gL xs v 2) ∧ (Lit.int .i64 (gI xs v 3)).wf = true ∧ True := Y6.gets h.2 h0 h1
theorem Y6.row {B : Nat} {xs : LD} (h : Zi Y6 B xs) {v : Int} (h0 : 0 ≤ v) (h1 : v < xs.length) {β : Type} (F : List D → Option β) : Zbw xs v F = F [.str (gS xs v 0), .sl (gL xs v 1), .sl (gL xs v 2), .int .i64 (gI xs v 3)] := Y6.rows h.2 h0 h1 F
theorem wf_mk {n : Int} (h1 : -9223372036854775808 ≤ n) (h2 : n ≤ 9223372036854775807) : (Lit.int .i64 n).wf = true := by
 simp [Lit.wf, IntKind.min, IntKind.max, IntKind.signed, IntKind.bits]
 omega
set_option maxRecDepth 100000 in
theorem weight_wf {aB : Int} {aC aA aH : LD} {a1 : BA} (g0 : Zi Yaw lim aC) (g1 : Zi RS lim aA) (g2 : Zi RSI lim aH) (g3 : a1.size ≤ lim) : (Lit.int .i64 (YE.v aB aC aA aH a1)).wf = true := by
 have hb : big = 2 ^ 64 := rfl
 have hlim : lim = 1048576 := rfl
 have hlen := g2.1
 have hk : Z3 big := Nat.le_refl _
 have h : ∃ y, (Lit.int .i64 y).wf = true ∧ YE.t big aB aC aA aH a1 = some y := by
  unfold YE.t YE.g
  rw [iter_find (n := aH.length) (fun i => Zae (gS aH (i : Int) 0) a1) (r1 := fun i => some (gI aH (i : Int) 1)) (r2 := some 1) (by omega)]
  ·cases hf : (List.range aH.length).find? fun i : Nat => Zae (gS aH (i : Int) 0) a1 with
   | none => exact ⟨1, by decide, rfl⟩
   | some i =>
    have hi := List.mem_range.mp (List.mem_of_find?_eq_some hf)
    exact ⟨_, (RSI.gets g2.2 (v := (i : Int)) (by omega) (by omega)).2.2.1, rfl⟩
  ·intro L i hi
   simp (disch := omega) only [YE.l0, atR, rdQ, Q.ask, ZQ (show (i : Int) < aH.length by omega), cond_true, RSI.row g2, ZY, Zaj, Zad, Z6, Zj]
  ·intro L
   simp [YE.l0, atR, rdQ, Q.ask]
 obtain ⟨y, h1, h2⟩ := h
 rw [YE.tv g0 g1 g2 g3 hk] at h2
 injection h2 with h2
 rw [h2]
 exact h1
section
variable (aB : Int) (aC aA aH a1 : LD)
noncomputable def wtV (i : Nat) : Int := bif YJ.v aB aC aA aH (gS a1 (i : Int) 0) (gL a1 (i : Int) 1) (gL a1 (i : Int) 2) (gI a1 (i : Int) 3) then YE.v aB aC aA aH (gS a1 (i : Int) 0) else 0
end
set_option maxRecDepth 100000 in
theorem spec_weights {aB : Int} {aC aA aH a1 a2 : LD} (g1 : Zi Yaw lim aC) (g2 : Zi RS lim aA) (g3 : Zi RSI lim aH) (g4 : Zi Y6 lim a1) {k : Nat} (hk : Z3 k) {β : Type} (K : LC → Option β) :
  Zo (Y0.l0 k a1 a2 aB aC aA aH K) k (0, []) = bif (List.range a1.length).all (fun i => YR.v (gS a1 (i : Int) 0) (gL a1 (i : Int) 1) (gL a1 (i : Int) 2) (gI a1 (i : Int) 3)) then Yw.f k aB (rowD a1.length fun j => .int .i64 (wtV aB aC aA aH a1 j)) a2 K else K [] := by
 have hb : big = 2 ^ 64 := rfl
 have hmost : ZN = 2 ^ 36 := rfl
 have hlim : lim = 1048576 := rfl
 have hlen := g4.1
 refine iter_allT (fun i => ((i : Int), Yak i (cI (wtV aB aC aA aH a1)))) (n := a1.length) _ (by unfold Z3 at hk; omega) (fun L i hi => ?_) (fun L => ?_)
 ·obtain ⟨_, e0, e1, e2, _⟩ := Y6.get g4 (v := (i : Int)) (by omega) (by omega)
  have hw1 : IntKind.wrap .i64 ((i : Int) + 1) = ((i + 1 : Nat) : Int) := by rw [Zj (by omega) (by omega)]; omega
  have hsn : ∀ y, y = wtV aB aC aA aH a1 i → Yak i (cI (wtV aB aC aA aH a1)) ++ [[.d (.int .i64 y)]] = Yak (i + 1) (cI (wtV aB aC aA aH a1)) := fun y hy => by
   rw [← YaX, hy]
  have hgd : (Yak i (cI (wtV aB aC aA aH a1))).length + 1 ≤ ZN := by rw [Yab]; omega
  simp only [Y0.l0, atR, rdQ, Q.ask]
  rw [ZQ (show (i : Int) < (a1.length : Int) by omega)]
  simp (disch := omega) only [cond_true, Y6.row g4, ZY, Zaj, Za7, Zad, Z6, YR.fv e0 e1 e2 hk, YJ.fv g1 g2 g3 e0 e1 e2 hk, YE.fv g1 g2 g3 e0 hk, hw1, List.length_cons, List.length_nil, Nat.zero_add]
  cases YR.v (gS a1 (i : Int) 0) (gL a1 (i : Int) 1) (gL a1 (i : Int) 2) (gI a1 (i : Int) 3)
  ·rfl
  simp only [Bool.not_true, cond_false, cond_true]
  cases hE : YJ.v aB aC aA aH (gS a1 (i : Int) 0) (gL a1 (i : Int) 1) (gL a1 (i : Int) 2) (gI a1 (i : Int) 3)
  ·simp only [cond_false]
   rw [ZaP hgd, hsn _ (by unfold wtV; rw [hE]; rfl)]
  ·simp only [cond_true]
   rw [ZaP hgd, hsn _ (by unfold wtV; rw [hE]; rfl)]
 ·simp only [Y0.l0, atR, rdQ, Q.ask]
  rw [ZV (show ¬ (a1.length : Int) < (a1.length : Int) by omega)]
  simp only [cond_false]
  rw [imm_rowF]
  rfl
set_option maxRecDepth 100000 in
theorem impl_weights {aB : Int} {aC aA aH a1 a2 : LD} (g1 : Zi Yaw lim aC) (g2 : Zi RS lim aA) (g3 : Zi RSI lim aH) (g4 : Zi Y6 lim a1) {k : Nat} (hk : Z3 k) {β : Type} (K : LC → Option β) :
  Zo (YV.l0 k a2 a1 (a1.length : Int) aB aC aA aH K) k (0, []) = Yr.f k aB (rowD a1.length fun j => .int .i64 (wtV aB aC aA aH a1 j)) a2 K := by
 have hb : big = 2 ^ 64 := rfl
 have hmost : ZN = 2 ^ 36 := rfl
 have hlim : lim = 1048576 := rfl
 have hlen := g4.1
 refine iter_seq (f := fun i => ((i : Int), Yak i (cI (wtV aB aC aA aH a1)))) (n := a1.length) (by unfold Z3 at hk; omega) (fun L i hi => ?_) (fun L => ?_)
 ·obtain ⟨_, e0, e1, e2, _⟩ := Y6.get g4 (v := (i : Int)) (by omega) (by omega)
  have hw1 : IntKind.wrap .i64 ((i : Int) + 1) = ((i + 1 : Nat) : Int) := by rw [Zj (by omega) (by omega)]; omega
  have hsn : ∀ y, y = wtV aB aC aA aH a1 i → Yak i (cI (wtV aB aC aA aH a1)) ++ [[.d (.int .i64 y)]] = Yak (i + 1) (cI (wtV aB aC aA aH a1)) := fun y hy => by
   rw [← YaX, hy]
  have hgd : (Yak i (cI (wtV aB aC aA aH a1))).length + 1 ≤ ZN := by rw [Yab]; omega
  have hE : ∀ {β : Type} (K : Bool → Option β), Yae.f k aB aC aA aH (gS a1 (i : Int) 0) (gL a1 (i : Int) 1) (gL a1 (i : Int) 2) (gI a1 (i : Int) 3) K = K (YJ.v aB aC aA aH (gS a1 (i : Int) 0) (gL a1 (i : Int) 1) (gL a1 (i : Int) 2) (gI a1 (i : Int) 3)) := fun K => Yae.f_of (by rw [Yae.same g1 g2 g3 e0 e1 e2 hk, YJ.tv g1 g2 g3 e0 e1 e2 hk]) K
  have hW : ∀ {β : Type} (K : Int → Option β), YU.f k aB aC aA aH (gS a1 (i : Int) 0) K = K (YE.v aB aC aA aH (gS a1 (i : Int) 0)) := fun K => YU.f_of (by rw [YU.same g1 g2 g3 e0 hk, YE.tv g1 g2 g3 e0 hk]) K
  simp only [YV.l0, atR, rdQ, Q.ask]
  rw [ZQ (show (i : Int) < (a1.length : Int) by omega)]
  simp (disch := omega) only [cond_true, Y6.row g4, ZY, Zaj, Za7, Zad, Z6, hE, hW, hw1, List.length_cons, List.length_nil, Nat.zero_add]
  cases hE : YJ.v aB aC aA aH (gS a1 (i : Int) 0) (gL a1 (i : Int) 1) (gL a1 (i : Int) 2) (gI a1 (i : Int) 3)
  ·simp only [cond_false]
   rw [ZaP hgd, hsn _ (by unfold wtV; rw [hE]; rfl)]
  ·simp only [cond_true]
   rw [ZaP hgd, hsn _ (by unfold wtV; rw [hE]; rfl)]
 ·simp only [YV.l0, atR, rdQ, Q.ask]
  rw [ZV (show ¬ (a1.length : Int) < (a1.length : Int) by omega)]
  simp only [cond_false]
  rw [imm_rowF]
  rfl
theorem wt_row {aB : Int} {aC aA aH a1 : LD} (g1 : Zi Yaw lim aC) (g2 : Zi RS lim aA) (g3 : Zi RSI lim aH) (g4 : Zi Y6 lim a1) : Zi RI lim (rowD a1.length fun j => .int .i64 (wtV aB aC aA aH a1 j)) := by
 refine ⟨by rw [YaN]; exact g4.1, fun r hr => ?_⟩
 obtain ⟨j, hj, rfl⟩ := List.mem_map.mp hr
 have hj := List.mem_range.mp hj
 obtain ⟨_, e0, _⟩ := Y6.get g4 (v := (j : Int)) (by omega) (by omega)
 refine ⟨_, rfl, ?_, trivial⟩
 unfold wtV
 cases YJ.v aB aC aA aH (gS a1 (j : Int) 0) (gL a1 (j : Int) 1) (gL a1 (j : Int) 2) (gI a1 (j : Int) 3)
 ·rfl
 ·exact weight_wf g1 g2 g3 e0
noncomputable def okS (aB : Int) (aC aA aH a1 a2 : LD) : Bool := YC.v aB aC aA aH && (decide (a1.length ≤ 12) && (decide (a2.length = a1.length) && ((List.range a1.length).all (fun i => YR.v (gS a1 (i : Int) 0) (gL a1 (i : Int) 1) (gL a1 (i : Int) 2) (gI a1 (i : Int) 3)) && (List.range a2.length).all fun i => inB (gI a2 (i : Int) 0) 0 10000)))
set_option maxRecDepth 100000 in
theorem want_facts {aB : Int} {aC aA aH : LD} (g1 : Zi Yaw lim aC) (g2 : Zi RS lim aA) (g3 : Zi RSI lim aH) (h : YC.v aB aC aA aH = true) : inB aB 0 10000 = true ∧ ∀ i, i < aH.length → inB (gI aH (i : Int) 1) 0 1000 = true := by
 have hb : big = 2 ^ 64 := rfl
 have hlim : lim = 1048576 := rfl
 have hlen := g3.1
 have hk : Z3 big := Nat.le_refl _
 have ht := YC.tv (aB := aB) g1 g2 g3 hk
 rw [h] at ht
 unfold YC.t YC.g at ht
 rw [Zb6 (n := aH.length) (fun i => Yn.v (gS aH (i : Int) 0) && inB (gI aH (i : Int) 1) 0 1000 && (!decide ((i : Int) > 0) || ZbO (gS aH ((i : Int) - 1) 0) (gS aH (i : Int) 0))) (r1 := some false) (r2 := bif inB aB 0 10000 then (Ys.f big aC fun y78 => bif y78 then (YQ.f big aA 8 fun y79 => bif y79 then some (decide ((aH.length : Int) ≤ 12)) else some false) else some false) else some false) (by omega)] at ht
 ·cases hA : (List.range aH.length).all (fun i => Yn.v (gS aH (i : Int) 0) && inB (gI aH (i : Int) 1) 0 1000 && (!decide ((i : Int) > 0) || ZbO (gS aH ((i : Int) - 1) 0) (gS aH (i : Int) 0))) with
  | false => rw [hA] at ht; cases ht
  | true =>
   rw [hA] at ht
   cases hB : inB aB 0 10000 with
   | false => rw [hB] at ht; cases ht
   | true =>
    refine ⟨rfl, fun i hi => ?_⟩
    have := List.all_eq_true.mp hA i (List.mem_range.mpr hi)
    simp only [Bool.and_eq_true] at this
    exact this.1.2
 ·intro L i hi
  obtain ⟨_, e0, _⟩ := RSI.get g3 (v := (i : Int)) (by omega) (by omega)
  simp (disch := omega) only [YC.l0, atR, rdQ, Q.ask, ZQ (show (i : Int) < aH.length by omega), cond_true, RSI.row g3, ZY, Zaj, Zad, Z6, l1In_fv, Yn.fv e0 hk, Zj]
  cases Yn.v (gS aH (i : Int) 0)
  ·rfl
  cases inB (gI aH (i : Int) 1) 0 1000
  ·rfl
  by_cases h0 : (i : Int) > 0
  ·rw [ZQ h0]
   simp (disch := omega) only [Bool.not_true, cond_false, cond_true, Bool.true_and, Bool.false_or, RSI.row g3, ZY, Zaj, Zad, Z6]
   cases ZbO (gS aH ((i : Int) - 1) 0) (gS aH (i : Int) 0) <;> rfl
  ·rw [ZV h0]
   rfl
 ·intro L
  simp only [YC.l0, atR, rdQ, Q.ask]
  rw [ZV (show ¬ (aH.length : Int) < (aH.length : Int) by omega)]
  simp only [cond_false, l1In_fv]
theorem gI_rowD {L : Nat} {f : Nat → Int} {i : Nat} (h : i < L) : gI (rowD L fun j => .int .i64 (f j)) (i : Int) 0 = f i := by
 simp only [gI, gR, rowD, Int.toNat_natCast, List.getD, List.getElem?_map, List.getElem?_range h, Option.map_some, Option.getD_some]
 rfl
set_option maxRecDepth 100000 in
theorem wt_in {aB : Int} {aC aA aH a1 : LD} (g1 : Zi Yaw lim aC) (g2 : Zi RS lim aA) (g3 : Zi RSI lim aH) (g4 : Zi Y6 lim a1) (h : YC.v aB aC aA aH = true) {i : Nat} (hi : i < a1.length) : inB (wtV aB aC aA aH a1 i) 0 1000 = true := by
 have hb : big = 2 ^ 64 := rfl
 have hlim : lim = 1048576 := rfl
 have hlen := g3.1
 have hk : Z3 big := Nat.le_refl _
 obtain ⟨_, e0, _⟩ := Y6.get g4 (v := (i : Int)) (by omega) (by omega)
 obtain ⟨_, hW⟩ := want_facts g1 g2 g3 h
 unfold wtV
 cases YJ.v aB aC aA aH (gS a1 (i : Int) 0) (gL a1 (i : Int) 1) (gL a1 (i : Int) 2) (gI a1 (i : Int) 3)
 ·rfl
 simp only [cond_true]
 generalize gS a1 (i : Int) 0 = nm at e0 ⊢
 have h : ∃ y, inB y 0 1000 = true ∧ YE.t big aB aC aA aH nm = some y := by
  unfold YE.t YE.g
  rw [iter_find (n := aH.length) (fun i => Zae (gS aH (i : Int) 0) nm) (r1 := fun i => some (gI aH (i : Int) 1)) (r2 := some 1) (by omega)]
  ·cases hf : (List.range aH.length).find? fun i : Nat => Zae (gS aH (i : Int) 0) nm with
   | none => exact ⟨1, by decide, rfl⟩
   | some i => exact ⟨_, hW i (List.mem_range.mp (List.mem_of_find?_eq_some hf)), rfl⟩
  ·intro L i hi
   simp (disch := omega) only [YE.l0, atR, rdQ, Q.ask, ZQ (show (i : Int) < aH.length by omega), cond_true, RSI.row g3, ZY, Zaj, Zad, Z6, Zj]
  ·intro L
   simp [YE.l0, atR, rdQ, Q.ask]
 obtain ⟨y, h1, h2⟩ := h
 rw [YE.tv g1 g2 g3 e0 hk] at h2
 injection h2 with h2
 rw [h2]
 exact h1
theorem okS_right {aB : Int} {aC aA aH a1 a2 : LD} (g1 : Zi Yaw lim aC) (g2 : Zi RS lim aA) (g3 : Zi RSI lim aH) (g4 : Zi Y6 lim a1) (h : okS aB aC aA aH a1 a2 = true) : YaY aB (rowD a1.length fun j => .int .i64 (wtV aB aC aA aH a1 j)) a2 = true := by
 unfold okS at h
 simp only [Bool.and_eq_true, decide_eq_true_eq, List.all_eq_true, List.mem_range] at h
 obtain ⟨hW, h1, h2, _, h4⟩ := h
 have hn := (want_facts g1 g2 g3 hW).1
 unfold YaY
 rw [hn, YaN, ZQ (show a1.length ≤ 64 by omega), ZQ h2.symm]
 simp only [Bool.true_and]
 refine List.all_eq_true.mpr fun i hi => ?_
 have hi := List.mem_range.mp hi
 rw [gI_rowD hi, wt_in g1 g2 g3 g4 hW hi, h4 i (by omega)]
 rfl
set_option maxRecDepth 100000 in
theorem YaL {aB : Int} {aC aA aH a1 a2 : LD} (g1 : Zi Yaw lim aC) (g2 : Zi RS lim aA) (g3 : Zi RSI lim aH) (g4 : Zi Y6 lim a1) (g5 : Zi RI lim a2) {k : Nat} (hk : Z3 k) {β : Type} (K : Bool → Option β) :
  Yas.f k aB aC aA aH a1 a2 K = K (okS aB aC aA aH a1 a2) := Yas.f_of (by
 unfold okS
 have hb : big = 2 ^ 64 := rfl
 have hlen := g4.1
 have hlen2 := g5.1
 have hlim : lim = 1048576 := rfl
 have c1 : ∀ {β : Type} (K : Bool → Option β), Yp.f k a1 K = K (!(List.range a1.length).all fun i => YR.v (gS a1 (i : Int) 0) (gL a1 (i : Int) 1) (gL a1 (i : Int) 2) (gI a1 (i : Int) 3)) := fun K => Yp.f_of (by
  unfold Yp.t Yp.g
  have hf : ∀ {β : Type} (K : Int → Option β), Ye.f k a1 K = K (Zbo (fun i => !YR.v (gS a1 (i : Int) 0) (gL a1 (i : Int) 1) (gL a1 (i : Int) 2) (gI a1 (i : Int) 3)) a1.length) := fun K => Ye.f_of (by
   unfold Ye.t Ye.g
   refine iter_findI (n := a1.length) _ some (by unfold Z3 at hk; omega) (fun L i hi => ?_) (fun L => by simp [Ye.l0, atR, rdQ, Q.ask])
   obtain ⟨_, e0, e1, e2, _⟩ := Y6.get g4 (v := (i : Int)) (by omega) (by omega)
   have hs : ∀ {β : Type} (K : Bool → Option β), Yar.f k (gS a1 (i : Int) 0) (gL a1 (i : Int) 1) (gL a1 (i : Int) 2) (gI a1 (i : Int) 3) K = K (!YR.v (gS a1 (i : Int) 0) (gL a1 (i : Int) 1) (gL a1 (i : Int) 2) (gI a1 (i : Int) 3)) := fun K => Yar.f_of (by
    unfold Yar.t Yar.g Yat.f
    rw [Yat.same e0 e1 e2 hk, YR.tv e0 e1 e2 hk]
    rfl) K
   simp (disch := omega) only [Ye.l0, atR, rdQ, Q.ask, ZQ (show (i : Int) < a1.length by omega), cond_true, Y6.row g4, ZY, Zaj, Za7, Zad, Z6, hs, Zj]) K
  rw [hf, findI_all]
  simp only [Bool.not_not]) K
 have c2 : ∀ {β : Type} (K : Bool → Option β), YH.f k a2 K = K (!(List.range a2.length).all fun i => inB (gI a2 (i : Int) 0) 0 10000) := fun K => YH.f_of (by
  unfold YH.t YH.g
  have hf : ∀ {β : Type} (K : Int → Option β), Yj.f k a2 K = K (Zbo (fun i => !inB (gI a2 (i : Int) 0) 0 10000) a2.length) := fun K => Yj.f_of (by
   unfold Yj.t Yj.g
   refine iter_findI (n := a2.length) _ some (by unfold Z3 at hk; omega) (fun L i hi => ?_) (fun L => by simp [Yj.l0, atR, rdQ, Q.ask])
   have hs : ∀ {β : Type} (K : Bool → Option β), Yaq.f k (gI a2 (i : Int) 0) K = K (!inB (gI a2 (i : Int) 0) 0 10000) := fun K => Yaq.f_of (by unfold Yaq.t Yaq.g; rw [isCopies_f]; rfl) K
   simp (disch := omega) only [Yj.l0, atR, rdQ, Q.ask, ZQ (show (i : Int) < a2.length by omega), cond_true, RI.row g5, ZY, Zad, Z6, hs, Zj]) K
  rw [hf, findI_all]
  simp only [Bool.not_not]) K
 unfold Yas.t Yas.g Yaa.f
 rw [Yaa.same g1 g2 g3 hk, YC.tv g1 g2 g3 hk]
 show (bif YC.v aB aC aA aH then _ else _) = _
 cases YC.v aB aC aA aH
 ·rfl
 simp only [cond_true, Bool.true_and]
 by_cases h1 : a1.length ≤ 12
 case neg =>
  rw [ZV (show ¬ (a1.length : Int) ≤ 12 by omega), ZV h1]
  rfl
 rw [ZQ (show (a1.length : Int) ≤ 12 by omega), ZQ h1]
 simp only [cond_true, Bool.true_and]
 by_cases h2 : a2.length = a1.length
 case neg =>
  rw [show ((a2.length : Int) == (a1.length : Int)) = false from beq_eq_false_iff_ne.mpr (by omega), ZV h2]
  rfl
 rw [show ((a2.length : Int) == (a1.length : Int)) = true from beq_iff_eq.mpr (by omega), ZQ h2, c1, c2]
 simp only [cond_true, Bool.true_and, Bool.not_not]
 cases (List.range a1.length).all fun i => YR.v (gS a1 (i : Int) 0) (gL a1 (i : Int) 1) (gL a1 (i : Int) 2) (gI a1 (i : Int) 3) <;> rfl) K
theorem shares_fv {aB : Int} {aC aA aH a1 a2 : LD} (g1 : Zi Yaw lim aC) (g2 : Zi RS lim aA) (g3 : Zi RSI lim aH) (g4 : Zi Y6 lim a1) (g5 : Zi RI lim a2) :
  ∃ r : LC, (r = [] ∨ ∃ o : Nat → Int, r = Yak a1.length (cI o) ∧ ∀ i, i < a1.length → 0 ≤ o i ∧ o i ≤ 10000) ∧ (okS aB aC aA aH a1 a2 = false → r = []) ∧ (okS aB aC aA aH a1 a2 = true → r.length = a1.length) ∧ ∀ {k : Nat}, Z3 k → Y0.t k aB aC aA aH a1 a2 = some r ∧ YV.t k aB aC aA aH a1 a2 = some r := by
 have hbad : (YC.v aB aC aA aH && (decide (a1.length ≤ 12) && decide (a2.length = a1.length))) = false → ∀ {k : Nat}, Z3 k → Y0.t k aB aC aA aH a1 a2 = some [] ∧ YV.t k aB aC aA aH a1 a2 = some [] := fun h {k} hk => by
  constructor
  ·unfold Y0.t Y0.g Y0.m
   simp only [YC.fv g1 g2 g3 hk]
   cases hW : YC.v aB aC aA aH
   ·rfl
   rw [hW, Bool.true_and] at h
   simp only [Bool.not_true, cond_false]
   by_cases h1 : a1.length ≤ 12
   case neg =>
    rw [ZQ (show (a1.length : Int) > 12 by omega)]
    rfl
   rw [ZQ h1, Bool.true_and] at h
   have h2 := of_decide_eq_false h
   rw [ZV (show ¬ (a1.length : Int) > 12 by omega), show ((a2.length : Int) != (a1.length : Int)) = true from bne_iff_ne.mpr (by omega)]
   rfl
  ·unfold YV.t YV.g
   rw [YaL g1 g2 g3 g4 g5 hk]
   unfold okS
   rw [← Bool.and_assoc (decide (a1.length ≤ 12)), ← Bool.and_assoc (YC.v aB aC aA aH), h]
   rfl
 cases hc : (YC.v aB aC aA aH && (decide (a1.length ≤ 12) && decide (a2.length = a1.length))) with
 | false =>
  have hk0 : okS aB aC aA aH a1 a2 = false := by
   unfold okS
   rw [← Bool.and_assoc (decide (a1.length ≤ 12)), ← Bool.and_assoc (YC.v aB aC aA aH), hc]
   rfl
  exact ⟨[], .inl rfl, fun _ => rfl, fun h => by (rw [hk0] at h; cases h), hbad hc⟩
 | true =>
  have hc' := hc
  simp only [Bool.and_eq_true, decide_eq_true_eq] at hc'
  obtain ⟨hW, h1, h2⟩ := hc'
  have hspec : ∀ {k : Nat}, Z3 k → Y0.t k aB aC aA aH a1 a2 = Zo (Y0.l0 k a1 a2 aB aC aA aH some) k (0, []) := fun {k} hk => by
   unfold Y0.t Y0.g Y0.m
   simp only [YC.fv g1 g2 g3 hk, hW, Bool.not_true, cond_false]
   rw [ZV (show ¬ (a1.length : Int) > 12 by omega), show ((a2.length : Int) != (a1.length : Int)) = false from bne_eq_false_iff_eq.mpr (by omega)]
   rfl
  cases hI : (List.range a1.length).all (fun i => YR.v (gS a1 (i : Int) 0) (gL a1 (i : Int) 1) (gL a1 (i : Int) 2) (gI a1 (i : Int) 3)) with
  | false =>
   have hk0 : okS aB aC aA aH a1 a2 = false := by
    unfold okS
    rw [hI]
    simp only [Bool.false_and, Bool.and_false]
   refine ⟨[], .inl rfl, fun _ => rfl, fun h => by (rw [hk0] at h; cases h), fun {k} hk => ⟨?_, ?_⟩⟩
   ·rw [hspec hk, spec_weights g1 g2 g3 g4 hk, hI]
    rfl
   ·unfold YV.t YV.g
    rw [YaL g1 g2 g3 g4 g5 hk, hk0]
    rfl
  | true =>
   obtain ⟨r, hr, hR, hR2, hd⟩ := div_fv (n := aB) (wt_row (aB := aB) g1 g2 g3 g4) g5 (by rw [YaN]; omega)
   rw [YaN] at hr hR2
   have hsp : ∀ {k : Nat}, Z3 k → Y0.t k aB aC aA aH a1 a2 = some r := fun {k} hk => by
    rw [hspec hk, spec_weights g1 g2 g3 g4 hk, hI]
    exact (hd hk some).1
   cases hL : (List.range a2.length).all (fun i => inB (gI a2 (i : Int) 0) 0 10000) with
   | false =>
    have hr0 : r = [] := hR (by
     unfold YaY
     rw [YaN, ← h2, all_both, hL]
     simp)
    have hk0 : okS aB aC aA aH a1 a2 = false := by
     unfold okS
     rw [hL]
     simp only [Bool.and_false]
    refine ⟨r, hr, fun _ => hr0, fun h => by (rw [hk0] at h; cases h), fun {k} hk => ⟨hsp hk, ?_⟩⟩
    unfold YV.t YV.g
    rw [YaL g1 g2 g3 g4 g5 hk, hk0, hr0]
    rfl
   | true =>
    have hk0 : okS aB aC aA aH a1 a2 = true := by
     unfold okS
     rw [hL, hI, hW, ZQ h1, ZQ h2]
     rfl
    refine ⟨r, hr, fun h => by (rw [hk0] at h; cases h), fun _ => hR2 (okS_right g1 g2 g3 g4 hk0), fun {k} hk => ⟨hsp hk, ?_⟩⟩
    unfold YV.t YV.g
    rw [YaL g1 g2 g3 g4 g5 hk, hk0]
    simp only [Bool.not_true, cond_false]
    rw [impl_weights g1 g2 g3 g4 hk]
    exact (hd hk some).2
theorem YI.f_of {β : Type} {k a0 a1 z0} (h : YI.t k a0 a1 = some z0) (K : LC → Option β) : YI.f k a0 a1 K = K z0 := by unfold YI.f; rw [h]; rfl
def YO (B : Nat) (r : List D) : Prop := ∃ (c0 : Int) (c1 : LD) (c2 : LD) (c3 : LD), r = [.int .i64 c0, .sl c1, .sl c2, .sl c3] ∧ (Lit.int .i64 c0).wf = true ∧ Zi Yaw B c1 ∧ Zi RS B c2 ∧ Zi RSI B c3 ∧ True
theorem YO.open {B : Nat} {r : List D} (h : YO B r) : ∃ (c0 : Int) (c1 : LD) (c2 : LD) (c3 : LD), r = [.int .i64 c0, .sl c1, .sl c2, .sl c3] ∧ (Lit.int .i64 c0).wf = true ∧ Zi Yaw B c1 ∧ Zi RS B c2 ∧ Zi RSI B c3 ∧ True := h
theorem YO.mono {B B' : Nat} (hb : B ≤ B') {r : List D} (h : YO B r) : YO B' r := by
 obtain ⟨c0, c1, c2, c3, rfl, k0, k1, k2, k3, _⟩ := h
 exact ⟨_, _, _, _, rfl, k0, ⟨Nat.le_trans k1.1 hb, fun r hr => (k1.2 r hr).mono hb⟩, ⟨Nat.le_trans k2.1 hb, fun r hr => (k2.2 r hr).mono hb⟩, ⟨Nat.le_trans k3.1 hb, fun r hr => (k3.2 r hr).mono hb⟩, trivial⟩
theorem YO.wide {xs : LD} (h : Zi YO lim xs) : Zi YO 2097152 xs := ⟨Nat.le_trans h.1 (by decide), fun r hr => (h.2 r hr).mono (by decide)⟩
theorem YO.len {B : Nat} {r : List D} (h : YO B r) : r.length = 4 := by
 obtain ⟨c0, c1, c2, c3, rfl, _⟩ := h.open
 rfl
theorem YO.gets {B : Nat} {xs : LD} (h : ∀ r ∈ xs, YO B r) {v : Int} (h0 : 0 ≤ v) (h1 : v < xs.length) : gR xs v = [.int .i64 (gI xs v 0), .sl (gL xs v 1), .sl (gL xs v 2), .sl (gL xs v 3)] ∧ (Lit.int .i64 (gI xs v 0)).wf = true ∧ Zi Yaw B (gL xs v 1) ∧ Zi RS B (gL xs v 2) ∧ Zi RSI B (gL xs v 3) ∧ True := by
 obtain ⟨c0, c1, c2, c3, e, k0, k1, k2, k3, _⟩ := (h (gR xs v) (gR_mem h0 h1)).open
 unfold gI gL
 rw [e]
 exact ⟨rfl, k0, k1, k2, k3, trivial⟩
theorem YO.rows {B : Nat} {xs : LD} (h : ∀ r ∈ xs, YO B r) {v : Int} (h0 : 0 ≤ v) (h1 : v < xs.length) {β : Type} (F : List D → Option β) : Zbw xs v F = F [.int .i64 (gI xs v 0), .sl (gL xs v 1), .sl (gL xs v 2), .sl (gL xs v 3)] := by
 rw [← (YO.gets h h0 h1).1]
 exact Zbp h0 h1 F
theorem YO.get {B : Nat} {xs : LD} (h : Zi YO B xs) {v : Int} (h0 : 0 ≤ v) (h1 : v < xs.length) : gR xs v = [.int .i64 (gI xs v 0), .sl (gL xs v 1), .sl (gL xs v 2), .sl (gL xs v 3)] ∧ (Lit.int .i64 (gI xs v 0)).wf = true ∧ Zi Yaw B (gL xs v 1) ∧ Zi RS B (gL xs v 2) ∧ Zi RSI B (gL xs v 3) ∧ True := YO.gets h.2 h0 h1
theorem YO.row {B : Nat} {xs : LD} (h : Zi YO B xs) {v : Int} (h0 : 0 ≤ v) (h1 : v < xs.length) {β : Type} (F : List D → Option β) : Zbw xs v F = F [.int .i64 (gI xs v 0), .sl (gL xs v 1), .sl (gL xs v 2), .sl (gL xs v 3)] := YO.rows h.2 h0 h1 F
def accOk (n : Nat) (acc : LC) : Prop := ∀ x ∈ acc, ∃ s : Nat → Int, x = [.own (Yak n (cI s))] ∧ ∀ i, i < n → 0 ≤ s i ∧ s i ≤ 10000
theorem rowD_ok {n : Nat} {o : Nat → Int} (hn : n ≤ lim) (h : ∀ j, j < n → (Lit.int .i64 (o j)).wf = true) : Zi RI lim (rowD n fun j => .int .i64 (o j)) := by
 refine ⟨by rw [YaN]; exact hn, fun r hr => ?_⟩
 obtain ⟨j, hj, rfl⟩ := List.mem_map.mp hr
 exact ⟨_, rfl, h j (List.mem_range.mp hj), trivial⟩
theorem imm_cI (n : Nat) (o : Nat → Int) : C.immRows (Yak n (cI o)) = rowD n fun j => .int .i64 (o j) := imm_rowF n (cI o)
theorem acc_back {n : Nat} : ∀ {r : LC}, accOk n r → Zb (C.immRows r) = r
 | [], _ => rfl
 | x :: r, h => by
  obtain ⟨s, rfl, _⟩ := h x (by simp)
  have ih := acc_back (n := n) (r := r) fun y hy => h y (by simp [hy])
  simp only [C.immRows, C.immCells, C.imm, Zb, ZZ, ZbW, ih, imm_cI, deep_rowI]
theorem sub_mod {n i : Nat} (hi : i < n) {o s : Nat → Int} : ((Yak n (cI fun j => if j < i then o j - s j else o j)).modify i fun z => Zq z 0 [.d (.int .i64 (o i - s i))]) = Yak n (cI fun j => if j < i + 1 then o j - s j else o j) := by
 rw [YaV hi]
 refine YaF fun j hj => ?_
 show (if j = i then C.d (.int .i64 (o i - s i)) else C.d (.int .i64 (if j < i then o j - s j else o j))) = C.d (.int .i64 (if j < i + 1 then o j - s j else o j))
 by_cases hji : j = i
 ·subst hji
  rw [if_pos rfl, if_pos (by omega : j < j + 1)]
 ·rw [if_neg hji, YaW (p := j < i + 1) (q := j < i) (by omega) rfl]
theorem spec_sub {n : Nat} (hn : n ≤ lim) {a0 a1 : LD} {i : Int} {acc : LC} {o s : Nat → Int} (ho : ∀ j, j < n → 0 ≤ o j ∧ o j ≤ 10000) (hs : ∀ j, j < n → 0 ≤ s j ∧ s j ≤ 10000) (ha : acc.length ≤ lim) {k : Nat} (hk : Z3 k) {β : Type} {L1 : (LD × LD × Int × LC × LC) → Option β} {K : LC → Option β} :
  Zo (YI.l2 k a0 a1 i acc (Yak n (cI s)) L1 K) k (0, Yak n (cI o)) = L1 (a0, a1, IntKind.wrap .i64 (i + 1), acc ++ [[.own (Yak n (cI s))]], Yak n (cI fun j => o j - s j)) := by
 have hb : big = 2 ^ 64 := rfl
 have hmost : ZN = 2 ^ 36 := rfl
 have hlim : lim = 1048576 := rfl
 have hst : Yak n (cI o) = Yak n (cI fun j => if j < 0 then o j - s j else o j) := YaF fun j hj => by simp
 rw [hst]
 refine iter_seq (f := fun t => ((t : Int), Yak n (cI fun j => if j < t then o j - s j else o j))) (n := n) (by unfold Z3 at hk; omega) (fun M t ht => ?_) (fun M => ?_)
 ·have := ho t ht
  have := hs t ht
  have hw1 : IntKind.wrap .i64 ((t : Int) + 1) = ((t + 1 : Nat) : Int) := by rw [Zj (by omega) (by omega)]; omega
  have hw2 : IntKind.wrap .i64 (o t - s t) = o t - s t := Zj (by omega) (by omega)
  have hat : (if t < t then o t - s t else o t) = o t := if_neg (by omega)
  simp only [YI.l2, Yab]
  rw [ZQ (show (t : Int) < (n : Int) by omega)]
  simp only [cond_true]
  rw [ZaP ⟨by omega, by omega⟩, Int.toNat_natCast, YaH ht]
  simp only [List.drop_zero, ZY, cD_at, Zad, hat]
  rw [ZaP ⟨by omega, by omega⟩, YaH ht]
  simp only [List.drop_zero, ZY, cD_at, Zad]
  rw [ZaP ⟨by omega, by omega⟩, ZaP ht, hw1, hw2, sub_mod ht]
 ·simp only [YI.l2, Yab]
  rw [ZV (show ¬ (n : Int) < (n : Int) by omega)]
  simp only [cond_false]
  rw [ZaP (by simp only [List.length_cons, List.length_nil]; omega), YaF (g := cI fun j => if j < n then o j - s j else o j) (h := cI fun j => o j - s j) fun j hj => by show C.d (.int .i64 (if j < n then o j - s j else o j)) = C.d (.int .i64 (o j - s j)); rw [if_pos hj]]
theorem impl_sub {n : Nat} (hn : n ≤ lim) {a0 a1 : LD} {i w : Int} {acc : LC} {o s : Nat → Int} (ho : ∀ j, j < n → 0 ≤ o j ∧ o j ≤ 10000) (hs : ∀ j, j < n → 0 ≤ s j ∧ s j ≤ 10000) (ha : acc.length ≤ lim) {k : Nat} (hk : Z3 k) {β : Type} {L1 : (LD × LD × Int × Int × LC × LC) → Option β} {K : LC → Option β} :
  Zo (Yy.l2 k a1 a0 w i (n : Int) acc (Yak n (cI s)) L1 K) k (0, Yak n (cI o)) = L1 (a1, a0, w, IntKind.wrap .i64 (i + 1), acc ++ [[.own (Yak n (cI s))]], Yak n (cI fun j => o j - s j)) := by
 have hb : big = 2 ^ 64 := rfl
 have hmost : ZN = 2 ^ 36 := rfl
 have hlim : lim = 1048576 := rfl
 have hst : Yak n (cI o) = Yak n (cI fun j => if j < 0 then o j - s j else o j) := YaF fun j hj => by simp
 rw [hst]
 refine iter_seq (f := fun t => ((t : Int), Yak n (cI fun j => if j < t then o j - s j else o j))) (n := n) (by unfold Z3 at hk; omega) (fun M t ht => ?_) (fun M => ?_)
 ·have := ho t ht
  have := hs t ht
  have hw1 : IntKind.wrap .i64 ((t : Int) + 1) = ((t + 1 : Nat) : Int) := by rw [Zj (by omega) (by omega)]; omega
  have hw2 : IntKind.wrap .i64 (o t - s t) = o t - s t := Zj (by omega) (by omega)
  have hat : (if t < t then o t - s t else o t) = o t := if_neg (by omega)
  simp only [Yy.l2, Yab]
  rw [ZQ (show (t : Int) < (n : Int) by omega)]
  simp only [cond_true]
  rw [ZaP ⟨by omega, by omega⟩, Int.toNat_natCast, YaH ht]
  simp only [List.drop_zero, ZY, cD_at, Zad]
  rw [ZaP ⟨by omega, by omega⟩, YaH ht]
  simp only [List.drop_zero, ZY, cD_at, Zad, hat]
  rw [ZaP ⟨by omega, by omega⟩, ZaP ht, hw1, hw2, sub_mod ht]
 ·simp only [Yy.l2, Yab]
  rw [ZV (show ¬ (n : Int) < (n : Int) by omega)]
  simp only [cond_false]
  rw [ZaP (by simp only [List.length_cons, List.length_nil]; omega), YaF (g := cI fun j => if j < n then o j - s j else o j) (h := cI fun j => o j - s j) fun j hj => by show C.d (.int .i64 (if j < n then o j - s j else o j)) = C.d (.int .i64 (o j - s j)); rw [if_pos hj]]
set_option maxRecDepth 100000 in
theorem plans_rounds {a0 a1 : LD} (g0 : Zi YO lim a0) (g1 : Zi Y6 lim a1) (h40 : a0.length ≤ 40) : ∀ (m i : Nat), i + m = a0.length → ∀ (o : Nat → Int), (∀ j, j < a1.length → (Lit.int .i64 (o j)).wf = true) → ∀ acc, accOk a1.length acc → acc.length = i →
  ∃ r, accOk a1.length r ∧ r.length ≤ a0.length ∧ ∀ {k : Nat}, Z3 k → ∀ st, m < st → ∀ {β : Type} (K : LC → Option β),
   Zo (YI.l1 k K) st (a0, a1, (i : Int), acc, Yak a1.length (cI o)) = K r ∧ Zo (Yy.l1 k K) st (a1, a0, (a0.length : Int), (i : Int), acc, Yak a1.length (cI o)) = K r := by
 have hb : big = 2 ^ 64 := rfl
 have hlim : lim = 1048576 := rfl
 have hn := g1.1
 intro m
 induction m with
 | zero =>
  intro i hi o ho acc hacc hlen
  refine ⟨acc, hacc, by omega, fun {k} hk st hst {β} K => ⟨?_, ?_⟩⟩
  ·rw [iter_step hst]
   simp only [YI.l1, YI.m1, atR, rdQ, Q.ask]
   rw [ZV (show ¬ (i : Int) < (a0.length : Int) by omega)]
   rfl
  ·rw [iter_step hst]
   simp only [Yy.l1, Yy.m1, atR, rdQ, Q.ask]
   rw [ZV (show ¬ (i : Int) < (a0.length : Int) by omega)]
   rfl
 | succ m ih =>
  intro i hi o ho acc hacc hlen
  obtain ⟨_, _, e1, e2, e3, _⟩ := YO.get g0 (v := (i : Int)) (by omega) (by omega)
  have g5 := rowD_ok hn ho
  obtain ⟨r, hr, hF, hT, hs⟩ := shares_fv (aB := gI a0 (i : Int) 0) e1 e2 e3 g1 g5
  have hS : ∀ {k : Nat}, Z3 k → ∀ {β : Type} (K : LC → Option β), Y0.f k (gI a0 (i : Int) 0) (gL a0 (i : Int) 1) (gL a0 (i : Int) 2) (gL a0 (i : Int) 3) a1 (rowD a1.length fun j => .int .i64 (o j)) K = K r := fun {k} hk {β} K => Y0.f_of (hs hk).1 K
  have hI : ∀ {k : Nat}, Z3 k → ∀ {β : Type} (K : LC → Option β), YV.f k (gI a0 (i : Int) 0) (gL a0 (i : Int) 1) (gL a0 (i : Int) 2) (gL a0 (i : Int) 3) a1 (rowD a1.length fun j => .int .i64 (o j)) K = K r := fun {k} hk {β} K => YV.f_of (hs hk).2 K
  cases hok : okS (gI a0 (i : Int) 0) (gL a0 (i : Int) 1) (gL a0 (i : Int) 2) (gL a0 (i : Int) 3) a1 (rowD a1.length fun j => .int .i64 (o j)) with
  | false =>
   have hr0 := hF hok
   refine ⟨[], fun x hx => (by cases hx), Nat.zero_le _, fun {k} hk st hst {β} K => ⟨?_, ?_⟩⟩
   ·rw [iter_step (by omega)]
    simp only [YI.l1, YI.m1, atR, rdQ, Q.ask]
    rw [ZQ (show (i : Int) < (a0.length : Int) by omega)]
    simp (disch := omega) only [cond_true, YO.row g0, ZY, Zad, Za7, Z6, imm_cI, hS hk, YC.fv e1 e2 e3 hk]
    rw [ZV (show ¬ (a0.length : Int) > 40 by omega)]
    simp only [cond_false]
    cases hW : YC.v (gI a0 (i : Int) 0) (gL a0 (i : Int) 1) (gL a0 (i : Int) 2) (gL a0 (i : Int) 3) with
    | false => rfl
    | true =>
     simp only [Bool.not_true, cond_false]
     have hne : a1.length ≠ 0 := fun h0 => by
      unfold okS at hok
      rw [hW, YaN, h0] at hok
      simp at hok
     rw [hr0, show ((([] : LC).length : Int) != (a1.length : Int)) = true from bne_iff_ne.mpr (by simp only [List.length_nil]; omega)]
     rfl
   ·rw [iter_step (by omega)]
    simp only [Yy.l1, Yy.m1, atR, rdQ, Q.ask]
    rw [ZQ (show (i : Int) < (a0.length : Int) by omega)]
    simp (disch := omega) only [cond_true, YO.row g0, ZY, Zad, Za7, Z6, imm_cI, YaL e1 e2 e3 g1 g5 hk, hok, Bool.not_false]
  | true =>
   have hrl := hT hok
   have hok' := hok
   unfold okS at hok'
   simp only [Bool.and_eq_true, decide_eq_true_eq, List.all_eq_true, List.mem_range] at hok'
   obtain ⟨hW, h12, _, _, hL⟩ := hok'
   have ho2 : ∀ j, j < a1.length → 0 ≤ o j ∧ o j ≤ 10000 := fun j hj => by
    have := hL j (by rw [YaN]; exact hj)
    rw [gI_rowD hj] at this
    simpa [inB] using this
   obtain ⟨s, rfl, hsb⟩ : ∃ s : Nat → Int, r = Yak a1.length (cI s) ∧ ∀ j, j < a1.length → 0 ≤ s j ∧ s j ≤ 10000 := by
    rcases hr with rfl | ⟨s, rfl, h⟩
    ·refine ⟨fun _ => 0, ?_, fun _ _ => ⟨Int.le_refl 0, (by decide : (0 : Int) ≤ 10000)⟩⟩
     have : a1.length = 0 := hrl.symm
     rw [this]
     rfl
    ·exact ⟨s, rfl, h⟩
   obtain ⟨r2, h1, h2, h3⟩ := ih (i + 1) (by omega) (fun j => o j - s j) (fun j hj => by have := ho2 j hj; have := hsb j hj; exact wf_mk (by omega) (by omega)) (acc ++ [[.own (Yak a1.length (cI s))]]) (fun x hx => by
    rcases List.mem_append.mp hx with h | h
    ·exact hacc x h
    ·rw [List.mem_singleton] at h; exact ⟨s, h, hsb⟩) (by simp [hlen])
   have hw1 : IntKind.wrap .i64 ((i : Int) + 1) = ((i + 1 : Nat) : Int) := by rw [Zj (by omega) (by omega)]; omega
   refine ⟨r2, h1, h2, fun {k} hk st hst {β} K => ⟨?_, ?_⟩⟩
   ·rw [iter_step (by omega)]
    simp only [YI.l1, YI.m1, atR, rdQ, Q.ask]
    rw [ZQ (show (i : Int) < (a0.length : Int) by omega)]
    simp (disch := omega) only [cond_true, YO.row g0, ZY, Zad, Za7, Z6, imm_cI, hS hk, YC.fv e1 e2 e3 hk, hW, Bool.not_true, cond_false, Yab, bne_self_eq_false]
    rw [ZV (show ¬ (a0.length : Int) > 40 by omega)]
    simp only [cond_false]
    rw [spec_sub hn ho2 hsb (by omega) hk, hw1]
    exact (h3 hk (st - 1) (by omega) K).1
   ·rw [iter_step (by omega)]
    simp only [Yy.l1, Yy.m1, atR, rdQ, Q.ask]
    rw [ZQ (show (i : Int) < (a0.length : Int) by omega)]
    simp (disch := omega) only [cond_true, YO.row g0, ZY, Zad, Za7, Z6, imm_cI, YaL e1 e2 e3 g1 g5 hk, hI hk, hok, Bool.not_true, cond_false, Yab]
    rw [impl_sub hn ho2 hsb (by omega) hk, hw1]
    exact (h3 hk (st - 1) (by omega) K).2
set_option maxRecDepth 100000 in
theorem plans_fv {a0 a1 : LD} (g0 : Zi YO lim a0) (g1 : Zi Y6 lim a1) : ∃ r, accOk a1.length r ∧ r.length ≤ a0.length ∧ ∀ {k : Nat}, Z3 k → YI.t k a0 a1 = some r ∧ Yy.t k a0 a1 = some r := by
 have hb : big = 2 ^ 64 := rfl
 have hmost : ZN = 2 ^ 36 := rfl
 have hlim : lim = 1048576 := rfl
 have hn := g1.1
 have hn0 := g0.1
 have ho : ∀ j, j < a1.length → (Lit.int .i64 (gI a1 (j : Int) 3)).wf = true := fun j hj => (Y6.get g1 (v := (j : Int)) (by omega) (by omega)).2.2.2.2.1
 have hstS : ∀ {k : Nat}, Z3 k → YI.t k a0 a1 = Zo (YI.l1 k some) k (a0, a1, ((0 : Nat) : Int), [], Yak a1.length (cI fun j => gI a1 (j : Int) 3)) := fun {k} hk => by
  unfold YI.t YI.g
  refine iter_seq (f := fun i => ((i : Int), Yak i (cI fun j => gI a1 (j : Int) 3))) (n := a1.length) (by unfold Z3 at hk; omega) (fun L i hi => ?_) (fun L => ?_)
  ·have hw1 : IntKind.wrap .i64 ((i : Int) + 1) = ((i + 1 : Nat) : Int) := by rw [Zj (by omega) (by omega)]; omega
   simp only [YI.l0, YI.m0, atR, rdQ, Q.ask]
   rw [ZQ (show (i : Int) < (a1.length : Int) by omega)]
   simp (disch := omega) only [cond_true, Y6.row g1, ZY, Zaj, Za7, Zad, Z6, hw1]
   rw [ZaP (by simp only [Yab, List.length_cons, List.length_nil]; omega), ← YaX]
  ·simp only [YI.l0, YI.m0, atR, rdQ, Q.ask]
   rw [ZV (show ¬ (a1.length : Int) < (a1.length : Int) by omega)]
   rfl
 have hstI : ∀ {k : Nat}, Z3 k → Yy.t k a0 a1 = bif decide ((a0.length : Int) > 40) then some [] else Zo (Yy.l1 k some) k (a1, a0, (a0.length : Int), ((0 : Nat) : Int), [], Yak a1.length (cI fun j => gI a1 (j : Int) 3)) := fun {k} hk => by
  unfold Yy.t Yy.g
  refine iter_seq (f := fun i => ((i : Int), Yak i (cI fun j => gI a1 (j : Int) 3))) (n := a1.length) (by unfold Z3 at hk; omega) (fun L i hi => ?_) (fun L => ?_)
  ·have hw1 : IntKind.wrap .i64 ((i : Int) + 1) = ((i + 1 : Nat) : Int) := by rw [Zj (by omega) (by omega)]; omega
   simp only [Yy.l0, Yy.m0, atR, rdQ, Q.ask]
   rw [ZQ (show (i : Int) < (a1.length : Int) by omega)]
   simp (disch := omega) only [cond_true, Y6.row g1, ZY, Zaj, Za7, Zad, Z6, hw1]
   rw [ZaP (by simp only [Yab, List.length_cons, List.length_nil]; omega), ← YaX]
  ·simp only [Yy.l0, Yy.m0, atR, rdQ, Q.ask]
   rw [ZV (show ¬ (a1.length : Int) < (a1.length : Int) by omega)]
   rfl
 by_cases h40 : a0.length ≤ 40
 ·obtain ⟨r, h1, h2, h3⟩ := plans_rounds g0 g1 h40 a0.length 0 (by omega) _ ho [] (fun x hx => by cases hx) rfl
  refine ⟨r, h1, h2, fun {k} hk => ⟨?_, ?_⟩⟩
  ·rw [hstS hk]
   exact (h3 hk k (by unfold Z3 at hk; omega) some).1
  ·rw [hstI hk, ZV (show ¬ (a0.length : Int) > 40 by omega)]
   exact (h3 hk k (by unfold Z3 at hk; omega) some).2
 ·refine ⟨[], fun x hx => (by cases hx), Nat.zero_le _, fun {k} hk => ⟨?_, ?_⟩⟩
  ·rw [hstS hk, iter_step (by unfold Z3 at hk; omega)]
   obtain ⟨_, _, e1, e2, e3, _⟩ := YO.get g0 (v := ((0 : Nat) : Int)) (by omega) (by omega)
   have g5 := rowD_ok hn ho
   obtain ⟨r, _, _, _, hs⟩ := shares_fv (aB := gI a0 ((0 : Nat) : Int) 0) e1 e2 e3 g1 g5
   have hS : ∀ {β : Type} (K : LC → Option β), Y0.f k (gI a0 ((0 : Nat) : Int) 0) (gL a0 ((0 : Nat) : Int) 1) (gL a0 ((0 : Nat) : Int) 2) (gL a0 ((0 : Nat) : Int) 3) a1 (rowD a1.length fun j => .int .i64 (gI a1 (j : Int) 3)) K = K r := fun {β} K => Y0.f_of (hs hk).1 K
   simp only [YI.l1, YI.m1, atR, rdQ, Q.ask]
   rw [ZQ (show ((0 : Nat) : Int) < (a0.length : Int) by omega)]
   simp (disch := omega) only [cond_true, YO.row g0, ZY, Zad, Za7, Z6, imm_cI, hS]
   rw [ZQ (show (a0.length : Int) > 40 by omega)]
   rfl
  ·rw [hstI hk, ZQ (show (a0.length : Int) > 40 by omega)]
   rfl
def YaU (n : Nat) (o : Nat → Int) : Int := ((List.range n).map o).sum
theorem sum_filt (o cl : Nat → Int) (p : Nat → Bool) : ∀ l : List Nat, (l.map fun j => o j + bif p j then cl j else 0).sum = (l.map o).sum + ((l.filter p).map cl).sum
 | [] => rfl
 | x :: l => by
  have ih := sum_filt o cl p l
  cases h : p x
  ·rw [List.filter_cons_of_neg (by simp [h])]
   simp only [List.map_cons, List.sum_cons, h, cond_false, ih]
   omega
  ·rw [List.filter_cons_of_pos h]
   simp only [List.map_cons, List.sum_cons, h, cond_true, ih]
   omega
theorem nxO_sum {w c o : Nat → Int} {L : Nat} {n : Int} : YaU L (nxO w c o L n) + nxN w c o L n = YaU L o + n := by
 have e : YaU L (nxO w c o L n) = ((List.range L).map fun j => o j + bif opB w c o j then clD w c o n (smL w (opL w c o L)) (opL w c o L) j else 0).sum := by
  unfold YaU
  refine congrArg List.sum (List.map_congr_left fun j hj => ?_)
  have hj := List.mem_range.mp hj
  show o j + _ = _
  by_cases h : j ∈ opL w c o L
  ·rw [if_pos h, (opB_mem hj).mpr h]; rfl
  ·rw [if_neg h, Bool.eq_false_iff.mpr fun q => h ((opB_mem hj).mp q)]; rfl
 rw [e, sum_filt]
 unfold nxN YaU
 show _ + ((opL w c o L).map _).sum + _ = _
 omega
theorem div_more {w c : Nat → Int} {a1 a2 : LD} (h : DivOk w c a1 a2) : ∀ (N : Nat) (n : Int) (o : Nat → Int), n.toNat ≤ N → 0 ≤ n → n ≤ 10000 → (∀ i, i < a1.length → 0 ≤ o i ∧ o i ≤ c i) → (∀ i, i < a1.length → w i ≤ 0 → o i = 0) →
  ∃ r : Nat → Int, (∀ i, i < a1.length → 0 ≤ r i ∧ r i ≤ c i) ∧ (∀ i, i < a1.length → w i ≤ 0 → r i = 0) ∧ YaU a1.length r ≤ YaU a1.length o + n ∧ ∀ {k : Nat}, Z3 k → ∀ m, N < m → ∀ {β : Type} (K : LC → Option β),
   Zo (Yr.l0 k K) m (n, a1, a2, Yak a1.length (cI o)) = K (Yak a1.length (cI r)) := by
 intro N
 induction N with
 | zero =>
  intro n o hN hn0 hn2 ho hz
  refine ⟨o, ho, hz, by omega, fun {k} hk m hm {β} K => ?_⟩
  rw [iter_step hm, YaR h ho hn2 hk]
  unfold roundD
  rw [if_neg (by omega)]
 | succ N ih =>
  intro n o hN hn0 hn2 ho hz
  by_cases hn : 0 < n
  case neg =>
   refine ⟨o, ho, hz, by omega, fun {k} hk m hm {β} K => ?_⟩
   rw [iter_step (by omega), YaR h ho hn2 hk]
   unfold roundD
   rw [if_neg hn]
  by_cases h0 : opL w c o a1.length = []
  ·refine ⟨o, ho, hz, by omega, fun {k} hk m hm {β} K => ?_⟩
   rw [iter_step (by omega), YaR h ho hn2 hk]
   unfold roundD
   rw [if_pos hn, if_pos h0]
  obtain ⟨o1, o2⟩ := opL_facts (w := w) (c := c) (o := o) (L := a1.length)
  obtain ⟨q1, q2, q3⟩ := clD_sum o1 hn (fun i hi => ((o2 i).mp hi).2.1) (fun i hi => ((o2 i).mp hi).2.2) h0
  have hN' : nxN w c o a1.length n = n - ((opL w c o a1.length).map (clD w c o n (smL w (opL w c o a1.length)) (opL w c o a1.length))).sum := rfl
  have hs := nxO_sum (w := w) (c := c) (o := o) (L := a1.length) (n := n)
  obtain ⟨r, hr, hrz, hrs, hi⟩ := ih (nxN w c o a1.length n) (nxO w c o a1.length n) (by omega) (by omega) (by omega) (fun i hi => by
   have := ho i hi
   unfold nxO
   by_cases hm : i ∈ opL w c o a1.length
   ·rw [if_pos hm]; have := q1 i hm; omega
   ·rw [if_neg hm]; omega) fun i hi hw => by
   have := hz i hi hw
   unfold nxO
   rw [if_neg fun hm => by have := ((o2 i).mp hm).2.1; omega]
   omega
  refine ⟨r, hr, hrz, by omega, fun {k} hk m hm {β} K => ?_⟩
  rw [iter_step (by omega), YaR h ho hn2 hk]
  unfold roundD
  rw [if_pos hn, if_neg h0]
  exact hi hk (m - 1) (by omega) K
theorem sumTo_zero (n : Nat) : YaU n (fun _ => 0) = 0 := by
 unfold YaU
 have : ∀ l : List Nat, (l.map fun _ => (0 : Int)).sum = 0 := fun l => by
  induction l with
  | nil => rfl
  | cons x l ih => rw [List.map_cons, List.sum_cons, ih]; rfl
 exact this _
theorem divI {n : Int} {a1 a2 : LD} (g1 : Zi RI lim a1) (g2 : Zi RI lim a2) (hl : a1.length < 20) (hR : YaY n a1 a2 = true) : ∃ o : Nat → Int, (∀ i, i < a1.length → 0 ≤ o i ∧ o i ≤ gI a2 (i : Int) 0) ∧ (∀ i, i < a1.length → gI a1 (i : Int) 0 ≤ 0 → o i = 0) ∧ YaU a1.length o ≤ n ∧ ∀ {k : Nat}, Z3 k → ∀ {β : Type} (K : LC → Option β), Yr.f k n a1 a2 K = K (Yak a1.length (cI o)) := by
 have hb : big = 2 ^ 64 := rfl
 have hmost : ZN = 2 ^ 36 := rfl
 have hR' := hR
 unfold YaY at hR'
 simp only [Bool.and_eq_true, decide_eq_true_eq, List.all_eq_true, List.mem_range, inB] at hR'
 obtain ⟨⟨hn0, hn⟩, _, he, ha⟩ := hR'
 obtain ⟨r, hr, hz, hs, hi⟩ := div_more (w := fun i : Nat => gI a1 (i : Int) 0) (c := fun i : Nat => gI a2 (i : Int) 0) (a1 := a1) (a2 := a2) ⟨rfl, rfl, g1, g2, he.symm, hl, fun i hi => (ha i hi).1, fun i hi => (ha i hi).2.2⟩ 10000 n (fun _ => 0) (by omega) hn0 hn (fun i hi => ⟨Int.le_refl _, (ha i hi).2.1⟩) (fun _ _ _ => rfl)
 rw [sumTo_zero] at hs
 refine ⟨r, hr, hz, by omega, fun {k} hk {β} K => Yr.f_of ?_ K⟩
 unfold Yr.t Yr.g Yr.m
 rw [right_impl g1 g2 hk, hR]
 simp only [Bool.not_true, cond_false]
 rw [ZaP ⟨by omega, by omega, by omega, by omega⟩, Int.toNat_natCast, rowF_rep]
 exact hi hk k (by unfold Z3 at hk; omega) some
section
variable (a0 a1 : LD)
structure ShI (i : Nat) (o s : Nat → Int) : Prop where
 ok : okS (gI a0 (i : Int) 0) (gL a0 (i : Int) 1) (gL a0 (i : Int) 2) (gL a0 (i : Int) 3) a1 (rowD a1.length fun j => .int .i64 (o j)) = true
 left : ∀ j, j < a1.length → 0 ≤ s j ∧ s j ≤ o j ∧ o j ≤ 10000
 wt : ∀ j, j < a1.length → 0 < s j → wtV (gI a0 (i : Int) 0) (gL a0 (i : Int) 1) (gL a0 (i : Int) 2) (gL a0 (i : Int) 3) a1 j ≠ 0
 sum : YaU a1.length s ≤ gI a0 (i : Int) 0
 top : gI a0 (i : Int) 0 ≤ 10000
 run : ∀ {k : Nat}, Z3 k → YV.t k (gI a0 (i : Int) 0) (gL a0 (i : Int) 1) (gL a0 (i : Int) 2) (gL a0 (i : Int) 3) a1 (rowD a1.length fun j => .int .i64 (o j)) = some (Yak a1.length (cI s))
def Rounds : Nat → (Nat → Int) → List (Nat → Int) → Prop
 | i, _, [] => i = a0.length
 | i, o, s :: l => i < a0.length ∧ ShI a0 a1 i o s ∧ Rounds (i + 1) (fun j => o j - s j) l
end
theorem shareI {a0 a1 : LD} (g0 : Zi YO lim a0) (g1 : Zi Y6 lim a1) {i : Nat} (hi : i < a0.length) {o : Nat → Int} (ho : ∀ j, j < a1.length → (Lit.int .i64 (o j)).wf = true) (hok : okS (gI a0 (i : Int) 0) (gL a0 (i : Int) 1) (gL a0 (i : Int) 2) (gL a0 (i : Int) 3) a1 (rowD a1.length fun j => .int .i64 (o j)) = true) : ∃ s, ShI a0 a1 i o s := by
 have hlim : lim = 1048576 := rfl
 have hn := g1.1
 obtain ⟨_, _, e1, e2, e3, _⟩ := YO.get g0 (v := (i : Int)) (by omega) (by omega)
 have g5 := rowD_ok hn ho
 have hok' := hok
 unfold okS at hok'
 simp only [Bool.and_eq_true, decide_eq_true_eq, List.all_eq_true, List.mem_range] at hok'
 obtain ⟨hW, h12, hl2, hI, hL⟩ := hok'
 have ho2 : ∀ j, j < a1.length → 0 ≤ o j ∧ o j ≤ 10000 := fun j hj => by
  have := hL j (by rw [YaN]; exact hj)
  rw [gI_rowD hj] at this
  simpa [inB] using this
 have hR := okS_right e1 e2 e3 g1 hok
 obtain ⟨s, q1, q2, q3, q4⟩ := divI (wt_row e1 e2 e3 g1) g5 (by rw [YaN]; omega) hR
 rw [YaN] at q1 q2 q3 q4
 have hw := (want_facts e1 e2 e3 hW).1
 simp only [inB, Bool.and_eq_true, decide_eq_true_eq] at hw
 refine ⟨s, hok, fun j hj => ?_, fun j hj h0 he => ?_, q3, hw.2, fun {k} hk => ?_⟩
 ·have := q1 j hj
  rw [gI_rowD hj] at this
  have := ho2 j hj
  omega
 ·have := q2 j hj (by rw [gI_rowD hj, he]; omega)
  omega
 ·unfold YV.t YV.g
  rw [YaL e1 e2 e3 g1 g5 hk, hok]
  simp only [Bool.not_true, cond_false]
  rw [impl_weights e1 e2 e3 g1 hk]
  exact q4 hk some
set_option maxRecDepth 100000 in
theorem roundsI {a0 a1 : LD} (g0 : Zi YO lim a0) (g1 : Zi Y6 lim a1) : ∀ (m i : Nat), i + m = a0.length → ∀ (o : Nat → Int), (∀ j, j < a1.length → (Lit.int .i64 (o j)).wf = true) → ∀ acc : LC, acc.length = i →
  ∃ r, (r = [] ∨ ∃ l, Rounds a0 a1 i o l ∧ r = acc ++ l.map fun s => [.own (Yak a1.length (cI s))]) ∧ ∀ {k : Nat}, Z3 k → ∀ st, m < st → ∀ {β : Type} (K : LC → Option β),
   Zo (Yy.l1 k K) st (a1, a0, (a0.length : Int), (i : Int), acc, Yak a1.length (cI o)) = K r := by
 have hb : big = 2 ^ 64 := rfl
 have hlim : lim = 1048576 := rfl
 have hn := g1.1
 have hn0 := g0.1
 intro m
 induction m with
 | zero =>
  intro i hi o ho acc hlen
  refine ⟨acc, .inr ⟨[], by unfold Rounds; omega, by simp⟩, fun {k} hk st hst {β} K => ?_⟩
  rw [iter_step hst]
  simp only [Yy.l1, Yy.m1, atR, rdQ, Q.ask]
  rw [ZV (show ¬ (i : Int) < (a0.length : Int) by omega)]
  rfl
 | succ m ih =>
  intro i hi o ho acc hlen
  obtain ⟨_, _, e1, e2, e3, _⟩ := YO.get g0 (v := (i : Int)) (by omega) (by omega)
  have g5 := rowD_ok hn ho
  cases hok : okS (gI a0 (i : Int) 0) (gL a0 (i : Int) 1) (gL a0 (i : Int) 2) (gL a0 (i : Int) 3) a1 (rowD a1.length fun j => .int .i64 (o j)) with
  | false =>
   refine ⟨[], .inl rfl, fun {k} hk st hst {β} K => ?_⟩
   rw [iter_step (by omega)]
   simp only [Yy.l1, Yy.m1, atR, rdQ, Q.ask]
   rw [ZQ (show (i : Int) < (a0.length : Int) by omega)]
   simp (disch := omega) only [cond_true, YO.row g0, ZY, Zad, Za7, Z6, imm_cI, YaL e1 e2 e3 g1 g5 hk, hok, Bool.not_false]
  | true =>
   obtain ⟨s, hS⟩ := shareI g0 g1 (by omega) ho hok
   have hI : ∀ {k : Nat}, Z3 k → ∀ {β : Type} (K : LC → Option β), YV.f k (gI a0 (i : Int) 0) (gL a0 (i : Int) 1) (gL a0 (i : Int) 2) (gL a0 (i : Int) 3) a1 (rowD a1.length fun j => .int .i64 (o j)) K = K (Yak a1.length (cI s)) := fun {k} hk {β} K => YV.f_of (hS.run hk) K
   have hl := hS.left
   obtain ⟨r2, h1, h3⟩ := ih (i + 1) (by omega) (fun j => o j - s j) (fun j hj => by have := hl j hj; exact wf_mk (by omega) (by omega)) (acc ++ [[.own (Yak a1.length (cI s))]]) (by simp [hlen])
   have hw1 : IntKind.wrap .i64 ((i : Int) + 1) = ((i + 1 : Nat) : Int) := by rw [Zj (by omega) (by omega)]; omega
   refine ⟨r2, ?_, fun {k} hk st hst {β} K => ?_⟩
   ·rcases h1 with h1 | ⟨l, h1, h2⟩
    ·exact .inl h1
    ·refine .inr ⟨s :: l, ⟨by omega, hS, h1⟩, ?_⟩
     rw [h2, List.append_assoc]
     rfl
   ·rw [iter_step (by omega)]
    simp only [Yy.l1, Yy.m1, atR, rdQ, Q.ask]
    rw [ZQ (show (i : Int) < (a0.length : Int) by omega)]
    simp (disch := omega) only [cond_true, YO.row g0, ZY, Zad, Za7, Z6, imm_cI, YaL e1 e2 e3 g1 g5 hk, hI hk, hok, Bool.not_true, cond_false, Yab]
    rw [impl_sub hn (fun j hj => ⟨by have := hl j hj; omega, by have := hl j hj; omega⟩) (fun j hj => ⟨by have := hl j hj; omega, by have := hl j hj; omega⟩) (by omega) hk, hw1]
    exact h3 hk (st - 1) (by omega) K
set_option maxRecDepth 100000 in
theorem plansI {a0 a1 : LD} (g0 : Zi YO lim a0) (g1 : Zi Y6 lim a1) : ∃ r, (r = [] ∨ ∃ l, Rounds a0 a1 0 (fun j => gI a1 (j : Int) 3) l ∧ r = l.map fun s => [.own (Yak a1.length (cI s))]) ∧ ∀ {k : Nat}, Z3 k → YI.t k a0 a1 = some r ∧ Yy.t k a0 a1 = some r := by
 have hb : big = 2 ^ 64 := rfl
 have hmost : ZN = 2 ^ 36 := rfl
 have hlim : lim = 1048576 := rfl
 have hn := g1.1
 have hn0 := g0.1
 have ho : ∀ j, j < a1.length → (Lit.int .i64 (gI a1 (j : Int) 3)).wf = true := fun j hj => (Y6.get g1 (v := (j : Int)) (by omega) (by omega)).2.2.2.2.1
 obtain ⟨r', -, -, hP⟩ := plans_fv g0 g1
 have hstI : ∀ {k : Nat}, Z3 k → Yy.t k a0 a1 = bif decide ((a0.length : Int) > 40) then some [] else Zo (Yy.l1 k some) k (a1, a0, (a0.length : Int), ((0 : Nat) : Int), [], Yak a1.length (cI fun j => gI a1 (j : Int) 3)) := fun {k} hk => by
  unfold Yy.t Yy.g
  refine iter_seq (f := fun i => ((i : Int), Yak i (cI fun j => gI a1 (j : Int) 3))) (n := a1.length) (by unfold Z3 at hk; omega) (fun L i hi => ?_) (fun L => ?_)
  ·have hw1 : IntKind.wrap .i64 ((i : Int) + 1) = ((i + 1 : Nat) : Int) := by rw [Zj (by omega) (by omega)]; omega
   simp only [Yy.l0, Yy.m0, atR, rdQ, Q.ask]
   rw [ZQ (show (i : Int) < (a1.length : Int) by omega)]
   simp (disch := omega) only [cond_true, Y6.row g1, ZY, Zaj, Za7, Zad, Z6, hw1]
   rw [ZaP (by simp only [Yab, List.length_cons, List.length_nil]; omega), ← YaX]
  ·simp only [Yy.l0, Yy.m0, atR, rdQ, Q.ask]
   rw [ZV (show ¬ (a1.length : Int) < (a1.length : Int) by omega)]
   rfl
 have key : ∃ r, (r = [] ∨ ∃ l, Rounds a0 a1 0 (fun j => gI a1 (j : Int) 3) l ∧ r = l.map fun s => [.own (Yak a1.length (cI s))]) ∧ ∀ {k : Nat}, Z3 k → Yy.t k a0 a1 = some r := by
  by_cases h40 : (a0.length : Int) > 40
  ·exact ⟨[], .inl rfl, fun {k} hk => by rw [hstI hk, ZQ h40]; rfl⟩
  ·obtain ⟨r, h1, h2⟩ := roundsI g0 g1 a0.length 0 (by omega) _ ho [] rfl
   refine ⟨r, ?_, fun {k} hk => ?_⟩
   ·rcases h1 with h1 | ⟨l, h1, h2⟩
    ·exact .inl h1
    ·exact .inr ⟨l, h1, by rw [h2, List.nil_append]⟩
   ·rw [hstI hk, ZV h40]
    exact h2 hk k (by unfold Z3 at hk; omega) some
 obtain ⟨r, h1, h2⟩ := key
 refine ⟨r, h1, fun {k} hk => ?_⟩
 obtain ⟨q1, q2⟩ := hP hk
 have := h2 hk
 rw [q2] at this
 injection this with this
 subst this
 exact ⟨q1, q2⟩
def IR (c : List C) : Prop := ∃ (s : BA) (ls ps : LD) (x : Int), c = [.d (.str s), .own (ls.map (·.map C.d)), .own (ps.map (·.map C.d)), .d (.int .i64 x)] ∧ s.size ≤ lim ∧ Zi RSS lim ls ∧ Zi RS lim ps ∧ 0 ≤ x ∧ x ≤ 100
theorem IR.row : ∀ {ts : LC}, (∀ c ∈ ts, IR c) → (∀ r ∈ C.immRows ts, Y6 lim r) ∧ (C.immRows ts).length = ts.length
 | [], _ => ⟨by intro r hr; simp [C.immRows] at hr, rfl⟩
 | c :: ts, h => by
  obtain ⟨h1, h2⟩ := IR.row (ts := ts) fun c hc => h c (by simp [hc])
  obtain ⟨s, ls, ps, x, rfl, a1, a2, a3, a4, a5⟩ := h c (by simp)
  refine ⟨fun r hr => ?_, by simp only [C.immRows, List.length_cons, h2]⟩
  simp only [C.immRows, List.mem_cons] at hr
  rcases hr with rfl | hr
  ·refine ⟨s, ls, ps, x, ?_, a1, a2, a3, wf_of (by omega) (by omega), trivial⟩
   simp only [C.immCells, C.imm, imm_rows]
  ·exact h1 r hr
theorem l10List_ex {k : Nat} (hk : Z3 k) {b : LD} {i h : Int} (c : Cur b i) : ∃ (ts : LC) (i' h' : Int), (∀ c ∈ ts, IR c) ∧ ts.length ≤ 5 ∧ Cur b i' ∧ Y3.t k b i h = some (ts, b, i', h') := by
 have hb : big = 2 ^ 64 := rfl
 have hm : ZN = 2 ^ 36 := rfl
 unfold Y3.t Y3.g Y3.m
 obtain ⟨x, i1, h1, x0, x1, -, hc1, e1⟩ := YaO (k := k) (h := h) (n := 6) c
 have x1 := x1 (by decide)
 rw [YL.f_of e1]
 refine Ya4 (fun v => v.1.toNat) (fun v => 0 ≤ v.1 ∧ v.2.1 = b ∧ Cur b v.2.2.1 ∧ (∀ c ∈ v.2.2.2.2, IR c) ∧ (v.2.2.2.2.length : Int) + v.1 ≤ 5) (fun o => ∃ (ts : LC) (i' h' : Int), (∀ c ∈ ts, IR c) ∧ ts.length ≤ 5 ∧ Cur b i' ∧ o = some (ts, b, i', h')) ?_ (v := (x, b, i1, h1, [])) ⟨x0, rfl, hc1, by simp, by simp; omega⟩ (by unfold Z3 at hk; show x.toNat < k; omega)
 rintro ⟨n, b', i, h, out⟩ ⟨n0, eb, hc, ho, hlen⟩ L hL
 simp only at n0 eb hc ho hlen
 subst eb
 by_cases hn : n > 0
 ·have step : ∀ s : BA, s.size ≤ lim → ∃ (ts : LC) (i' h' : Int), (∀ c ∈ ts, IR c) ∧ ts.length ≤ 5 ∧ Cur b' i' ∧ (Yav.f k b' i h s (fun y29 y30 y31 y32 y33 y34 y35 => Zc (out.length + ([[.d (.str y29), .own y30, .own y31, .d (.int .i64 y32)]] : LC).length ≤ ZN) (L (IntKind.wrap .i64 (n - 1), y33, y34, y35, out ++ ([[.d (.str y29), .own y30, .own y31, .d (.int .i64 y32)]] : LC))))) = some (ts, b', i', h') := fun s gs => by
   obtain ⟨ls, ps, z, i2, h2, q1, q2, q3, q4, hc2, e2⟩ := island_ex hk (h := h) (s := s) hc
   rw [Yav.f_of e2, ZaP (by rw [List.length_singleton]; omega), Zj (by omega) (by omega)]
   exact hL _ ⟨by show 0 ≤ n - 1; omega, rfl, hc2, YaM ho ⟨s, ls, ps, z, rfl, gs, q1, q2, q3, q4⟩, by show ((out ++ _).length : Int) + (n - 1) ≤ 5; rw [List.length_append, List.length_singleton]; omega⟩ (by show (n - 1).toNat < n.toNat; omega)
  simp only [Y3.l0, ZQ hn, cond_true]
  rw [ZaP (by simp only [List.length_cons, List.length_nil]; omega)]
  have hx : out.length = 0 ∨ out.length = 1 ∨ out.length = 2 ∨ out.length = 3 ∨ out.length = 4 := by omega
  rw [Int.toNat_natCast]
  generalize hq : out.length = q at hx step ⊢
  rcases hx with rfl | rfl | rfl | rfl | rfl <;> exact step _ (by decide)
 ·simp only [Y3.l0, ZV hn, cond_false]
  exact ⟨out, i, h, ho, by omega, hc, rfl⟩
theorem flat_up : ∀ o : LD, flatRows (o.map (·.map C.d)) = o.map (·.map C.d) := fun o => by
 simp only [flatRows, List.map_map]
 refine List.map_congr_left fun r _ => ?_
 simp only [Function.comp, List.map_map]
 exact List.map_congr_left fun x _ => by simp only [Function.comp, C.imm]
theorem flat_want {o : LD} {x : Int} {ts us vs : LC} : flatRows (o.map (·.map C.d) ++ ([[.d (.int .i64 x), .own ts, .own us, .own vs]] : LC)) = ((o ++ [[D.int .i64 x, .sl (C.immRows ts), .sl (C.immRows us), .sl (C.immRows vs)]] : LD).map (·.map C.d)) := by
 rw [List.map_append, ← flat_up o]
 simp only [flatRows, List.map_append, List.map_cons, List.map_nil, C.imm]
 rw [← flatRows, ← flatRows, flat_up, flat_up]
theorem drawPlans_ex {k : Nat} (hk : Z3 k) {b : LD} (g : Zi RI8 lim b) : ∃ (o : LD) (ts : LC), Zi YO lim o ∧ (∀ c ∈ ts, IR c) ∧ ts.length ≤ 5 ∧ YX.t k b = some (o.map (·.map C.d), ts) := by
 have hb : big = 2 ^ 64 := rfl
 have hm : ZN = 2 ^ 36 := rfl
 have hlim : lim = 1048576 := rfl
 unfold YX.t YX.g
 obtain ⟨h, e1⟩ := new_ex g hk
 obtain ⟨x, i1, h1, x0, x1, -, hc1, e2⟩ := YaO (k := k) (h := h) (n := 5) (Cur.new g)
 have x1 := x1 (by decide)
 rw [Yac.f_of e1, YL.f_of e2]
 refine Ya4 (fun v => v.1.toNat) (fun v => 0 ≤ v.1 ∧ v.2.1 = b ∧ Cur b v.2.2.1 ∧ ∃ o : LD, v.2.2.2.2 = o.map (·.map C.d) ∧ (∀ r ∈ o, ∃ a0 a1 a2 a3, r = [.int .i64 a0, .sl a1, .sl a2, .sl a3] ∧ WOk a0 a1 a2 a3 ∧ a3.length ≤ 100) ∧ (o.length : Int) + v.1 ≤ 4) (fun out => ∃ (o : LD) (ts : LC), Zi YO lim o ∧ (∀ c ∈ ts, IR c) ∧ ts.length ≤ 5 ∧ out = some (o.map (·.map C.d), ts)) ?_ (v := (x, b, i1, h1, [])) ⟨x0, rfl, hc1, [], rfl, by simp, by simp; omega⟩ (by unfold Z3 at hk; show x.toNat < k; omega)
 rintro ⟨n, b', i, h, out⟩ ⟨n0, eb, hc, o, e, ho, hlen⟩ L hL
 simp only at n0 eb hc e hlen
 subst eb e
 have toRow : ∀ {a0 a1 a2 a3}, WOk a0 a1 a2 a3 → YO lim [.int .i64 a0, .sl a1, .sl a2, .sl a3] := fun w => ⟨_, _, _, _, rfl, w.x, w.sel, w.bears.sl, w.weighs, trivial⟩
 have hrows : ∀ r ∈ o, YO lim r := fun r hr => by
  obtain ⟨a0, a1, a2, a3, rfl, w, -⟩ := ho r hr
  exact toRow w
 by_cases hn : n > 0
 ·obtain ⟨x, ts, bs, ws, i2, h2, q0, q1, q2, q3, q4, q5, hc2, e2⟩ := want_ex hk (h := h) hc
  simp only [YX.l0, ZQ hn, cond_true, YD.f_of e2, Zj (show -9223372036854775808 ≤ n - 1 by omega) (show n - 1 ≤ 9223372036854775807 by omega)]
  rw [ZaP (by rw [map_len, List.length_singleton]; omega), flat_want, imm_rows, imm_rows]
  exact hL _ ⟨by show 0 ≤ n - 1; omega, rfl, hc2, _, rfl, YaM ho ⟨_, _, _, _, rfl, ⟨q0, TR.sl (n := 5) (by decide) q1 (by omega), q3, ⟨by omega, q4⟩⟩, by omega⟩, by rw [List.length_append, List.length_singleton]; show ((o.length + 1 : Nat) : Int) + (n - 1) ≤ 4; omega⟩ (by show (n - 1).toNat < n.toNat; omega)
 ·simp only [YX.l0, ZV hn, cond_false, map_len]
  by_cases hz : (o.length : Int) > 0
  ·obtain ⟨y, i2, h2, hc2, e2⟩ := Ya3 (k := k) (h := h) (n := 12) hc
   rw [ZQ hz, cond_true, YZ.f_of e2]
   cases y
   ·obtain ⟨ts, i3, h3, q1, q2, hc3, e3⟩ := l10List_ex hk (h := h2) hc2
    rw [cond_false, Y3.f_of e3]
    exact ⟨o, ts, ⟨by omega, hrows⟩, q1, q2, rfl⟩
   ·cases o with
    | nil => simp at hz
    | cons r o =>
     obtain ⟨a0, a1, a2, a3, rfl, w, hw⟩ := ho r (by simp)
     obtain ⟨b0, b1, b2, b3, i3, h3, w', hc3, e3⟩ := bend_ex hk (h := h2) hc2 w hw
     obtain ⟨ts, i4, h4, q1, q2, hc4, e4⟩ := l10List_ex hk (h := h3) hc3
     rw [cond_true, ZaP (by simp only [List.length_cons] at hz ⊢; omega)]
     simp only [List.map_cons, List.map_nil]
     show ∃ (o' : LD) (ts : LC), Zi YO lim o' ∧ (∀ c ∈ ts, IR c) ∧ ts.length ≤ 5 ∧ (YaC.f k b' i2 h2 a0 a1 a2 a3 _) = _
     simp only [YaC.f_of e3, Y3.f_of e4]
     rw [ZaP (by simp only [List.length_cons]; omega), ZaP (by simp only [List.length_cons]; show 0 < _; omega)]
     exact ⟨[.int .i64 b0, .sl b1, .sl b2, .sl b3] :: o, ts, ⟨by simp only [List.length_cons] at hlen ⊢; omega, fun r hr => by
      rcases List.mem_cons.mp hr with rfl | hr
      ·exact toRow w'
      ·exact hrows r (by simp [hr])⟩, q1, q2, rfl⟩
  ·obtain ⟨ts, i3, h3, q1, q2, hc3, e3⟩ := l10List_ex hk (h := h) hc
   rw [ZV hz, cond_false, Y3.f_of e3]
   exact ⟨o, ts, ⟨by omega, hrows⟩, q1, q2, rfl⟩
def tabP (n : Nat) (l : List (Nat → Int)) : LD := l.map fun s => [.sl (rowD n fun j => .int .i64 (s j))]
theorem imm_tab (n : Nat) : ∀ l : List (Nat → Int), C.immRows (l.map fun s => [.own (Yak n (cI s))]) = tabP n l
 | [] => rfl
 | s :: l => by
  have ih := imm_tab n l
  simp only [tabP] at ih
  simp only [tabP, List.map_cons, C.immRows, C.immCells, C.imm, imm_cI, ih]
theorem tab_at {n : Nat} {pre l : List (Nat → Int)} {s : Nat → Int} {i : Nat} (hi : pre.length = i) {β : Type} (F : List D → Option β) : Zbw (tabP n (pre ++ s :: l)) (i : Int) F = F [.sl (rowD n fun j => .int .i64 (s j))] := by
 refine atRow_get (Int.natCast_nonneg i) ?_ F
 subst hi
 rw [Int.toNat_natCast, tabP, List.getElem?_map]
 simp
theorem sumTo_succ (t : Nat) (s : Nat → Int) : YaU (t + 1) s = YaU t s + s t := by
 unfold YaU
 rw [List.range_succ, List.map_append, List.sum_append]
 simp
set_option maxRecDepth 100000 in
set_option maxHeartbeats 1000000 in
theorem plan_round {k : Nat} (hk : Z3 k) {a0 a1 : LD} (g0 : Zi YO lim a0) (g1 : Zi Y6 lim a1) {i : Nat} (hi : i < a0.length) {o s u : Nat → Int} (hS : ShI a0 a1 i o s) (hr : ∀ j, j < a1.length → gI a1 (j : Int) 3 ≤ 100) (hu : ∀ j, j < a1.length → 0 ≤ u j ∧ u j + o j = gI a1 (j : Int) 3) {pre l : List (Nat → Int)} (hp : pre.length = i) (L : (LD × LD × LD × Int × LC) → Option Bool) :
  Yu.l0 k some L (a0, a1, tabP a1.length (pre ++ s :: l), (i : Int), Yak a1.length (cI u)) = L (a0, a1, tabP a1.length (pre ++ s :: l), ((i + 1 : Nat) : Int), Yak a1.length (cI fun j => u j + s j)) := by
 have hb : big = 2 ^ 64 := rfl
 have hmost : ZN = 2 ^ 36 := rfl
 have hlim : lim = 1048576 := rfl
 have hn := g1.1
 have hn0 := g0.1
 have hkk : a1.length < k := by unfold Z3 at hk; omega
 obtain ⟨_, _, e1, e2, e3, _⟩ := YO.get g0 (v := (i : Int)) (by omega) (by omega)
 have hok' := hS.ok
 unfold okS at hok'
 simp only [Bool.and_eq_true, decide_eq_true_eq] at hok'
 have h12 := hok'.2.1
 have hl := hS.left
 have hsum := hS.sum
 have htop := hS.top
 have hI : ∀ {β : Type} (K : LC → Option β), YV.f k (gI a0 (i : Int) 0) (gL a0 (i : Int) 1) (gL a0 (i : Int) 2) (gL a0 (i : Int) 3) a1 (rowD a1.length fun j => .int .i64 (o j)) K = K (Yak a1.length (cI s)) := fun K => YV.f_of (hS.run hk) K
 simp only [Yu.l0, Yu.m0]
 rw [ZQ (show (i : Int) < ((tabP a1.length (pre ++ s :: l)).length : Int) by simp only [tabP, List.length_map, List.length_append, List.length_cons]; omega)]
 simp only [cond_true]
 refine iter_seq (f := fun t => ((t : Int), Yak t (cI o))) (n := a1.length) hkk (fun M t ht => ?_) (fun M => ?_)
 ·have hw1 : IntKind.wrap .i64 ((t : Int) + 1) = ((t + 1 : Nat) : Int) := by rw [Zj (by omega) (by omega)]; omega
  have := hu t ht
  have := hr t ht
  have := hl t ht
  have hw2 : IntKind.wrap .i64 (gI a1 (t : Int) 3 - u t) = o t := by rw [Zj (by omega) (by omega)]; omega
  simp only [Yu.l1, Yu.m1, atR, rdQ, Q.ask]
  rw [ZQ (show (t : Int) < (a1.length : Int) by omega)]
  simp (disch := omega) only [cond_true, Y6.row g1, ZY, Zaj, Za7, Zad, Z6]
  rw [ZaP ⟨by omega, by rw [Yab]; omega⟩, Int.toNat_natCast, YaH ht]
  simp only [List.drop_zero, ZY, cD_at, Zad, hw1, hw2]
  rw [ZaP (by simp only [Yab, List.length_cons, List.length_nil]; omega)]
  have e : Yak t (cI o) ++ [[.d (.int .i64 (o t))]] = Yak (t + 1) (cI o) := YaX t (cI o)
  rw [e]
 simp only [Yu.l1, Yu.m1, atR, rdQ, Q.ask]
 rw [ZV (show ¬ (a1.length : Int) < (a1.length : Int) by omega)]
 simp (disch := omega) only [cond_false, YO.row g0, ZY, Zaj, Za7, Zad, Z6, imm_cI, hI]
 have hst : Yak a1.length (cI u) = Yak a1.length (cI fun j => if j < 0 then u j + s j else u j) := YaF fun j hj => by simp
 rw [hst, show ((0, 0, Yak a1.length (cI fun j => if j < 0 then u j + s j else u j)) : Int × Int × LC) = (YaU 0 s, ((0 : Nat) : Int), Yak a1.length (cI fun j => if j < 0 then u j + s j else u j)) from rfl]
 refine iter_seq (f := fun t => (YaU t s, (t : Int), Yak a1.length (cI fun j => if j < t then u j + s j else u j))) (n := a1.length) hkk (fun M t ht => ?_) (fun M => ?_)
 ·have hw1 : IntKind.wrap .i64 ((t : Int) + 1) = ((t + 1 : Nat) : Int) := by rw [Zj (by omega) (by omega)]; omega
  have h1 := hu t ht
  have h2 := hr t ht
  have h3 := hl t ht
  have hb1 := sum_le (f := s) (b := 10000) (l := List.range t) fun j hj => by have := hl j (by have := List.mem_range.mp hj; omega); omega
  rw [List.length_range] at hb1
  change 0 ≤ YaU t s ∧ YaU t s ≤ _ at hb1
  have hw3 : IntKind.wrap .i64 (YaU t s + s t) = YaU (t + 1) s := by rw [sumTo_succ, Zj (by omega) (by omega)]
  have hw4 : IntKind.wrap .i64 (u t + s t) = u t + s t := Zj (by omega) (by omega)
  have hat : (if t < t then u t + s t else u t) = u t := if_neg (by omega)
  have hat2 : (if t < t + 1 then u t + s t else u t) = u t + s t := if_pos (by omega)
  have hmod : ((Yak a1.length (cI fun j => if j < t then u j + s j else u j)).modify t fun z => Zq z 0 [.d (.int .i64 (u t + s t))]) = Yak a1.length (cI fun j => if j < t + 1 then u j + s j else u j) := by
   rw [YaV ht]
   refine YaF fun j hj => ?_
   show (if j = t then C.d (.int .i64 (u t + s t)) else C.d (.int .i64 (if j < t then u j + s j else u j))) = C.d (.int .i64 (if j < t + 1 then u j + s j else u j))
   by_cases hji : j = t
   ·subst hji
    rw [if_pos rfl, if_pos (by omega : j < j + 1)]
   ·rw [if_neg hji, YaW (p := j < t + 1) (q := j < t) (by omega) rfl]
  simp only [Yu.l2, atR, rdQ, Q.ask, tab_at hp, ZY, Za7, Z6, YaN, Yab]
  rw [ZQ (show (t : Int) < (a1.length : Int) by omega), ZV (show ¬ (t : Int) ≥ (a1.length : Int) by omega)]
  simp only [cond_true, cond_false]
  rw [ZaP ⟨by omega, by omega⟩, Int.toNat_natCast, YaH ht]
  simp only [List.drop_zero, ZY, cD_at, Zad, rowD_at ht, Z6, bne_self_eq_false, cond_false]
  by_cases h0 : s t > 0
  ·have hwt := hS.wt t ht h0
   obtain ⟨_, f0, f1, f2, _⟩ := Y6.get g1 (v := (t : Int)) (by omega) (by omega)
   unfold wtV at hwt
   cases hE : YJ.v (gI a0 (i : Int) 0) (gL a0 (i : Int) 1) (gL a0 (i : Int) 2) (gL a0 (i : Int) 3) (gS a1 (t : Int) 0) (gL a1 (t : Int) 1) (gL a1 (t : Int) 2) (gI a1 (t : Int) 3) with
   | false => rw [hE] at hwt; exact absurd rfl hwt
   | true =>
   rw [hE, cond_true] at hwt
   have hEf : ∀ {β : Type} (K : Bool → Option β), Yae.f k (gI a0 (i : Int) 0) (gL a0 (i : Int) 1) (gL a0 (i : Int) 2) (gL a0 (i : Int) 3) (gS a1 (t : Int) 0) (gL a1 (t : Int) 1) (gL a1 (t : Int) 2) (gI a1 (t : Int) 3) K = K true := fun K => Yae.f_of (by rw [Yae.same e1 e2 e3 f0 f1 f2 hk, YJ.tv e1 e2 e3 f0 f1 f2 hk, hE]) K
   have hWf : ∀ {β : Type} (K : Int → Option β), YU.f k (gI a0 (i : Int) 0) (gL a0 (i : Int) 1) (gL a0 (i : Int) 2) (gL a0 (i : Int) 3) (gS a1 (t : Int) 0) K = K (YE.v (gI a0 (i : Int) 0) (gL a0 (i : Int) 1) (gL a0 (i : Int) 2) (gL a0 (i : Int) 3) (gS a1 (t : Int) 0)) := fun K => YU.f_of (by rw [YU.same e1 e2 e3 f0 hk, YE.tv e1 e2 e3 f0 hk]) K
   rw [ZQ h0]
   simp (disch := omega) only [cond_true, YO.row g0, Y6.row g1, ZY, Zaj, Za7, Zad, Z6, hEf, hWf, Bool.not_true, cond_false, beq_eq_false_iff_ne.mpr hwt]
   rw [ZaP ⟨by omega, by omega⟩, YaH ht]
   simp only [List.drop_zero, ZY, cD_at, Zad, hat, hw4, hmod, Yab]
   rw [ZaP ⟨by omega, by omega⟩, ZaP ht, ZaP ⟨by omega, by omega⟩, YaH ht]
   simp only [List.drop_zero, ZY, cD_at, Zad, hat2]
   rw [ZV (show ¬ u t + s t > gI a1 (t : Int) 3 by omega), cond_false, hw3, hw1]
  ·rw [ZV h0]
   simp (disch := omega) only [cond_false, Y6.row g1, ZY, Zaj, Za7, Zad, Z6]
   rw [ZaP ⟨by omega, by omega⟩, YaH ht]
   simp only [List.drop_zero, ZY, cD_at, Zad, hat, hw4, hmod, Yab]
   rw [ZaP ⟨by omega, by omega⟩, ZaP ht, ZaP ⟨by omega, by omega⟩, YaH ht]
   simp only [List.drop_zero, ZY, cD_at, Zad, hat2]
   rw [ZV (show ¬ u t + s t > gI a1 (t : Int) 3 by omega), cond_false, hw3, hw1]
 ·have hwi : IntKind.wrap .i64 ((i : Int) + 1) = ((i + 1 : Nat) : Int) := by rw [Zj (by omega) (by omega)]; omega
  simp only [Yu.l2, atR, rdQ, Q.ask, tab_at hp, ZY, Za7, Z6, YaN]
  rw [ZV (show ¬ (a1.length : Int) < (a1.length : Int) by omega)]
  simp (disch := omega) only [cond_false, YO.row g0, ZY, Zaj, Za7, Zad, Z6, bne_self_eq_false, hwi]
  rw [ZV (show ¬ YaU a1.length s > gI a0 (i : Int) 0 by omega), cond_false, YaF (g := cI fun j => if j < a1.length then u j + s j else u j) (h := cI fun j => u j + s j) fun j hj => by show C.d (.int .i64 (if j < a1.length then u j + s j else u j)) = C.d (.int .i64 (u j + s j)); rw [if_pos hj]]
theorem plan_loop {k : Nat} (hk : Z3 k) {a0 a1 : LD} (g0 : Zi YO lim a0) (g1 : Zi Y6 lim a1) (hr : ∀ j, j < a1.length → gI a1 (j : Int) 3 ≤ 100) : ∀ (l pre : List (Nat → Int)) (o u : Nat → Int), Rounds a0 a1 pre.length o l → (∀ j, j < a1.length → 0 ≤ u j ∧ u j + o j = gI a1 (j : Int) 3) → ∀ m, l.length < m → Zo (Yu.l0 k some) m (a0, a1, tabP a1.length (pre ++ l), (pre.length : Int), Yak a1.length (cI u)) = some true
 | [], pre, o, u, h, hu, m, hm => by
  rw [iter_step (by omega)]
  simp only [Yu.l0, Yu.m0]
  rw [ZV (show ¬ (pre.length : Int) < ((tabP a1.length (pre ++ [])).length : Int) by simp only [tabP, List.length_map, List.append_nil]; omega)]
  rfl
 | s :: l, pre, o, u, h, hu, m, hm => by
  obtain ⟨h1, hS, h3⟩ := h
  rw [List.length_cons] at hm
  rw [iter_step (by omega), plan_round hk g0 g1 h1 hS hr hu rfl]
  have := plan_loop hk g0 g1 hr l (pre ++ [s]) (fun j => o j - s j) (fun j => u j + s j) (by rw [List.length_append]; exact h3) (fun j hj => by have := hu j hj; have := hS.left j hj; omega) (m - 1) (by omega)
  rw [List.length_append, List.append_assoc] at this
  exact this
theorem IR.room {ts : LC} (h : ∀ c ∈ ts, IR c) {j : Nat} (hj : j < ts.length) : 0 ≤ gI (C.immRows ts) (j : Int) 3 ∧ gI (C.immRows ts) (j : Int) 3 ≤ 100 := by
 obtain ⟨s, ls, ps, x, e, a1, a2, a3, a4, a5⟩ := h _ (List.getElem_mem hj)
 have : gI (C.immRows ts) (j : Int) 3 = x := by
  unfold gI gR
  have e2 : (List.map C.immCells ts).getD j [] = C.immCells ts[j] := by
   rw [List.getD_eq_getElem?_getD, List.getElem?_map, List.getElem?_eq_getElem hj]
   rfl
  rw [Ya8, Int.toNat_natCast, e2, e]
  rfl
 rw [this]
 exact ⟨a4, a5⟩
theorem Yu.T {a0 : LD} (g0 : Zi RI8 maxLen a0) : Tm (ZF 1) (fun k => Yu.t k a0) (fun r => r = true) := by
 refine Tm.of (v := true) (fun k hk1 => ?_) rfl
 have hk : Z3 k := up0 hk1
 have hlim : lim = 1048576 := rfl
 have hb : big = 2 ^ 64 := rfl
 have hmost : ZN = 2 ^ 36 := rfl
 have hbig : ∀ {β : Type} (K : Bool → Option β), YaJ.f k a0 K = K (decide ((a0.length : Int) > 1048576)) := fun K => YaJ.f_of rfl K
 unfold Yu.t Yu.g Yu.m
 rw [hbig]
 by_cases hl : (a0.length : Int) > 1048576
 ·rw [ZQ hl]; rfl
 rw [ZV hl]
 simp only [cond_false]
 obtain ⟨o, ts, gw, ht, htl, e⟩ := drawPlans_ex hk (b := a0) ⟨by omega, fun r hr => let ⟨x, q⟩ := g0.2 r hr; ⟨x, q⟩⟩
 obtain ⟨g3, g4⟩ := IR.row ht
 have gi : Zi Y6 lim (C.immRows ts) := ⟨by omega, g3⟩
 obtain ⟨r, hr, hP⟩ := plansI gw gi
 obtain ⟨p1, p2⟩ := hP hk
 rw [YX.f_of e, imm_rows, Yy.f_of p2, YI.f_of p1]
 simp only [bne_self_eq_false, cond_false]
 rw [ZaP ⟨by omega, by omega, by omega, by omega⟩, Int.toNat_natCast, rowF_rep, ← g4]
 rcases hr with rfl | ⟨l, h1, rfl⟩
 ·rw [iter_step (by have : big ≤ k := hk; omega)]
  simp only [Yu.l0, Yu.m0]
  rfl
 ·rw [imm_tab]
  have hlen : ∀ (l : List (Nat → Int)) (i : Nat) (q : Nat → Int), Rounds o (C.immRows ts) i q l → l.length ≤ o.length := fun l => by
   induction l with
   | nil => intro _ _ _; exact Nat.zero_le _
   | cons s l ih =>
    intro i q h
    have : ∀ (l : List (Nat → Int)) (i : Nat) (q : Nat → Int), Rounds o (C.immRows ts) i q l → i + l.length = o.length := fun l => by
     induction l with
     | nil => intro i q h; exact h
     | cons s l ih => intro i q h; have := ih _ _ h.2.2; rw [List.length_cons]; omega
    have := this _ _ _ h
    omega
  have := hlen _ _ _ h1
  have := gw.1
  exact plan_loop hk gw gi (fun j hj => (IR.room ht (by omega)).2) l [] _ (fun _ => 0) h1 (fun j hj => ⟨Int.le_refl 0, by omega⟩) k (by have : big ≤ k := hk; omega)
end Go.Proofs.Ytpgplbalenfgfaa
