/- Printed, and by hand: the functions that FnExactShares reaches come to their end; the program's answer as the reference's. -/
import Derived.Test.YtppfencdbabmeaaGreatYEShares0
import Derived.KernelRfl
set_option linter.unusedVariables false
set_option linter.unusedSimpArgs false
namespace Go.Proofs.YtppfencdbabmeaaGreat
open Go Go.T Go.Proofs
section
variable (w c o : Nat → Int) (L : Nat) (n : Int)
def nxO (j : Nat) : Int := o j + if j ∈ opL w c o L then clD w c o n (smL w (opL w c o L)) (opL w c o L) j else 0
def nxN : Int := n - ((opL w c o L).map (clD w c o n (smL w (opL w c o L)) (opL w c o L))).sum
end
def roundD {β : Type} (w c : Nat → Int) (a1 a2 : List (List D)) (K : List (List C) → Option β) (L0 : (Int × (List (List D)) × (List (List D)) × (List (List C))) → Option β) (n : Int) (o : Nat → Int) : Option β :=
  if 0 < n then (if opL w c o a1.length = [] then K (YaQ a1.length (cI o)) else L0 (nxN w c o a1.length n, a1, a2, YaQ a1.length (cI (nxO w c o a1.length n)))) else K (YaQ a1.length (cI o))
theorem opB_mem {w c o : Nat → Int} {L i : Nat} (hi : i < L) : opB w c o i = true ↔ i ∈ opL w c o L := by
  rw [opL, List.mem_filter, List.mem_range]
  exact ⟨fun h => ⟨hi, h⟩, fun h => h.2⟩
theorem op_short {w c o : Nat → Int} {L : Nat} (hl : L < 20) : (opL w c o L).length < 20 := by
  have : (opL w c o L).length ≤ (List.range L).length := List.length_filter_le ..
  rw [List.length_range] at this; omega
theorem filt_short (p : Nat → Bool) (i : Nat) : ((List.range i).filter p).length ≤ i := by have := List.length_filter_le p (List.range i); rwa [List.length_range] at this
structure DivOk (w c : Nat → Int) (a1 a2 : List (List D)) : Prop where
  hw : w = fun i : Nat => gI a1 (i : Int) 0
  hc : c = fun i : Nat => gI a2 (i : Int) 0
  g1 : Zi RI lim a1
  g2 : Zi RI lim a2
  he : a2.length = a1.length
  hl : a1.length < 20
  bw : ∀ i, i < a1.length → 0 ≤ w i ∧ w i ≤ 1000
  bc : ∀ i, i < a1.length → c i ≤ 10000
set_option maxRecDepth 100000 in
theorem spec_round {w c o : Nat → Int} {a1 a2 : List (List D)} (h : DivOk w c a1 a2) (ho : ∀ i, i < a1.length → 0 ≤ o i ∧ o i ≤ c i) {n : Int} (hn2 : n ≤ 10000) {k : Nat} (hk : Z3 k) {β : Type} (K : List (List C) → Option β) (L0 : (Int × (List (List D)) × (List (List D)) × (List (List C))) → Option β) :
    Yu.l0 k K L0 (n, a1, a2, YaQ a1.length (cI o)) = roundD w c a1 a2 K L0 n o := by
  obtain ⟨hw, hc, g1, g2, he, hl, bw, bc⟩ := h
  have hb : big = 2 ^ 64 := rfl
  have hmost : ZN = 2 ^ 36 := rfl
  have hkk : a1.length < k := by unfold Z3 at hk; omega
  have hgw : ∀ i : Nat, gI a1 (i : Int) 0 = w i := fun i => by rw [hw]
  have hgc : ∀ i : Nat, gI a2 (i : Int) 0 = c i := fun i => by rw [hc]
  unfold roundD
  simp only [Yu.l0, Yu.m0]
  by_cases hn : 0 < n
  case neg =>
    rw [if_neg hn, ZV (show ¬ n > 0 from hn)]
    rfl
  rw [if_pos hn, ZQ (show n > 0 from hn)]
  simp only [cond_true]
  rw [ZaP ⟨by omega, by omega, by omega, by omega⟩, Int.toNat_natCast, rowF_rep]
  have hz : YaQ a1.length (fun _ => C.d (.bool false)) = YaQ a1.length (cB fun j => decide (j < 0) && opB w c o j) := YaZ fun j hj => by simp
  rw [hz]
  refine iter_seq (f := fun i => (smL w ((List.range i).filter (opB w c o)), (i : Int), YaQ a1.length (cB fun j => decide (j < i) && opB w c o j))) (n := a1.length) hkk (fun L i hi => ?_) (fun L => ?_)
  · have hw1 : IntKind.wrap .i64 ((i : Int) + 1) = ((i + 1 : Nat) : Int) := by rw [Zj (by omega) (by omega)]; omega
    have hmod : ∀ b, b = opB w c o i → ((YaQ a1.length (cB fun j => decide (j < i) && opB w c o j)).modify i fun x => Zq x 0 [.d (.bool b)]) = YaQ a1.length (cB fun j => decide (j < i + 1) && opB w c o j) := fun b hbe => by
      subst hbe
      rw [Ya8 hi]
      refine YaZ fun j hj => ?_
      show (if j = i then C.d (.bool (opB w c o i)) else C.d (.bool (decide (j < i) && opB w c o j))) = C.d (.bool (decide (j < i + 1) && opB w c o j))
      by_cases hji : j = i
      · subst hji
        simp
      · rw [if_neg hji, show decide (j < i + 1) = decide (j < i) from decide_eq_decide.mpr (by omega)]
    have hat : (decide (i < i + 1) && opB w c o i) = opB w c o i := by simp
    have hsum := sum_le (f := w) (b := 1000) (l := (List.range i).filter (opB w c o)) fun j hj => bw j (by have := List.mem_range.mp (mem_filt hj); omega)
    have hsh := filt_short (opB w c o) i
    have hwi := bw i hi
    simp only [Yu.l1, Yu.m1, atR, rdQ, Q.ask]
    rw [ZQ (show (i : Int) < (a1.length : Int) by omega)]
    simp only [cond_true]
    simp (disch := omega) only [RI.row g1, RI.row g2, ZY, Zad, Z6, hgw, hgc, Int.toNat_natCast, hw1]
    by_cases hpos : 0 < w i
    · rw [ZQ (show w i > 0 from hpos)]
      simp only [cond_true]
      have hop : decide (o i < c i) = opB w c o i := by unfold opB; rw [ZQ hpos, Bool.true_and]
      rw [ZaP ⟨by omega, by rw [Yau]; omega⟩, Ya1 hi]
      simp only [List.drop_zero, ZY, cD_at, Zad, hop, hmod _ rfl]
      rw [ZaP ⟨by omega, by rw [Yau]; omega⟩, ZaP (by rw [Yau]; exact hi), ZaP ⟨by omega, by rw [Yau]; omega⟩, Ya1 hi]
      simp only [List.drop_zero, ZY, cD_at, ZaQ, hat]
      rw [Ya2]
      cases hp : opB w c o i with
      | false => simp only [cond_false, Bool.false_eq_true, if_false, List.append_nil]
      | true =>
        simp only [cond_true, if_true]
        rw [Zj (by unfold smL; omega) (by unfold smL; omega)]
        unfold smL
        rw [List.map_append, List.sum_append]
        simp
    · rw [ZV (show ¬ w i > 0 from hpos)]
      simp only [cond_false]
      have hp : false = opB w c o i := by unfold opB; rw [ZV hpos, Bool.false_and]
      simp only [hmod _ hp]
      rw [ZaP ⟨by omega, by rw [Yau]; omega⟩, ZaP (by rw [Yau]; exact hi), ZaP ⟨by omega, by rw [Yau]; omega⟩, Ya1 hi]
      simp only [List.drop_zero, ZY, cD_at, ZaQ, hat]
      rw [Ya2, ← hp]
      simp only [cond_false, Bool.false_eq_true, if_false, List.append_nil]
  simp only [Yu.l1, Yu.m1, atR, rdQ, Q.ask]
  rw [ZV (show ¬ (a1.length : Int) < (a1.length : Int) by omega)]
  simp only [cond_false]
  have hopd : (List.range a1.length).filter (opB w c o) = opL w c o a1.length := rfl
  rw [hopd]
  by_cases h0 : opL w c o a1.length = []
  · rw [if_pos h0, h0]
    rfl
  rw [if_neg h0]
  obtain ⟨o1, o2⟩ := opL_facts (w := w) (c := c) (o := o) (L := a1.length)
  have hw0 : ∀ i ∈ opL w c o a1.length, 0 < w i := fun i hi => ((o2 i).mp hi).2.1
  obtain ⟨f1, _⟩ := lfD_bound (Int.le_of_lt hn) hw0 h0
  rw [show (smL w (opL w c o a1.length) == 0) = false from beq_eq_false_iff_ne.mpr (by omega)]
  simp only [cond_false]
  have hop2 : C.immRows (YaQ a1.length (cB fun j => decide (j < a1.length) && opB w c o j)) = rowD a1.length (fun j => .bool (opB w c o j)) := by
    rw [YaZ (h := cB (opB w c o)) fun j hj => by simp [hj], imm_rowF]
    rfl
  obtain ⟨q1, q2, q3⟩ := clD_sum o1 hn hw0 (fun i hi => ((o2 i).mp hi).2.2) h0
  rw [hop2, wants_fv hw rfl rfl g1 bw hn hn2 h0 hl hk]
  have hmem := fun i (hi : i < a1.length) => opB_mem (w := w) (c := c) (o := o) hi
  have hnO : ∀ j, nxO w c o a1.length n j = o j + if j ∈ opL w c o a1.length then clD w c o n (smL w (opL w c o a1.length)) (opL w c o a1.length) j else 0 := fun j => rfl
  have hnN : nxN w c o a1.length n = n - ((opL w c o a1.length).map (clD w c o n (smL w (opL w c o a1.length)) (opL w c o a1.length))).sum := rfl
  have hcl : ∀ i, clD w c o n (smL w (opL w c o a1.length)) (opL w c o a1.length) i = if c i - o i < xD w n (smL w (opL w c o a1.length)) (opL w c o a1.length) i then c i - o i else xD w n (smL w (opL w c o a1.length)) (opL w c o a1.length) i := fun i => rfl
  generalize hx : xD w n (smL w (opL w c o a1.length)) (opL w c o a1.length) = x at *
  generalize hcl2 : clD w c o n (smL w (opL w c o a1.length)) (opL w c o a1.length) = cl at *
  generalize hope : opL w c o a1.length = op at *
  generalize nxO w c o a1.length n = nO at *
  generalize nxN w c o a1.length n = nN at *
  have hy : ∀ j, j < a1.length → (if c j - o j < (if j ∈ op then x j else 0) then c j - o j else (if j ∈ op then x j else 0)) = if j ∈ op then cl j else 0 := fun j hj => by
    by_cases hm : j ∈ op
    · simp only [if_pos hm, hcl]
    · have := ho j hj
      simp only [if_neg hm]
      rw [if_neg (by omega)]
  have hst : YaQ a1.length (cI o) = YaQ a1.length (cI fun j => if j < 0 then nO j else o j) := YaZ fun j hj => by simp
  have hst2 : YaQ a1.length (cI fun j => if j ∈ op then x j else 0) = YaQ a1.length (cI fun j => if j < 0 then (if j ∈ op then cl j else 0) else (if j ∈ op then x j else 0)) := YaZ fun j hj => by simp
  rw [hst, hst2, show ((n, 0, YaQ a1.length (cI fun j => if j < 0 then nO j else o j), YaQ a1.length (cI fun j => if j < 0 then (if j ∈ op then cl j else 0) else (if j ∈ op then x j else 0))) : Int × Int × List (List C) × List (List C)) = (n - (((List.range 0).filter (opB w c o)).map cl).sum, ((0 : Nat) : Int), YaQ a1.length (cI fun j => if j < 0 then nO j else o j), YaQ a1.length (cI fun j => if j < 0 then (if j ∈ op then cl j else 0) else (if j ∈ op then x j else 0))) from by simp]
  refine iter_seq (f := fun i => (n - (((List.range i).filter (opB w c o)).map cl).sum, (i : Int), YaQ a1.length (cI fun j => if j < i then nO j else o j), YaQ a1.length (cI fun j => if j < i then (if j ∈ op then cl j else 0) else (if j ∈ op then x j else 0)))) (n := a1.length) hkk (fun M i hi => ?_) (fun M => ?_)
  · have hw1 : IntKind.wrap .i64 ((i : Int) + 1) = ((i + 1 : Nat) : Int) := by rw [Zj (by omega) (by omega)]; omega
    have hoi := ho i hi
    have hci := bc i hi
    have hyi := hy i hi
    have hsum := sum_le (f := cl) (b := 10000) (l := (List.range i).filter (opB w c o)) fun j hj => by
      have hj1 : j < a1.length := by have := List.mem_range.mp (mem_filt hj); omega
      have := q1 j ((hmem j hj1).mp (List.mem_filter.mp hj).2)
      have := bc j hj1
      have := ho j hj1
      omega
    have hsh := filt_short (opB w c o) i
    have hnext : (((List.range (i + 1)).filter (opB w c o)).map cl).sum = (((List.range i).filter (opB w c o)).map cl).sum + if i ∈ op then cl i else 0 := by
      rw [Ya2, List.map_append, List.sum_append]
      by_cases hm : i ∈ op
      · rw [if_pos hm, if_pos ((hmem i hi).mpr hm)]; simp
      · rw [if_neg hm, if_neg fun h => hm ((hmem i hi).mp h)]; simp
    have hY0 : 0 ≤ (if i ∈ op then cl i else 0) ∧ (if i ∈ op then cl i else 0) ≤ c i - o i := by
      by_cases hm : i ∈ op
      · rw [if_pos hm]; have := q1 i hm; omega
      · rw [if_neg hm]; omega
    have hmodo : ((YaQ a1.length (cI fun j => if j < i then nO j else o j)).modify i fun z => Zq z 0 [.d (.int .i64 (o i + if i ∈ op then cl i else 0))]) = YaQ a1.length (cI fun j => if j < i + 1 then nO j else o j) := by
      rw [Ya8 hi]
      refine YaZ fun j hj => ?_
      show (if j = i then C.d (.int .i64 (o i + if i ∈ op then cl i else 0)) else C.d (.int .i64 (if j < i then nO j else o j))) = C.d (.int .i64 (if j < i + 1 then nO j else o j))
      by_cases hji : j = i
      · subst hji
        rw [if_pos rfl, if_pos (by omega : j < j + 1), hnO]
      · rw [if_neg hji, Ya7 (p := j < i + 1) (q := j < i) (by omega) rfl]
    have hmodx : ((YaQ a1.length (cI fun j => if j < i then (if j ∈ op then cl j else 0) else (if j ∈ op then x j else 0))).modify i fun z => Zq z 0 [.d (.int .i64 (if i ∈ op then cl i else 0))]) = YaQ a1.length (cI fun j => if j < i + 1 then (if j ∈ op then cl j else 0) else (if j ∈ op then x j else 0)) := by
      rw [Ya8 hi]
      refine YaZ fun j hj => ?_
      show (if j = i then C.d (.int .i64 (if i ∈ op then cl i else 0)) else C.d (.int .i64 (if j < i then (if j ∈ op then cl j else 0) else (if j ∈ op then x j else 0)))) = C.d (.int .i64 (if j < i + 1 then (if j ∈ op then cl j else 0) else (if j ∈ op then x j else 0)))
      by_cases hji : j = i
      · subst hji
        rw [if_pos rfl, if_pos (by omega : j < j + 1)]
      · rw [if_neg hji, Ya7 (p := j < i + 1) (q := j < i) (by omega) rfl]
    have hato : (if i < i then nO i else o i) = o i := if_neg (by omega)
    have hatx : (if i < i then (if i ∈ op then cl i else 0) else (if i ∈ op then x i else 0)) = (if i ∈ op then x i else 0) := if_neg (by omega)
    have hatx2 : (if i < i + 1 then (if i ∈ op then cl i else 0) else (if i ∈ op then x i else 0)) = (if i ∈ op then cl i else 0) := if_pos (by omega)
    simp only [Yu.l2, atR, rdQ, Q.ask]
    rw [ZQ (show (i : Int) < (a1.length : Int) by omega)]
    simp only [cond_true]
    rw [ZaP ⟨by omega, by rw [Yau]; omega⟩, Int.toNat_natCast, Ya1 hi]
    simp only [List.drop_zero, ZY, cD_at, Zad, hatx]
    simp (disch := omega) only [RI.row g2, ZY, Zad, Z6, hgc, hw1]
    rw [ZaP ⟨by omega, by rw [Yau]; omega⟩, Ya1 hi]
    simp only [List.drop_zero, ZY, cD_at, Zad, hato]
    have hwc : IntKind.wrap .i64 (c i - o i) = c i - o i := Zj (by omega) (by omega)
    simp only [hwc]
    have hwy : IntKind.wrap .i64 (if i ∈ op then cl i else 0) = (if i ∈ op then cl i else 0) := Zj (by omega) (by omega)
    by_cases hgt : c i - o i < if i ∈ op then x i else 0
    · rw [if_pos hgt] at hyi
      rw [ZQ (show (if i ∈ op then x i else 0) > c i - o i from hgt)]
      simp only [cond_true, hyi, hmodx]
      rw [ZaP ⟨by omega, by rw [Yau]; omega⟩, Ya1 hi]
      simp only [List.drop_zero, ZY, cD_at, Zad, hato, hwc, hyi, hwy, hmodx]
      rw [ZaP ⟨by omega, by rw [Yau]; omega⟩, ZaP (by rw [Yau]; exact hi), ZaP ⟨by omega, by rw [Yau]; omega⟩, Ya1 hi]
      simp only [List.drop_zero, ZY, cD_at, Zad, hato]
      rw [ZaP ⟨by omega, by rw [Yau]; omega⟩, Ya1 hi]
      simp only [List.drop_zero, ZY, cD_at, Zad, hatx2]
      rw [ZaP ⟨by omega, by rw [Yau]; omega⟩, ZaP (by rw [Yau]; exact hi), ZaP ⟨by omega, by rw [Yau]; omega⟩, Ya1 hi]
      simp only [List.drop_zero, ZY, cD_at, Zad, hatx2]
      rw [Zj (by omega) (by omega), Zj (by omega) (by omega), hmodo, hnext, Int.sub_sub]
    · rw [if_neg hgt] at hyi
      rw [ZV (show ¬ (if i ∈ op then x i else 0) > c i - o i from hgt)]
      simp only [cond_false]
      have hsame : YaQ a1.length (cI fun j => if j < i then (if j ∈ op then cl j else 0) else (if j ∈ op then x j else 0)) = YaQ a1.length (cI fun j => if j < i + 1 then (if j ∈ op then cl j else 0) else (if j ∈ op then x j else 0)) := YaZ fun j hj => by
        show C.d (.int .i64 (if j < i then (if j ∈ op then cl j else 0) else (if j ∈ op then x j else 0))) = C.d (.int .i64 (if j < i + 1 then (if j ∈ op then cl j else 0) else (if j ∈ op then x j else 0)))
        by_cases hji : j = i
        · subst hji; rw [hatx, hatx2, hyi]
        · rw [Ya7 (p := j < i + 1) (q := j < i) (by omega) rfl]
      rw [ZaP ⟨by omega, by rw [Yau]; omega⟩, Ya1 hi]
      simp only [List.drop_zero, ZY, cD_at, Zad, hato]
      rw [ZaP ⟨by omega, by rw [Yau]; omega⟩, Ya1 hi]
      simp only [List.drop_zero, ZY, cD_at, Zad, hatx]
      rw [ZaP ⟨by omega, by rw [Yau]; omega⟩, ZaP (by rw [Yau]; exact hi), ZaP ⟨by omega, by rw [Yau]; omega⟩, Ya1 hi]
      simp only [List.drop_zero, ZY, cD_at, Zad, hatx, hyi, ite_self]
      rw [Zj (by omega) (by omega), Zj (by omega) (by omega), hmodo, hnext, Int.sub_sub, hsame]
  · simp only [Yu.l2, atR, rdQ, Q.ask]
    rw [ZV (show ¬ (a1.length : Int) < (a1.length : Int) by omega)]
    simp only [cond_false]
    rw [hopd, hnN, YaZ (g := cI fun j => if j < a1.length then nO j else o j) (h := cI nO) fun j hj => by show C.d (.int .i64 (if j < a1.length then nO j else o j)) = C.d (.int .i64 (nO j)); rw [if_pos hj]]
theorem Yv.f_of {β : Type} {k a0 a1 a2 z0} (h : Yv.t k a0 a1 a2 = some z0) (K : (List (List C)) → Option β) : Yv.f k a0 a1 a2 K = K z0 := by unfold Yv.f; rw [h]; rfl
set_option maxRecDepth 100000 in
theorem impl_round {w c o : Nat → Int} {a1 a2 : List (List D)} (h : DivOk w c a1 a2) (ho : ∀ i, i < a1.length → 0 ≤ o i ∧ o i ≤ c i) {n : Int} (hn2 : n ≤ 10000) {k : Nat} (hk : Z3 k) {β : Type} (K : List (List C) → Option β) (L0 : (Int × (List (List D)) × (List (List D)) × (List (List C))) → Option β) :
    Yv.l0 k K L0 (n, a1, a2, YaQ a1.length (cI o)) = roundD w c a1 a2 K L0 n o := by
  obtain ⟨hw, hc, g1, g2, he, hl, bw, bc⟩ := h
  have hb : big = 2 ^ 64 := rfl
  have hmost : ZN = 2 ^ 36 := rfl
  have hkk : a1.length < k := by unfold Z3 at hk; omega
  have hgw : ∀ i : Nat, gI a1 (i : Int) 0 = w i := fun i => by rw [hw]
  have hgc : ∀ i : Nat, gI a2 (i : Int) 0 = c i := fun i => by rw [hc]
  unfold roundD
  simp only [Yv.l0, Yv.m0]
  by_cases hn : 0 < n
  case neg =>
    rw [if_neg hn, ZV (show ¬ n > 0 from hn)]
    rfl
  rw [if_pos hn, ZQ (show n > 0 from hn)]
  simp only [cond_true]
  refine iter_seq (f := fun i => ((i : Int), upN ((List.range i).filter (opB w c o)))) (n := a1.length) hkk (fun L i hi => ?_) (fun L => ?_)
  · have hw1 : IntKind.wrap .i64 ((i : Int) + 1) = ((i + 1 : Nat) : Int) := by rw [Zj (by omega) (by omega)]; omega
    have hsh := filt_short (opB w c o) i
    simp only [Yv.l1, Yv.m1, atR, rdQ, Q.ask]
    rw [ZQ (show (i : Int) < (a1.length : Int) by omega)]
    simp only [cond_true]
    simp (disch := omega) only [RI.row g1, RI.row g2, ZY, Zad, Z6, hgw, hgc, Int.toNat_natCast, hw1]
    rw [Ya2]
    by_cases hpos : 0 < w i
    · rw [ZQ (show w i > 0 from hpos)]
      simp only [cond_true]
      have hop : decide (o i < c i) = opB w c o i := by unfold opB; rw [ZQ hpos, Bool.true_and]
      rw [ZaP ⟨by omega, by rw [Yau]; omega⟩, Ya1 hi]
      simp only [List.drop_zero, ZY, cD_at, Zad, hop]
      cases hp : opB w c o i with
      | false => simp only [cond_false, Bool.false_eq_true, if_false, List.append_nil]
      | true =>
        simp only [cond_true, if_true]
        rw [ZaP (by simp only [Ya5, List.length_cons, List.length_nil]; omega), show [[C.d (.int .i64 (i : Int))]] = upN [i] from rfl, upN_app]
    · rw [ZV (show ¬ w i > 0 from hpos)]
      have hp : opB w c o i = false := by unfold opB; rw [ZV hpos, Bool.false_and]
      simp only [cond_false, hp, Bool.false_eq_true, if_false, List.append_nil]
  simp only [Yv.l1, Yv.m1, atR, rdQ, Q.ask]
  rw [ZV (show ¬ (a1.length : Int) < (a1.length : Int) by omega)]
  simp only [cond_false]
  have hopd : (List.range a1.length).filter (opB w c o) = opL w c o a1.length := rfl
  rw [hopd, Ya5]
  by_cases h0 : opL w c o a1.length = []
  · rw [if_pos h0, h0]
    rfl
  rw [if_neg h0]
  have hopl := op_short (w := w) (c := c) (o := o) hl
  obtain ⟨o1, o2⟩ := opL_facts (w := w) (c := c) (o := o) (L := a1.length)
  have hw0 : ∀ i ∈ opL w c o a1.length, 0 < w i := fun i hi => ((o2 i).mp hi).2.1
  have hl0 : 0 < (opL w c o a1.length).length := List.length_pos_iff.mpr h0
  rw [show (((opL w c o a1.length).length : Int) == 0) = false from beq_eq_false_iff_ne.mpr (by omega)]
  simp only [cond_false]
  obtain ⟨q1, q2, q3⟩ := clD_sum o1 hn hw0 (fun i hi => ((o2 i).mp hi).2.2) h0
  rw [imm_upN, quotas_fv hw g1 o1 (fun i hi => ((o2 i).mp hi).1) bw hw0 hn hn2 h0 hopl hk]
  have hnO : ∀ j, nxO w c o a1.length n j = o j + if j ∈ opL w c o a1.length then clD w c o n (smL w (opL w c o a1.length)) (opL w c o a1.length) j else 0 := fun j => rfl
  have hnN : nxN w c o a1.length n = n - ((opL w c o a1.length).map (clD w c o n (smL w (opL w c o a1.length)) (opL w c o a1.length))).sum := rfl
  have hcl : ∀ i, clD w c o n (smL w (opL w c o a1.length)) (opL w c o a1.length) i = if c i - o i < xD w n (smL w (opL w c o a1.length)) (opL w c o a1.length) i then c i - o i else xD w n (smL w (opL w c o a1.length)) (opL w c o a1.length) i := fun i => rfl
  generalize hx : xD w n (smL w (opL w c o a1.length)) (opL w c o a1.length) = x at *
  generalize hcl2 : clD w c o n (smL w (opL w c o a1.length)) (opL w c o a1.length) = cl at *
  generalize hope : opL w c o a1.length = op at *
  generalize nxO w c o a1.length n = nO at *
  generalize nxN w c o a1.length n = nN at *
  have hnd : op.Nodup := o1.imp fun h e => by subst e; omega
  have hst : YaQ a1.length (cI o) = YaQ a1.length (cI fun j => if j ∈ op.take 0 then nO j else o j) := YaZ fun j hj => by simp
  rw [Yau, hst, show ((n, 0, YaQ a1.length (cI fun j => if j ∈ op.take 0 then nO j else o j)) : Int × Int × List (List C)) = (n - ((op.take 0).map cl).sum, ((0 : Nat) : Int), YaQ a1.length (cI fun j => if j ∈ op.take 0 then nO j else o j)) from by simp]
  refine iter_seq (f := fun i => (n - ((op.take i).map cl).sum, (i : Int), YaQ a1.length (cI fun j => if j ∈ op.take i then nO j else o j))) (n := op.length) (by omega) (fun M i hi => ?_) (fun M => ?_)
  · have hw1 : IntKind.wrap .i64 ((i : Int) + 1) = ((i + 1 : Nat) : Int) := by rw [Zj (by omega) (by omega)]; omega
    have hm := List.getElem_mem hi
    have hpl := ((o2 _).mp hm).1
    have hoi := ho _ hpl
    have hci := bc _ hpl
    have hqi := q1 _ hm
    have hsum := sum_le (f := cl) (b := 10000) (l := op.take i) fun j hj => by
      have hj1 := List.mem_of_mem_take hj
      have hj2 := ((o2 j).mp hj1).1
      have := q1 j hj1
      have := bc j hj2
      have := ho j hj2
      omega
    have hsh : (op.take i).length ≤ 20 := by rw [List.length_take]; omega
    have hn1 : op[i] ∉ op.take i := fun h => by
      obtain ⟨j, hj, e⟩ := List.getElem_of_mem h
      rw [List.getElem_take] at e
      rw [List.length_take] at hj
      have := (List.getElem_inj (h₀ := by omega) (h₁ := hi) hnd).mp e
      omega
    have hmm : ∀ j, j ∈ op.take (i + 1) ↔ j ∈ op.take i ∨ j = op[i] := fun j => by rw [List.take_add_one, List.getElem?_eq_getElem hi]; simp only [Option.toList, List.mem_append, List.mem_singleton]
    have hmodo : ((YaQ a1.length (cI fun j => if j ∈ op.take i then nO j else o j)).modify op[i] fun z => Zq z 0 [.d (.int .i64 (o op[i] + cl op[i]))]) = YaQ a1.length (cI fun j => if j ∈ op.take (i + 1) then nO j else o j) := by
      rw [Ya8 hpl]
      refine YaZ fun j hj => ?_
      show (if j = op[i] then C.d (.int .i64 (o op[i] + cl op[i])) else C.d (.int .i64 (if j ∈ op.take i then nO j else o j))) = C.d (.int .i64 (if j ∈ op.take (i + 1) then nO j else o j))
      by_cases hji : j = op[i]
      · subst hji
        rw [if_pos rfl, if_pos ((hmm _).mpr (Or.inr rfl)), hnO, if_pos hm]
      · rw [if_neg hji, Ya7 (p := j ∈ op.take (i + 1)) (q := j ∈ op.take i) ⟨fun h => ((hmm j).mp h).resolve_right hji, fun h => (hmm j).mpr (Or.inl h)⟩ rfl]
    simp only [Yv.l2, atR, rdQ, Q.ask]
    rw [ZQ (show (i : Int) < (op.length : Int) by omega)]
    simp only [cond_true]
    rw [ZaP ⟨by omega, by rw [Yau]; omega⟩, Int.toNat_natCast, Ya1 hi]
    simp only [List.drop_zero, ZY, cD_at, Zad, getD_at hi]
    rw [ZaP ⟨by omega, by rw [Ya5]; omega⟩, upN_at hi]
    simp only [List.drop_zero, ZY, cD_at, Zad]
    simp (disch := omega) only [RI.row g2, ZY, Zad, Z6, hgc, hw1, Int.toNat_natCast]
    rw [ZaP ⟨by omega, by rw [Yau]; omega⟩, Ya1 hpl]
    simp only [List.drop_zero, ZY, cD_at, Zad, if_neg hn1]
    rw [ZaP ⟨by omega, by rw [Yau]; omega⟩, Ya1 hpl]
    simp only [List.drop_zero, ZY, cD_at, Zad, if_neg hn1]
    have hwc : IntKind.wrap .i64 (c op[i] - o op[i]) = c op[i] - o op[i] := Zj (by omega) (by omega)
    rw [ZaP ⟨by omega, by rw [Yau]; omega⟩, ZaP (by rw [Yau]; exact hpl)]
    simp only [hwc, ← hcl]
    rw [Zj (by omega) (by omega), Zj (by omega) (by omega), hmodo, Ybe hi, Int.sub_sub]
  · simp only [Yv.l2, atR, rdQ, Q.ask]
    rw [ZV (show ¬ (op.length : Int) < (op.length : Int) by omega)]
    simp only [cond_false, List.take_length]
    rw [hnN, YaZ (g := cI fun j => if j ∈ op then nO j else o j) (h := cI nO) fun j hj => by
      show C.d (.int .i64 (if j ∈ op then nO j else o j)) = C.d (.int .i64 (nO j))
      by_cases hm : j ∈ op
      · rw [if_pos hm]
      · rw [if_neg hm, hnO, if_neg hm, Int.add_zero]]
theorem all_both (p q : Nat → Bool) : ∀ l : List Nat, (l.all fun i => p i && q i) = (l.all p && l.all q)
  | [] => rfl
  | x :: l => by
    simp only [List.all_cons, all_both p q l]
    cases p x <;> cases q x <;> simp
theorem div_rounds {w c : Nat → Int} {a1 a2 : List (List D)} (h : DivOk w c a1 a2) : ∀ (N : Nat) (n : Int) (o : Nat → Int), n.toNat ≤ N → n ≤ 10000 → (∀ i, i < a1.length → 0 ≤ o i ∧ o i ≤ c i) →
    ∃ r : Nat → Int, (∀ i, i < a1.length → 0 ≤ r i ∧ r i ≤ c i) ∧ ∀ {k : Nat}, Z3 k → ∀ m, N < m → ∀ {β : Type} (K : List (List C) → Option β),
      Zo (Yu.l0 k K) m (n, a1, a2, YaQ a1.length (cI o)) = K (YaQ a1.length (cI r)) ∧ Zo (Yv.l0 k K) m (n, a1, a2, YaQ a1.length (cI o)) = K (YaQ a1.length (cI r)) := by
  intro N
  induction N with
  | zero =>
    intro n o hN hn2 ho
    refine ⟨o, ho, fun {k} hk m hm {β} K => ?_⟩
    rw [iter_step hm, iter_step hm, spec_round h ho hn2 hk, impl_round h ho hn2 hk]
    unfold roundD
    rw [if_neg (by omega), if_neg (by omega)]
    exact ⟨rfl, rfl⟩
  | succ N ih =>
    intro n o hN hn2 ho
    by_cases hn : 0 < n
    case neg =>
      refine ⟨o, ho, fun {k} hk m hm {β} K => ?_⟩
      rw [iter_step (by omega), iter_step (by omega), spec_round h ho hn2 hk, impl_round h ho hn2 hk]
      unfold roundD
      rw [if_neg hn, if_neg hn]
      exact ⟨rfl, rfl⟩
    by_cases h0 : opL w c o a1.length = []
    · refine ⟨o, ho, fun {k} hk m hm {β} K => ?_⟩
      rw [iter_step (by omega), iter_step (by omega), spec_round h ho hn2 hk, impl_round h ho hn2 hk]
      unfold roundD
      rw [if_pos hn, if_pos h0, if_pos hn, if_pos h0]
      exact ⟨rfl, rfl⟩
    obtain ⟨o1, o2⟩ := opL_facts (w := w) (c := c) (o := o) (L := a1.length)
    obtain ⟨q1, q2, q3⟩ := clD_sum o1 hn (fun i hi => ((o2 i).mp hi).2.1) (fun i hi => ((o2 i).mp hi).2.2) h0
    have hN' : nxN w c o a1.length n = n - ((opL w c o a1.length).map (clD w c o n (smL w (opL w c o a1.length)) (opL w c o a1.length))).sum := rfl
    obtain ⟨r, hr, hi⟩ := ih (nxN w c o a1.length n) (nxO w c o a1.length n) (by omega) (by omega) fun i hi => by
      have := ho i hi
      unfold nxO
      by_cases hm : i ∈ opL w c o a1.length
      · rw [if_pos hm]; have := q1 i hm; omega
      · rw [if_neg hm]; omega
    refine ⟨r, hr, fun {k} hk m hm {β} K => ?_⟩
    rw [iter_step (by omega), iter_step (by omega), spec_round h ho hn2 hk, impl_round h ho hn2 hk]
    unfold roundD
    rw [if_pos hn, if_neg h0, if_pos hn, if_neg h0]
    exact hi hk (m - 1) (by omega) K
def rightB (n : Int) (a1 a2 : List (List D)) : Bool := inB n 0 10000 && (decide (a1.length ≤ 64) && (decide (a1.length = a2.length) && (List.range a1.length).all fun i => inB (gI a1 (i : Int) 0) 0 1000 && inB (gI a2 (i : Int) 0) 0 10000))
set_option maxRecDepth 100000 in
theorem right_spec {n : Int} {a1 a2 : List (List D)} (g1 : Zi RI lim a1) (g2 : Zi RI lim a2) {k : Nat} (hk : Z3 k) {β : Type} (K : Bool → Option β) : Yaj.f k n a1 a2 K = K (rightB n a1 a2) := Yaj.f_of (by
  have hb : big = 2 ^ 64 := rfl
  have hlen := g1.1
  have hlim : lim = 1048576 := rfl
  unfold Yaj.t Yaj.g rightB
  rw [l1In_fv]
  cases inB n 0 10000
  · rfl
  simp only [Bool.not_true, cond_false, Bool.true_and]
  by_cases h1 : a1.length ≤ 64
  case neg =>
    rw [ZQ (show (a1.length : Int) > 64 by omega), ZV h1]
    rfl
  rw [ZV (show ¬ (a1.length : Int) > 64 by omega), ZQ h1]
  simp only [cond_false, Bool.true_and]
  by_cases h2 : a1.length = a2.length
  case neg =>
    rw [show ((a1.length : Int) != (a2.length : Int)) = true from bne_iff_ne.mpr (by omega), ZV h2]
    rfl
  rw [show ((a1.length : Int) != (a2.length : Int)) = false from bne_eq_false_iff_eq.mpr (by omega), ZQ h2]
  simp only [cond_false, Bool.true_and]
  rw [Zb6 (n := a1.length) (fun i => inB (gI a1 (i : Int) 0) 0 1000 && inB (gI a2 (i : Int) 0) 0 10000) (r1 := some false) (r2 := some true) (by unfold Z3 at hk; omega)]
  · generalize List.all _ _ = x
    cases x <;> rfl
  · intro L i hi
    simp (disch := omega) only [Yaj.l0, atR, rdQ, Q.ask, ZQ (show (i : Int) < a1.length by omega), cond_true, RI.row g1, RI.row g2, ZY, Zad, Z6, l1In_fv, Zj]
    cases inB (gI a1 (i : Int) 0) 0 1000 <;> cases inB (gI a2 (i : Int) 0) 0 10000 <;> rfl
  · intro L
    simp [Yaj.l0, atR, rdQ, Q.ask]) K
set_option maxRecDepth 100000 in
theorem right_impl {n : Int} {a1 a2 : List (List D)} (g1 : Zi RI lim a1) (g2 : Zi RI lim a2) {k : Nat} (hk : Z3 k) {β : Type} (K : Bool → Option β) : YaJ.f k n a1 a2 K = K (rightB n a1 a2) := YaJ.f_of (by
  have hb : big = 2 ^ 64 := rfl
  have hlen := g1.1
  have hlen2 := g2.1
  have hlim : lim = 1048576 := rfl
  have c1 : ∀ {β : Type} (K : Bool → Option β), YA.f k a1 K = K (!(List.range a1.length).all fun i => inB (gI a1 (i : Int) 0) 0 1000) := fun K => YA.f_of (by
    unfold YA.t YA.g
    have hf : ∀ {β : Type} (K : Int → Option β), Yi.f k a1 K = K (Zbo (fun i => !inB (gI a1 (i : Int) 0) 0 1000) a1.length) := fun K => Yi.f_of (by
      unfold Yi.t Yi.g
      refine iter_findI (n := a1.length) _ some (by unfold Z3 at hk; omega) (fun L i hi => ?_) (fun L => by simp [Yi.l0, atR, rdQ, Q.ask])
      have hs : ∀ {β : Type} (K : Bool → Option β), Yaw.f k (gI a1 (i : Int) 0) K = K (!inB (gI a1 (i : Int) 0) 0 1000) := fun K => Yaw.f_of (by unfold Yaw.t Yaw.g; rw [within_fv]) K
      simp (disch := omega) only [Yi.l0, atR, rdQ, Q.ask, ZQ (show (i : Int) < a1.length by omega), cond_true, RI.row g1, ZY, Zad, Z6, hs, Zj]) K
    rw [hf, findI_all]
    simp only [Bool.not_not]) K
  have c2 : ∀ {β : Type} (K : Bool → Option β), Yz.f k a2 K = K (!(List.range a2.length).all fun i => inB (gI a2 (i : Int) 0) 0 10000) := fun K => Yz.f_of (by
    unfold Yz.t Yz.g
    have hf : ∀ {β : Type} (K : Int → Option β), Yh.f k a2 K = K (Zbo (fun i => !inB (gI a2 (i : Int) 0) 0 10000) a2.length) := fun K => Yh.f_of (by
      unfold Yh.t Yh.g
      refine iter_findI (n := a2.length) _ some (by unfold Z3 at hk; omega) (fun L i hi => ?_) (fun L => by simp [Yh.l0, atR, rdQ, Q.ask])
      have hs : ∀ {β : Type} (K : Bool → Option β), Yav.f k (gI a2 (i : Int) 0) K = K (!inB (gI a2 (i : Int) 0) 0 10000) := fun K => Yav.f_of (by unfold Yav.t Yav.g; rw [within_fv]) K
      simp (disch := omega) only [Yh.l0, atR, rdQ, Q.ask, ZQ (show (i : Int) < a2.length by omega), cond_true, RI.row g2, ZY, Zad, Z6, hs, Zj]) K
    rw [hf, findI_all]
    simp only [Bool.not_not]) K
  unfold YaJ.t YaJ.g rightB
  rw [within_fv]
  cases inB n 0 10000
  · rfl
  simp only [cond_true, Bool.true_and]
  by_cases h1 : a1.length ≤ 64
  case neg =>
    rw [ZV (show ¬ (a1.length : Int) ≤ 64 by omega), ZV h1]
    rfl
  rw [ZQ (show (a1.length : Int) ≤ 64 by omega), ZQ h1]
  simp only [cond_true, Bool.true_and]
  by_cases h2 : a1.length = a2.length
  case neg =>
    rw [show ((a2.length : Int) == (a1.length : Int)) = false from beq_eq_false_iff_ne.mpr (by omega), ZV h2]
    rfl
  rw [show ((a2.length : Int) == (a1.length : Int)) = true from beq_iff_eq.mpr (by omega), ZQ h2, c1, c2, ← h2]
  simp only [cond_true, Bool.true_and, Bool.not_not]
  rw [show (List.range a1.length).all (fun i => inB (gI a1 (i : Int) 0) 0 1000 && inB (gI a2 (i : Int) 0) 0 10000) = ((List.range a1.length).all (fun i => inB (gI a1 (i : Int) 0) 0 1000) && (List.range a1.length).all (fun i => inB (gI a2 (i : Int) 0) 0 10000)) from all_both _ _ _]
  cases (List.range a1.length).all fun i => inB (gI a1 (i : Int) 0) 0 1000 <;> rfl) K
theorem div_fv {n : Int} {a1 a2 : List (List D)} (g1 : Zi RI lim a1) (g2 : Zi RI lim a2) (hl : a1.length < 20) : ∃ r : List (List C), (r = [] ∨ ∃ o : Nat → Int, r = YaQ a1.length (cI o) ∧ ∀ i, i < a1.length → 0 ≤ o i ∧ o i ≤ 10000) ∧ (rightB n a1 a2 = false → r = []) ∧ ∀ {k : Nat}, Z3 k → ∀ {β : Type} (K : List (List C) → Option β), Yu.f k n a1 a2 K = K r ∧ Yv.f k n a1 a2 K = K r := by
  have hb : big = 2 ^ 64 := rfl
  have hmost : ZN = 2 ^ 36 := rfl
  cases hR : rightB n a1 a2 with
  | false =>
    refine ⟨[], .inl rfl, fun _ => rfl, fun {k} hk {β} K => ⟨Yu.f_of ?_ K, Yv.f_of ?_ K⟩⟩
    · unfold Yu.t Yu.g Yu.m
      rw [right_spec g1 g2 hk, hR]
      rfl
    · unfold Yv.t Yv.g Yv.m
      rw [right_impl g1 g2 hk, hR]
      rfl
  | true =>
    have hR' := hR
    unfold rightB at hR'
    simp only [Bool.and_eq_true, decide_eq_true_eq, List.all_eq_true, List.mem_range, inB] at hR'
    obtain ⟨⟨hn0, hn⟩, _, he, ha⟩ := hR'
    obtain ⟨r, hr, hi⟩ := div_rounds (w := fun i : Nat => gI a1 (i : Int) 0) (c := fun i : Nat => gI a2 (i : Int) 0) (a1 := a1) (a2 := a2) ⟨rfl, rfl, g1, g2, he.symm, hl, fun i hi => (ha i hi).1, fun i hi => (ha i hi).2.2⟩ 10000 n (fun _ => 0) (by omega) hn (fun i hi => ⟨Int.le_refl _, (ha i hi).2.1⟩)
    refine ⟨YaQ a1.length (cI r), .inr ⟨r, rfl, fun i hi => by have := hr i hi; have := (ha i hi).2.2; omega⟩, fun h => by simp at h, fun {k} hk {β} K => ⟨Yu.f_of ?_ K, Yv.f_of ?_ K⟩⟩
    · unfold Yu.t Yu.g Yu.m
      rw [right_spec g1 g2 hk, hR]
      simp only [Bool.not_true, cond_false]
      rw [ZaP ⟨by omega, by omega, by omega, by omega⟩, Int.toNat_natCast, rowF_rep]
      exact (hi hk k (by unfold Z3 at hk; omega) some).1
    · unfold Yv.t Yv.g Yv.m
      rw [right_impl g1 g2 hk, hR]
      simp only [Bool.not_true, cond_false]
      rw [ZaP ⟨by omega, by omega, by omega, by omega⟩, Int.toNat_natCast, rowF_rep]
      exact (hi hk k (by unfold Z3 at hk; omega) some).2
theorem Y3.tm {ι α : Type} {ok : ι → Prop} {ψ : α → Prop} {p : ι → Nat} {B : Nat} (hp : ∀ i, ok i → B ≤ p i) {aD aC aE aG a1 a2 φ} (h : Tm (fun k => B ≤ k) (fun k => Y3.t k aD aC aE aG a1 a2) φ) {G : ι → (List (List C)) → Option α} (hG : ∀ z0, φ z0 → Tm ok (fun i => G i z0) ψ) : Tm ok (fun i => Y3.f (p i) aD aC aE aG a1 a2 (G i)) ψ := ZK (t := fun k => Y3.t k aD aC aE aG a1 a2) hp h hG
theorem wf_mk {n : Int} (h1 : -9223372036854775808 ≤ n) (h2 : n ≤ 9223372036854775807) : (Lit.int .i64 n).wf = true := by
  simp [Lit.wf, IntKind.min, IntKind.max, IntKind.signed, IntKind.bits]
  omega
set_option maxRecDepth 100000 in
theorem weight_wf {aD : Int} {aC aE aG : List (List D)} {a1 : ByteArray} (g0 : Zi Yas lim aC) (g1 : Zi RS lim aE) (g2 : Zi RSI lim aG) (g3 : a1.size ≤ lim) : (Lit.int .i64 (YF.v aD aC aE aG a1)).wf = true := by
  have hb : big = 2 ^ 64 := rfl
  have hlim : lim = 1048576 := rfl
  have hlen := g2.1
  have hk : Z3 big := Nat.le_refl _
  have h : ∃ y, (Lit.int .i64 y).wf = true ∧ YF.t big aD aC aE aG a1 = some y := by
    unfold YF.t YF.g
    rw [iter_find (n := aG.length) (fun i => Zae (gS aG (i : Int) 0) a1) (r1 := fun i => some (gI aG (i : Int) 1)) (r2 := some 1) (by omega)]
    · cases hf : (List.range aG.length).find? fun i : Nat => Zae (gS aG (i : Int) 0) a1 with
      | none => exact ⟨1, by decide, rfl⟩
      | some i =>
        have hi := List.mem_range.mp (List.mem_of_find?_eq_some hf)
        exact ⟨_, (RSI.gets g2.2 (v := (i : Int)) (by omega) (by omega)).2.2.1, rfl⟩
    · intro L i hi
      simp (disch := omega) only [YF.l0, atR, rdQ, Q.ask, ZQ (show (i : Int) < aG.length by omega), cond_true, RSI.row g2, ZY, Zaj, Zad, Z6, Zj]
    · intro L
      simp [YF.l0, atR, rdQ, Q.ask]
  obtain ⟨y, h1, h2⟩ := h
  rw [YF.tv g0 g1 g2 g3 hk] at h2
  injection h2 with h2
  rw [h2]
  exact h1
section
variable (aD : Int) (aC aE aG a1 : List (List D))
noncomputable def wtV (i : Nat) : Int := bif YE.v aD aC aE aG (gS a1 (i : Int) 0) (gL a1 (i : Int) 1) (gL a1 (i : Int) 2) (gI a1 (i : Int) 3) then YF.v aD aC aE aG (gS a1 (i : Int) 0) else 0
end
set_option maxRecDepth 100000 in
theorem spec_weights {aD : Int} {aC aE aG a1 a2 : List (List D)} (g1 : Zi Yas lim aC) (g2 : Zi RS lim aE) (g3 : Zi RSI lim aG) (g4 : Zi Yal lim a1) {k : Nat} (hk : Z3 k) {β : Type} (K : List (List C) → Option β) :
    Zo (Y2.l0 k a1 a2 aD aC aE aG K) k (0, []) = bif (List.range a1.length).all (fun i => YM.v (gS a1 (i : Int) 0) (gL a1 (i : Int) 1) (gL a1 (i : Int) 2) (gI a1 (i : Int) 3)) then Yu.f k aD (rowD a1.length fun j => .int .i64 (wtV aD aC aE aG a1 j)) a2 K else K [] := by
  have hb : big = 2 ^ 64 := rfl
  have hmost : ZN = 2 ^ 36 := rfl
  have hlim : lim = 1048576 := rfl
  have hlen := g4.1
  refine iter_allT (fun i => ((i : Int), YaQ i (cI (wtV aD aC aE aG a1)))) (n := a1.length) _ (by unfold Z3 at hk; omega) (fun L i hi => ?_) (fun L => ?_)
  · obtain ⟨_, e0, e1, e2, _⟩ := Yal.get g4 (v := (i : Int)) (by omega) (by omega)
    have hw1 : IntKind.wrap .i64 ((i : Int) + 1) = ((i + 1 : Nat) : Int) := by rw [Zj (by omega) (by omega)]; omega
    have hsn : ∀ y, y = wtV aD aC aE aG a1 i → YaQ i (cI (wtV aD aC aE aG a1)) ++ [[.d (.int .i64 y)]] = YaQ (i + 1) (cI (wtV aD aC aE aG a1)) := fun y hy => by
      rw [← rowF_snoc, hy]
    have hgd : (YaQ i (cI (wtV aD aC aE aG a1))).length + 1 ≤ ZN := by rw [Yau]; omega
    simp only [Y2.l0, atR, rdQ, Q.ask]
    rw [ZQ (show (i : Int) < (a1.length : Int) by omega)]
    simp (disch := omega) only [cond_true, Yal.row g4, ZY, Zaj, Za7, Zad, Z6, YM.fv e0 e1 e2 hk, YE.fv g1 g2 g3 e0 e1 e2 hk, YF.fv g1 g2 g3 e0 hk, hw1, List.length_cons, List.length_nil, Nat.zero_add]
    cases YM.v (gS a1 (i : Int) 0) (gL a1 (i : Int) 1) (gL a1 (i : Int) 2) (gI a1 (i : Int) 3)
    · rfl
    simp only [Bool.not_true, cond_false, cond_true]
    cases hE : YE.v aD aC aE aG (gS a1 (i : Int) 0) (gL a1 (i : Int) 1) (gL a1 (i : Int) 2) (gI a1 (i : Int) 3)
    · simp only [cond_false]
      rw [ZaP hgd, hsn _ (by unfold wtV; rw [hE]; rfl)]
    · simp only [cond_true]
      rw [ZaP hgd, hsn _ (by unfold wtV; rw [hE]; rfl)]
  · simp only [Y2.l0, atR, rdQ, Q.ask]
    rw [ZV (show ¬ (a1.length : Int) < (a1.length : Int) by omega)]
    simp only [cond_false]
    rw [imm_rowF]
    rfl
set_option maxRecDepth 100000 in
theorem impl_weights {aD : Int} {aC aE aG a1 a2 : List (List D)} (g1 : Zi Yas lim aC) (g2 : Zi RS lim aE) (g3 : Zi RSI lim aG) (g4 : Zi Yal lim a1) {k : Nat} (hk : Z3 k) {β : Type} (K : List (List C) → Option β) :
    Zo (Y3.l0 k a2 a1 (a1.length : Int) aD aC aE aG K) k (0, []) = Yv.f k aD (rowD a1.length fun j => .int .i64 (wtV aD aC aE aG a1 j)) a2 K := by
  have hb : big = 2 ^ 64 := rfl
  have hmost : ZN = 2 ^ 36 := rfl
  have hlim : lim = 1048576 := rfl
  have hlen := g4.1
  refine iter_seq (f := fun i => ((i : Int), YaQ i (cI (wtV aD aC aE aG a1)))) (n := a1.length) (by unfold Z3 at hk; omega) (fun L i hi => ?_) (fun L => ?_)
  · obtain ⟨_, e0, e1, e2, _⟩ := Yal.get g4 (v := (i : Int)) (by omega) (by omega)
    have hw1 : IntKind.wrap .i64 ((i : Int) + 1) = ((i + 1 : Nat) : Int) := by rw [Zj (by omega) (by omega)]; omega
    have hsn : ∀ y, y = wtV aD aC aE aG a1 i → YaQ i (cI (wtV aD aC aE aG a1)) ++ [[.d (.int .i64 y)]] = YaQ (i + 1) (cI (wtV aD aC aE aG a1)) := fun y hy => by
      rw [← rowF_snoc, hy]
    have hgd : (YaQ i (cI (wtV aD aC aE aG a1))).length + 1 ≤ ZN := by rw [Yau]; omega
    have hE : ∀ {β : Type} (K : Bool → Option β), YaB.f k aD aC aE aG (gS a1 (i : Int) 0) (gL a1 (i : Int) 1) (gL a1 (i : Int) 2) (gI a1 (i : Int) 3) K = K (YE.v aD aC aE aG (gS a1 (i : Int) 0) (gL a1 (i : Int) 1) (gL a1 (i : Int) 2) (gI a1 (i : Int) 3)) := fun K => YaB.f_of (by rw [YaB.same g1 g2 g3 e0 e1 e2 hk, YE.tv g1 g2 g3 e0 e1 e2 hk]) K
    have hW : ∀ {β : Type} (K : Int → Option β), Yab.f k aD aC aE aG (gS a1 (i : Int) 0) K = K (YF.v aD aC aE aG (gS a1 (i : Int) 0)) := fun K => Yab.f_of (by rw [Yab.same g1 g2 g3 e0 hk, YF.tv g1 g2 g3 e0 hk]) K
    simp only [Y3.l0, atR, rdQ, Q.ask]
    rw [ZQ (show (i : Int) < (a1.length : Int) by omega)]
    simp (disch := omega) only [cond_true, Yal.row g4, ZY, Zaj, Za7, Zad, Z6, hE, hW, hw1, List.length_cons, List.length_nil, Nat.zero_add]
    cases hE : YE.v aD aC aE aG (gS a1 (i : Int) 0) (gL a1 (i : Int) 1) (gL a1 (i : Int) 2) (gI a1 (i : Int) 3)
    · simp only [cond_false]
      rw [ZaP hgd, hsn _ (by unfold wtV; rw [hE]; rfl)]
    · simp only [cond_true]
      rw [ZaP hgd, hsn _ (by unfold wtV; rw [hE]; rfl)]
  · simp only [Y3.l0, atR, rdQ, Q.ask]
    rw [ZV (show ¬ (a1.length : Int) < (a1.length : Int) by omega)]
    simp only [cond_false]
    rw [imm_rowF]
    rfl
theorem wt_row {aD : Int} {aC aE aG a1 : List (List D)} (g1 : Zi Yas lim aC) (g2 : Zi RS lim aE) (g3 : Zi RSI lim aG) (g4 : Zi Yal lim a1) : Zi RI lim (rowD a1.length fun j => .int .i64 (wtV aD aC aE aG a1 j)) := by
  refine ⟨by rw [rowD_len]; exact g4.1, fun r hr => ?_⟩
  obtain ⟨j, hj, rfl⟩ := List.mem_map.mp hr
  have hj := List.mem_range.mp hj
  obtain ⟨_, e0, _⟩ := Yal.get g4 (v := (j : Int)) (by omega) (by omega)
  refine ⟨_, rfl, ?_, trivial⟩
  unfold wtV
  cases YE.v aD aC aE aG (gS a1 (j : Int) 0) (gL a1 (j : Int) 1) (gL a1 (j : Int) 2) (gI a1 (j : Int) 3)
  · rfl
  · exact weight_wf g1 g2 g3 e0
set_option maxRecDepth 100000 in
theorem Ybc {aD : Int} {aC aE aG a1 a2 : List (List D)} (g1 : Zi Yas lim aC) (g2 : Zi RS lim aE) (g3 : Zi RSI lim aG) (g4 : Zi Yal lim a1) (g5 : Zi RI lim a2) {k : Nat} (hk : Z3 k) {β : Type} (K : Bool → Option β) :
    YaI.f k aD aC aE aG a1 a2 K = K (YG.v aD aC aE aG && (decide (a1.length ≤ 12) && (decide (a2.length = a1.length) && ((List.range a1.length).all (fun i => YM.v (gS a1 (i : Int) 0) (gL a1 (i : Int) 1) (gL a1 (i : Int) 2) (gI a1 (i : Int) 3)) && (List.range a2.length).all fun i => inB (gI a2 (i : Int) 0) 0 10000)))) := YaI.f_of (by
  have hb : big = 2 ^ 64 := rfl
  have hlen := g4.1
  have hlen2 := g5.1
  have hlim : lim = 1048576 := rfl
  have c1 : ∀ {β : Type} (K : Bool → Option β), Yo.f k a1 K = K (!(List.range a1.length).all fun i => YM.v (gS a1 (i : Int) 0) (gL a1 (i : Int) 1) (gL a1 (i : Int) 2) (gI a1 (i : Int) 3)) := fun K => Yo.f_of (by
    unfold Yo.t Yo.g
    have hf : ∀ {β : Type} (K : Int → Option β), Ye.f k a1 K = K (Zbo (fun i => !YM.v (gS a1 (i : Int) 0) (gL a1 (i : Int) 1) (gL a1 (i : Int) 2) (gI a1 (i : Int) 3)) a1.length) := fun K => Ye.f_of (by
      unfold Ye.t Ye.g
      refine iter_findI (n := a1.length) _ some (by unfold Z3 at hk; omega) (fun L i hi => ?_) (fun L => by simp [Ye.l0, atR, rdQ, Q.ask])
      obtain ⟨_, e0, e1, e2, _⟩ := Yal.get g4 (v := (i : Int)) (by omega) (by omega)
      have hs : ∀ {β : Type} (K : Bool → Option β), Yay.f k (gS a1 (i : Int) 0) (gL a1 (i : Int) 1) (gL a1 (i : Int) 2) (gI a1 (i : Int) 3) K = K (!YM.v (gS a1 (i : Int) 0) (gL a1 (i : Int) 1) (gL a1 (i : Int) 2) (gI a1 (i : Int) 3)) := fun K => Yay.f_of (by
        unfold Yay.t Yay.g Yaz.f
        rw [Yaz.same e0 e1 e2 hk, YM.tv e0 e1 e2 hk]
        rfl) K
      simp (disch := omega) only [Ye.l0, atR, rdQ, Q.ask, ZQ (show (i : Int) < a1.length by omega), cond_true, Yal.row g4, ZY, Zaj, Za7, Zad, Z6, hs, Zj]) K
    rw [hf, findI_all]
    simp only [Bool.not_not]) K
  have c2 : ∀ {β : Type} (K : Bool → Option β), YB.f k a2 K = K (!(List.range a2.length).all fun i => inB (gI a2 (i : Int) 0) 0 10000) := fun K => YB.f_of (by
    unfold YB.t YB.g
    have hf : ∀ {β : Type} (K : Int → Option β), Yj.f k a2 K = K (Zbo (fun i => !inB (gI a2 (i : Int) 0) 0 10000) a2.length) := fun K => Yj.f_of (by
      unfold Yj.t Yj.g
      refine iter_findI (n := a2.length) _ some (by unfold Z3 at hk; omega) (fun L i hi => ?_) (fun L => by simp [Yj.l0, atR, rdQ, Q.ask])
      have hs : ∀ {β : Type} (K : Bool → Option β), Yax.f k (gI a2 (i : Int) 0) K = K (!inB (gI a2 (i : Int) 0) 0 10000) := fun K => Yax.f_of (by unfold Yax.t Yax.g; rw [isCopies_f]; rfl) K
      simp (disch := omega) only [Yj.l0, atR, rdQ, Q.ask, ZQ (show (i : Int) < a2.length by omega), cond_true, RI.row g5, ZY, Zad, Z6, hs, Zj]) K
    rw [hf, findI_all]
    simp only [Bool.not_not]) K
  unfold YaI.t YaI.g Yak.f
  rw [Yak.same g1 g2 g3 hk, YG.tv g1 g2 g3 hk]
  show (bif YG.v aD aC aE aG then _ else _) = _
  cases YG.v aD aC aE aG
  · rfl
  simp only [cond_true, Bool.true_and]
  by_cases h1 : a1.length ≤ 12
  case neg =>
    rw [ZV (show ¬ (a1.length : Int) ≤ 12 by omega), ZV h1]
    rfl
  rw [ZQ (show (a1.length : Int) ≤ 12 by omega), ZQ h1]
  simp only [cond_true, Bool.true_and]
  by_cases h2 : a2.length = a1.length
  case neg =>
    rw [show ((a2.length : Int) == (a1.length : Int)) = false from beq_eq_false_iff_ne.mpr (by omega), ZV h2]
    rfl
  rw [show ((a2.length : Int) == (a1.length : Int)) = true from beq_iff_eq.mpr (by omega), ZQ h2, c1, c2]
  simp only [cond_true, Bool.true_and, Bool.not_not]
  cases (List.range a1.length).all fun i => YM.v (gS a1 (i : Int) 0) (gL a1 (i : Int) 1) (gL a1 (i : Int) 2) (gI a1 (i : Int) 3) <;> rfl) K
theorem shares_fv {aD : Int} {aC aE aG a1 a2 : List (List D)} (g1 : Zi Yas lim aC) (g2 : Zi RS lim aE) (g3 : Zi RSI lim aG) (g4 : Zi Yal lim a1) (g5 : Zi RI lim a2) :
    ∃ r : List (List C), (r = [] ∨ ∃ o : Nat → Int, r = YaQ a1.length (cI o) ∧ ∀ i, i < a1.length → 0 ≤ o i ∧ o i ≤ 10000) ∧ ∀ {k : Nat}, Z3 k → Y2.t k aD aC aE aG a1 a2 = some r ∧ Y3.t k aD aC aE aG a1 a2 = some r := by
  have hbad : (YG.v aD aC aE aG && (decide (a1.length ≤ 12) && decide (a2.length = a1.length))) = false → ∀ {k : Nat}, Z3 k → Y2.t k aD aC aE aG a1 a2 = some [] ∧ Y3.t k aD aC aE aG a1 a2 = some [] := fun h {k} hk => by
    constructor
    · unfold Y2.t Y2.g Y2.m
      simp only [YG.fv g1 g2 g3 hk]
      cases hW : YG.v aD aC aE aG
      · rfl
      rw [hW, Bool.true_and] at h
      simp only [Bool.not_true, cond_false]
      by_cases h1 : a1.length ≤ 12
      case neg =>
        rw [ZQ (show (a1.length : Int) > 12 by omega)]
        rfl
      rw [ZQ h1, Bool.true_and] at h
      have h2 := of_decide_eq_false h
      rw [ZV (show ¬ (a1.length : Int) > 12 by omega), show ((a2.length : Int) != (a1.length : Int)) = true from bne_iff_ne.mpr (by omega)]
      rfl
    · unfold Y3.t Y3.g
      rw [Ybc g1 g2 g3 g4 g5 hk, ← Bool.and_assoc (decide (a1.length ≤ 12)), ← Bool.and_assoc (YG.v aD aC aE aG), h]
      rfl
  cases hc : (YG.v aD aC aE aG && (decide (a1.length ≤ 12) && decide (a2.length = a1.length))) with
  | false => exact ⟨[], .inl rfl, hbad hc⟩
  | true =>
    have hc' := hc
    simp only [Bool.and_eq_true, decide_eq_true_eq] at hc'
    obtain ⟨hW, h1, h2⟩ := hc'
    have hspec : ∀ {k : Nat}, Z3 k → Y2.t k aD aC aE aG a1 a2 = Zo (Y2.l0 k a1 a2 aD aC aE aG some) k (0, []) := fun {k} hk => by
      unfold Y2.t Y2.g Y2.m
      simp only [YG.fv g1 g2 g3 hk, hW, Bool.not_true, cond_false]
      rw [ZV (show ¬ (a1.length : Int) > 12 by omega), show ((a2.length : Int) != (a1.length : Int)) = false from bne_eq_false_iff_eq.mpr (by omega)]
      rfl
    cases hI : (List.range a1.length).all (fun i => YM.v (gS a1 (i : Int) 0) (gL a1 (i : Int) 1) (gL a1 (i : Int) 2) (gI a1 (i : Int) 3)) with
    | false =>
      refine ⟨[], .inl rfl, fun {k} hk => ⟨?_, ?_⟩⟩
      · rw [hspec hk, spec_weights g1 g2 g3 g4 hk, hI]
        rfl
      · unfold Y3.t Y3.g
        rw [Ybc g1 g2 g3 g4 g5 hk, hI]
        simp only [Bool.false_and, Bool.and_false]
        rfl
    | true =>
      obtain ⟨r, hr, hR, hd⟩ := div_fv (n := aD) (wt_row (aD := aD) g1 g2 g3 g4) g5 (by rw [rowD_len]; omega)
      rw [rowD_len] at hr
      have hsp : ∀ {k : Nat}, Z3 k → Y2.t k aD aC aE aG a1 a2 = some r := fun {k} hk => by
        rw [hspec hk, spec_weights g1 g2 g3 g4 hk, hI]
        exact (hd hk some).1
      cases hL : (List.range a2.length).all (fun i => inB (gI a2 (i : Int) 0) 0 10000) with
      | false =>
        have hr0 : r = [] := hR (by
          unfold rightB
          rw [rowD_len, ← h2, all_both, hL]
          simp)
        refine ⟨r, hr, fun {k} hk => ⟨hsp hk, ?_⟩⟩
        unfold Y3.t Y3.g
        rw [Ybc g1 g2 g3 g4 g5 hk, hL, hr0]
        simp only [Bool.and_false]
        rfl
      | true =>
        refine ⟨r, hr, fun {k} hk => ⟨hsp hk, ?_⟩⟩
        unfold Y3.t Y3.g
        rw [Ybc g1 g2 g3 g4 g5 hk, hL, hI, hW, ZQ h1, ZQ h2]
        simp only [Bool.and_true, Bool.not_true, cond_false]
        rw [impl_weights g1 g2 g3 g4 hk]
        exact (hd hk some).2
theorem Y2.T {aD : Int} {aC aE aG a1 a2 : List (List D)} (_ : (Lit.int .i64 aD).wf = true) (g1 : Zi Yas lim aC) (g2 : Zi RS lim aE) (g3 : Zi RSI lim aG) (g4 : Zi Yal lim a1) (g5 : Zi RI lim a2) (_ : Zp aC ≤ 67108864) (_ : Zp a1 ≤ 67108864) :
    Tm Z3 (fun k => Y2.t k aD aC aE aG a1 a2) (fun z => Zi RI 2097152 (C.immRows z) ∧ Zp (C.immRows z) ≤ 1125899906842624 ∧ True) := by
  have hlim : lim = 1048576 := rfl
  have hlen := g4.1
  obtain ⟨r, hr, h⟩ := shares_fv (aD := aD) g1 g2 g3 g4 g5
  refine Tm.of (fun k hk => (h hk).1) ?_
  rcases hr with rfl | ⟨o, rfl, ho⟩
  · exact ⟨⟨Nat.zero_le _, fun r hr => by cases hr⟩, Nat.zero_le _, trivial⟩
  · rw [imm_rowF]
    have hR : ∀ r ∈ rowD a1.length (fun j => (cI o j).imm), RI 2097152 r := fun r hr => by
      obtain ⟨j, hj, rfl⟩ := List.mem_map.mp hr
      have := ho j (List.mem_range.mp hj)
      exact ⟨_, rfl, wf_mk (by omega) (by omega), trivial⟩
    refine ⟨⟨by rw [rowD_len]; omega, hR⟩, ?_, trivial⟩
    rw [RI.wt hR, rowD_len]
    omega
theorem Y3.same {aD : Int} {aC aE aG a1 a2 : List (List D)} (_ : (Lit.int .i64 aD).wf = true) (g1 : Zi Yas lim aC) (g2 : Zi RS lim aE) (g3 : Zi RSI lim aG) (g4 : Zi Yal lim a1) (g5 : Zi RI lim a2) (_ : Zp aC ≤ 67108864) (_ : Zp a1 ≤ 67108864) {k : Nat} (hk : ZF 1 k) {z0 : List (List C)}
    (hz : Y2.t k aD aC aE aG a1 a2 = some z0) : Y3.t k aD aC aE aG a1 a2 = some (Zb (C.immRows z0)) := by
  obtain ⟨r, hr, h⟩ := shares_fv (aD := aD) g1 g2 g3 g4 g5
  obtain ⟨h1, h2⟩ := h (up0 hk)
  rw [h1] at hz
  injection hz with hz
  subst hz
  rw [h2]
  rcases hr with rfl | ⟨o, rfl, ho⟩
  · rfl
  · rw [imm_rowF]
    exact congrArg some deep_rowI.symm
theorem Yad.tm {ι α : Type} {ok : ι → Prop} {ψ : α → Prop} {p : ι → Nat} {B : Nat} (hp : ∀ i, ok i → B ≤ p i) {a0 a1 φ} (h : Tm (fun k => B ≤ k) (fun k => Yad.t k a0 a1) φ) {G : ι → Bool → Option α} (hG : ∀ z0, φ z0 → Tm ok (fun i => G i z0) ψ) : Tm ok (fun i => Yad.f (p i) a0 a1 (G i)) ψ := ZK (t := fun k => Yad.t k a0 a1) hp h hG
set_option maxRecDepth 100000 in
theorem Yad.T {B : Nat} {a0 : List (List D)} (ga0 : Zi RI B a0) (hB : B ≤ 1099511627776) : Tm Z3 (fun k => Yad.t k a0 a0) (fun r => r = true) := by
  unfold Yad.t Yad.g
  have hm := Zy
  have hlim : lim = 1048576 := rfl
  have hlen := ga0.1
  refine Tm.ite (fun h1 => ?_) (fun h1 => ?_)
  · try simp only [bz0, bz1, bz2, bz3, bz4, bz5, bz6, bz7, bz8, bz9, bza] at h1
    exact Tm.ret (by first | rfl | (exfalso; simp [Zu] at *))
  · try simp only [bz0, bz1, bz2, bz3, bz4, bz5, bz6, bz7, bz8, bz9, bza] at h1
    refine Tm.loop (okk := Z3) (p := fun k => k) (fun i hi => hi) (b := fun k => Yad.l0 k a0 a0 (fun z0 => some z0)) (fun i => (((a0.length : Int)) - i).toNat) (fun i => 0 ≤ i ∧ i ≤ (a0.length : Int)) ?_ ?_ ?_
    · rintro i hI
      try simp only [] at hI ⊢
      have : big = 2 ^ 64 := rfl
      have := ga0.1
      omega
    · ((try simp only []); omega)
    · rintro i hI L hL
      try simp only [] at hI
      obtain ⟨i0, i1⟩ := hI
      simp only [Yad.l0, atR, rdQ, Q.ask]
      refine Tm.ite (fun h2 => ?_) (fun h2 => ?_)
      · try simp only [bz0, bz1, bz2, bz3, bz4, bz5, bz6, bz7, bz8, bz9, bza] at h2
        refine Tm.atRow (by first | assumption | omega) (by first | assumption | omega) (fun x3 hx4 hm5 => ?_)
        obtain ⟨c6, rfl, g7, _⟩ := (ga0.2 x3 hm5).open
        refine Tm.uncons ?_
        refine Tm.dInt ?_
        refine Tm.atEnd ?_
        refine Tm.atRow (by first | assumption | omega) (by first | assumption | omega) (fun x8 hx9 hm10 => ?_)
        rw [hx4] at hx9
        injection hx9 with hx9
        subst hx9
        refine Tm.uncons ?_
        refine Tm.dInt ?_
        refine Tm.atEnd ?_
        refine Tm.ite (fun h12 => ?_) (fun h12 => ?_)
        · try simp only [bz0, bz1, bz2, bz3, bz4, bz5, bz6, bz7, bz8, bz9, bza] at h12
          exact Tm.ret (by first | rfl | (exfalso; simp [Zu] at *))
        · try simp only [bz0, bz1, bz2, bz3, bz4, bz5, bz6, bz7, bz8, bz9, bza] at h12
          try rw [Zj (x := i + 1) (by omega) (by omega)]
          exact hL _ (by (try simp only []); omega) (by (try simp only []); omega)
      · try simp only [bz0, bz1, bz2, bz3, bz4, bz5, bz6, bz7, bz8, bz9, bza] at h2
        exact Tm.ret (by first | rfl | (exfalso; simp [Zu] at *))
theorem YP.tm {ι α : Type} {ok : ι → Prop} {ψ : α → Prop} {p : ι → Nat} {B : Nat} (hp : ∀ i, ok i → B ≤ p i) {a0 a1 φ} (h : Tm (fun k => B ≤ k) (fun k => YP.t k a0 a1) φ) {G : ι → Bool → Option α} (hG : ∀ z0, φ z0 → Tm ok (fun i => G i z0) ψ) : Tm ok (fun i => YP.f (p i) a0 a1 (G i)) ψ := ZK (t := fun k => YP.t k a0 a1) hp h hG
set_option maxRecDepth 100000 in
theorem YP.T {B : Nat} {a0 : List (List D)} (ga0 : Zi RS B a0) (hB : B ≤ 1099511627776) : Tm Z3 (fun k => YP.t k a0 a0) (fun r => r = true) := by
  unfold YP.t YP.g
  have hm := Zy
  have hlim : lim = 1048576 := rfl
  have hlen := ga0.1
  refine Tm.ite (fun h1 => ?_) (fun h1 => ?_)
  · try simp only [bz0, bz1, bz2, bz3, bz4, bz5, bz6, bz7, bz8, bz9, bza] at h1
    exact Tm.ret (by first | rfl | (exfalso; simp [Zu] at *))
  · try simp only [bz0, bz1, bz2, bz3, bz4, bz5, bz6, bz7, bz8, bz9, bza] at h1
    refine Tm.loop (okk := Z3) (p := fun k => k) (fun i hi => hi) (b := fun k => YP.l0 k a0 a0 (fun z0 => some z0)) (fun i => (((a0.length : Int)) - i).toNat) (fun i => 0 ≤ i ∧ i ≤ (a0.length : Int)) ?_ ?_ ?_
    · rintro i hI
      try simp only [] at hI ⊢
      have : big = 2 ^ 64 := rfl
      have := ga0.1
      omega
    · ((try simp only []); omega)
    · rintro i hI L hL
      try simp only [] at hI
      obtain ⟨i0, i1⟩ := hI
      simp only [YP.l0, atR, rdQ, Q.ask]
      refine Tm.ite (fun h2 => ?_) (fun h2 => ?_)
      · try simp only [bz0, bz1, bz2, bz3, bz4, bz5, bz6, bz7, bz8, bz9, bza] at h2
        refine Tm.atRow (by first | assumption | omega) (by first | assumption | omega) (fun x3 hx4 hm5 => ?_)
        obtain ⟨c6, rfl, g7, _⟩ := (ga0.2 x3 hm5).open
        refine Tm.uncons ?_
        refine Tm.dStr ?_
        refine Tm.atEnd ?_
        refine Tm.atRow (by first | assumption | omega) (by first | assumption | omega) (fun x8 hx9 hm10 => ?_)
        rw [hx4] at hx9
        injection hx9 with hx9
        subst hx9
        refine Tm.uncons ?_
        refine Tm.dStr ?_
        refine Tm.atEnd ?_
        refine Tm.ite (fun h12 => ?_) (fun h12 => ?_)
        · try simp only [bz0, bz1, bz2, bz3, bz4, bz5, bz6, bz7, bz8, bz9, bza] at h12
          exact Tm.ret (by first | rfl | (exfalso; simp [Zu] at *))
        · try simp only [bz0, bz1, bz2, bz3, bz4, bz5, bz6, bz7, bz8, bz9, bza] at h12
          try rw [Zj (x := i + 1) (by omega) (by omega)]
          exact hL _ (by (try simp only []); omega) (by (try simp only []); omega)
      · try simp only [bz0, bz1, bz2, bz3, bz4, bz5, bz6, bz7, bz8, bz9, bza] at h2
        exact Tm.ret (by first | rfl | (exfalso; simp [Zu] at *))
theorem YaV.tm {ι α : Type} {ok : ι → Prop} {ψ : α → Prop} {p : ι → Nat} {B : Nat} (hp : ∀ i, ok i → B ≤ p i) {aD aC aE aR aN aU φ} (h : Tm (fun k => B ≤ k) (fun k => YaV.t k aD aC aE aR aN aU) φ) {G : ι → Bool → Option α} (hG : ∀ z0, φ z0 → Tm ok (fun i => G i z0) ψ) : Tm ok (fun i => YaV.f (p i) aD aC aE aR aN aU (G i)) ψ := ZK (t := fun k => YaV.t k aD aC aE aR aN aU) hp h hG
theorem YaV.T {B : Nat} {aD : Int} {aC : ByteArray} {aE : List (List D)} (ga0_1 : aC.size ≤ B) (ga0_2 : Zi RS B aE) (hB : B ≤ 1099511627776) : Tm Z3 (fun k => YaV.t k aD aC aE aD aC aE) (fun r => r = true) := by
  unfold YaV.t YaV.g
  have hm := Zy
  have hlim : lim = 1048576 := rfl
  refine Tm.ite (fun h1 => ?_) (fun h1 => ?_)
  · try simp only [bz0, bz1, bz2, bz3, bz4, bz5, bz6, bz7, bz8, bz9, bza] at h1
    exact Tm.ret (by first | rfl | (exfalso; simp [Zu] at *))
  · try simp only [bz0, bz1, bz2, bz3, bz4, bz5, bz6, bz7, bz8, bz9, bza] at h1
    refine Tm.ite (fun h2 => ?_) (fun h2 => ?_)
    · try simp only [bz0, bz1, bz2, bz3, bz4, bz5, bz6, bz7, bz8, bz9, bza] at h2
      exact Tm.ret (by first | rfl | (exfalso; simp [Zu] at *))
    · try simp only [bz0, bz1, bz2, bz3, bz4, bz5, bz6, bz7, bz8, bz9, bza] at h2
      refine YP.tm (fun i hi => hi) (YP.T (by first | assumption | omega) (by first | assumption | omega)) (fun y4 hy3 => ?_)
      subst hy3
      refine Tm.ite (fun h5 => ?_) (fun h5 => ?_)
      · try simp only [bz0, bz1, bz2, bz3, bz4, bz5, bz6, bz7, bz8, bz9, bza] at h5
        exact Tm.ret (by first | rfl | (exfalso; simp [Zu] at *))
      · try simp only [bz0, bz1, bz2, bz3, bz4, bz5, bz6, bz7, bz8, bz9, bza] at h5
        exact Tm.ret (by first | rfl | (exfalso; simp [Zu] at *))
theorem Yah.tm {ι α : Type} {ok : ι → Prop} {ψ : α → Prop} {p : ι → Nat} {B : Nat} (hp : ∀ i, ok i → B ≤ p i) {a0 a1 φ} (h : Tm (fun k => B ≤ k) (fun k => Yah.t k a0 a1) φ) {G : ι → Bool → Option α} (hG : ∀ z0, φ z0 → Tm ok (fun i => G i z0) ψ) : Tm ok (fun i => Yah.f (p i) a0 a1 (G i)) ψ := ZK (t := fun k => Yah.t k a0 a1) hp h hG
set_option maxRecDepth 100000 in
theorem Yah.T {B : Nat} {a0 : List (List D)} (ga0 : Zi Yas B a0) (hB : B ≤ 1099511627776) : Tm Z3 (fun k => Yah.t k a0 a0) (fun r => r = true) := by
  unfold Yah.t Yah.g
  have hm := Zy
  have hlim : lim = 1048576 := rfl
  have hlen := ga0.1
  refine Tm.ite (fun h1 => ?_) (fun h1 => ?_)
  · try simp only [bz0, bz1, bz2, bz3, bz4, bz5, bz6, bz7, bz8, bz9, bza] at h1
    exact Tm.ret (by first | rfl | (exfalso; simp [Zu] at *))
  · try simp only [bz0, bz1, bz2, bz3, bz4, bz5, bz6, bz7, bz8, bz9, bza] at h1
    refine Tm.loop (okk := Z3) (p := fun k => k) (fun i hi => hi) (b := fun k => Yah.l0 k a0 a0 (fun z0 => some z0)) (fun i => (((a0.length : Int)) - i).toNat) (fun i => 0 ≤ i ∧ i ≤ (a0.length : Int)) ?_ ?_ ?_
    · rintro i hI
      try simp only [] at hI ⊢
      have : big = 2 ^ 64 := rfl
      have := ga0.1
      omega
    · ((try simp only []); omega)
    · rintro i hI L hL
      try simp only [] at hI
      obtain ⟨i0, i1⟩ := hI
      simp only [Yah.l0, atR, rdQ, Q.ask]
      refine Tm.ite (fun h2 => ?_) (fun h2 => ?_)
      · try simp only [bz0, bz1, bz2, bz3, bz4, bz5, bz6, bz7, bz8, bz9, bza] at h2
        refine Tm.atRow (by first | assumption | omega) (by first | assumption | omega) (fun x3 hx4 hm5 => ?_)
        obtain ⟨c6, c7, c8, rfl, g9, g10, g11, _⟩ := (ga0.2 x3 hm5).open
        refine Tm.uncons ?_
        refine Tm.dInt ?_
        refine Tm.uncons ?_
        refine Tm.dStr ?_
        refine Tm.uncons ?_
        refine Tm.dSl ?_
        refine Tm.atEnd ?_
        refine Tm.atRow (by first | assumption | omega) (by first | assumption | omega) (fun x12 hx13 hm14 => ?_)
        rw [hx4] at hx13
        injection hx13 with hx13
        subst hx13
        refine Tm.uncons ?_
        refine Tm.dInt ?_
        refine Tm.uncons ?_
        refine Tm.dStr ?_
        refine Tm.uncons ?_
        refine Tm.dSl ?_
        refine Tm.atEnd ?_
        refine YaV.tm (fun i hi => hi.1) (YaV.T (by first | assumption | omega) (by first | assumption | omega) (by first | assumption | omega)) (fun y19 hy18 => ?_)
        subst hy18
        refine Tm.ite (fun h20 => ?_) (fun h20 => ?_)
        · try simp only [bz0, bz1, bz2, bz3, bz4, bz5, bz6, bz7, bz8, bz9, bza] at h20
          exact Tm.ret (by first | rfl | (exfalso; simp [Zu] at *))
        · try simp only [bz0, bz1, bz2, bz3, bz4, bz5, bz6, bz7, bz8, bz9, bza] at h20
          try rw [Zj (x := i + 1) (by omega) (by omega)]
          exact hL _ (by (try simp only []); omega) (by (try simp only []); omega)
      · try simp only [bz0, bz1, bz2, bz3, bz4, bz5, bz6, bz7, bz8, bz9, bza] at h2
        exact Tm.ret (by first | rfl | (exfalso; simp [Zu] at *))
theorem YaO.tm {ι α : Type} {ok : ι → Prop} {ψ : α → Prop} {p : ι → Nat} {B : Nat} (hp : ∀ i, ok i → B ≤ p i) {aD aC aR aN φ} (h : Tm (fun k => B ≤ k) (fun k => YaO.t k aD aC aR aN) φ) {G : ι → Bool → Option α} (hG : ∀ z0, φ z0 → Tm ok (fun i => G i z0) ψ) : Tm ok (fun i => YaO.f (p i) aD aC aR aN (G i)) ψ := ZK (t := fun k => YaO.t k aD aC aR aN) hp h hG
theorem YaO.T {B : Nat} {aD : ByteArray} {aC : Int} (ga0_0 : aD.size ≤ B) (hB : B ≤ 1099511627776) : Tm Z3 (fun k => YaO.t k aD aC aD aC) (fun r => r = true) := by
  unfold YaO.t YaO.g
  have hm := Zy
  have hlim : lim = 1048576 := rfl
  refine Tm.ite (fun h1 => ?_) (fun h1 => ?_)
  · try simp only [bz0, bz1, bz2, bz3, bz4, bz5, bz6, bz7, bz8, bz9, bza] at h1
    exact Tm.ret (by first | rfl | (exfalso; simp [Zu] at *))
  · try simp only [bz0, bz1, bz2, bz3, bz4, bz5, bz6, bz7, bz8, bz9, bza] at h1
    refine Tm.ite (fun h2 => ?_) (fun h2 => ?_)
    · try simp only [bz0, bz1, bz2, bz3, bz4, bz5, bz6, bz7, bz8, bz9, bza] at h2
      exact Tm.ret (by first | rfl | (exfalso; simp [Zu] at *))
    · try simp only [bz0, bz1, bz2, bz3, bz4, bz5, bz6, bz7, bz8, bz9, bza] at h2
      exact Tm.ret (by first | rfl | (exfalso; simp [Zu] at *))
theorem Y9.tm {ι α : Type} {ok : ι → Prop} {ψ : α → Prop} {p : ι → Nat} {B : Nat} (hp : ∀ i, ok i → B ≤ p i) {a0 a1 φ} (h : Tm (fun k => B ≤ k) (fun k => Y9.t k a0 a1) φ) {G : ι → Bool → Option α} (hG : ∀ z0, φ z0 → Tm ok (fun i => G i z0) ψ) : Tm ok (fun i => Y9.f (p i) a0 a1 (G i)) ψ := ZK (t := fun k => Y9.t k a0 a1) hp h hG
set_option maxRecDepth 100000 in
theorem Y9.T {B : Nat} {a0 : List (List D)} (ga0 : Zi RSI B a0) (hB : B ≤ 1099511627776) : Tm Z3 (fun k => Y9.t k a0 a0) (fun r => r = true) := by
  unfold Y9.t Y9.g
  have hm := Zy
  have hlim : lim = 1048576 := rfl
  have hlen := ga0.1
  refine Tm.ite (fun h1 => ?_) (fun h1 => ?_)
  · try simp only [bz0, bz1, bz2, bz3, bz4, bz5, bz6, bz7, bz8, bz9, bza] at h1
    exact Tm.ret (by first | rfl | (exfalso; simp [Zu] at *))
  · try simp only [bz0, bz1, bz2, bz3, bz4, bz5, bz6, bz7, bz8, bz9, bza] at h1
    refine Tm.loop (okk := Z3) (p := fun k => k) (fun i hi => hi) (b := fun k => Y9.l0 k a0 a0 (fun z0 => some z0)) (fun i => (((a0.length : Int)) - i).toNat) (fun i => 0 ≤ i ∧ i ≤ (a0.length : Int)) ?_ ?_ ?_
    · rintro i hI
      try simp only [] at hI ⊢
      have : big = 2 ^ 64 := rfl
      have := ga0.1
      omega
    · ((try simp only []); omega)
    · rintro i hI L hL
      try simp only [] at hI
      obtain ⟨i0, i1⟩ := hI
      simp only [Y9.l0, atR, rdQ, Q.ask]
      refine Tm.ite (fun h2 => ?_) (fun h2 => ?_)
      · try simp only [bz0, bz1, bz2, bz3, bz4, bz5, bz6, bz7, bz8, bz9, bza] at h2
        refine Tm.atRow (by first | assumption | omega) (by first | assumption | omega) (fun x3 hx4 hm5 => ?_)
        obtain ⟨c6, c7, rfl, g8, g9, _⟩ := (ga0.2 x3 hm5).open
        refine Tm.uncons ?_
        refine Tm.dStr ?_
        refine Tm.uncons ?_
        refine Tm.dInt ?_
        refine Tm.atEnd ?_
        refine Tm.atRow (by first | assumption | omega) (by first | assumption | omega) (fun x10 hx11 hm12 => ?_)
        rw [hx4] at hx11
        injection hx11 with hx11
        subst hx11
        refine Tm.uncons ?_
        refine Tm.dStr ?_
        refine Tm.uncons ?_
        refine Tm.dInt ?_
        refine Tm.atEnd ?_
        refine YaO.tm (fun i hi => hi.1) (YaO.T (by first | assumption | omega) (by first | assumption | omega)) (fun y16 hy15 => ?_)
        subst hy15
        refine Tm.ite (fun h17 => ?_) (fun h17 => ?_)
        · try simp only [bz0, bz1, bz2, bz3, bz4, bz5, bz6, bz7, bz8, bz9, bza] at h17
          exact Tm.ret (by first | rfl | (exfalso; simp [Zu] at *))
        · try simp only [bz0, bz1, bz2, bz3, bz4, bz5, bz6, bz7, bz8, bz9, bza] at h17
          try rw [Zj (x := i + 1) (by omega) (by omega)]
          exact hL _ (by (try simp only []); omega) (by (try simp only []); omega)
      · try simp only [bz0, bz1, bz2, bz3, bz4, bz5, bz6, bz7, bz8, bz9, bza] at h2
        exact Tm.ret (by first | rfl | (exfalso; simp [Zu] at *))
theorem YaU.tm {ι α : Type} {ok : ι → Prop} {ψ : α → Prop} {p : ι → Nat} {B : Nat} (hp : ∀ i, ok i → B ≤ p i) {aD aC aE aG aR aN aU bD φ} (h : Tm (fun k => B ≤ k) (fun k => YaU.t k aD aC aE aG aR aN aU bD) φ) {G : ι → Bool → Option α} (hG : ∀ z0, φ z0 → Tm ok (fun i => G i z0) ψ) : Tm ok (fun i => YaU.f (p i) aD aC aE aG aR aN aU bD (G i)) ψ := ZK (t := fun k => YaU.t k aD aC aE aG aR aN aU bD) hp h hG
theorem YaU.T {B : Nat} {aD : Int} {aC aE aG : List (List D)} (ga0_1 : Zi Yas B aC) (ga0_2 : Zi RS B aE) (ga0_3 : Zi RSI B aG) (hB : B ≤ 1099511627776) : Tm Z3 (fun k => YaU.t k aD aC aE aG aD aC aE aG) (fun r => r = true) := by
  unfold YaU.t YaU.g
  have hm := Zy
  have hlim : lim = 1048576 := rfl
  refine Tm.ite (fun h1 => ?_) (fun h1 => ?_)
  · try simp only [bz0, bz1, bz2, bz3, bz4, bz5, bz6, bz7, bz8, bz9, bza] at h1
    exact Tm.ret (by first | rfl | (exfalso; simp [Zu] at *))
  · try simp only [bz0, bz1, bz2, bz3, bz4, bz5, bz6, bz7, bz8, bz9, bza] at h1
    refine Yah.tm (fun i hi => hi) (Yah.T (by first | assumption | omega) (by first | assumption | omega)) (fun y3 hy2 => ?_)
    subst hy2
    refine Tm.ite (fun h4 => ?_) (fun h4 => ?_)
    · try simp only [bz0, bz1, bz2, bz3, bz4, bz5, bz6, bz7, bz8, bz9, bza] at h4
      exact Tm.ret (by first | rfl | (exfalso; simp [Zu] at *))
    · try simp only [bz0, bz1, bz2, bz3, bz4, bz5, bz6, bz7, bz8, bz9, bza] at h4
      refine YP.tm (fun i hi => hi) (YP.T (by first | assumption | omega) (by first | assumption | omega)) (fun y6 hy5 => ?_)
      subst hy5
      refine Tm.ite (fun h7 => ?_) (fun h7 => ?_)
      · try simp only [bz0, bz1, bz2, bz3, bz4, bz5, bz6, bz7, bz8, bz9, bza] at h7
        exact Tm.ret (by first | rfl | (exfalso; simp [Zu] at *))
      · try simp only [bz0, bz1, bz2, bz3, bz4, bz5, bz6, bz7, bz8, bz9, bza] at h7
        refine Y9.tm (fun i hi => hi) (Y9.T (by first | assumption | omega) (by first | assumption | omega)) (fun y9 hy8 => ?_)
        subst hy8
        refine Tm.ite (fun h10 => ?_) (fun h10 => ?_)
        · try simp only [bz0, bz1, bz2, bz3, bz4, bz5, bz6, bz7, bz8, bz9, bza] at h10
          exact Tm.ret (by first | rfl | (exfalso; simp [Zu] at *))
        · try simp only [bz0, bz1, bz2, bz3, bz4, bz5, bz6, bz7, bz8, bz9, bza] at h10
          exact Tm.ret (by first | rfl | (exfalso; simp [Zu] at *))
theorem YaP.tm {ι α : Type} {ok : ι → Prop} {ψ : α → Prop} {p : ι → Nat} {B : Nat} (hp : ∀ i, ok i → B ≤ p i) {aD aC aR aN φ} (h : Tm (fun k => B ≤ k) (fun k => YaP.t k aD aC aR aN) φ) {G : ι → Bool → Option α} (hG : ∀ z0, φ z0 → Tm ok (fun i => G i z0) ψ) : Tm ok (fun i => YaP.f (p i) aD aC aR aN (G i)) ψ := ZK (t := fun k => YaP.t k aD aC aR aN) hp h hG
theorem YaP.T {B : Nat} {aD aC : ByteArray} (ga0_0 : aD.size ≤ B) (ga0_1 : aC.size ≤ B) (hB : B ≤ 1099511627776) : Tm Z3 (fun k => YaP.t k aD aC aD aC) (fun r => r = true) := by
  unfold YaP.t YaP.g
  have hm := Zy
  have hlim : lim = 1048576 := rfl
  refine Tm.ite (fun h1 => ?_) (fun h1 => ?_)
  · try simp only [bz0, bz1, bz2, bz3, bz4, bz5, bz6, bz7, bz8, bz9, bza] at h1
    exact Tm.ret (by first | rfl | (exfalso; simp [Zu] at *))
  · try simp only [bz0, bz1, bz2, bz3, bz4, bz5, bz6, bz7, bz8, bz9, bza] at h1
    refine Tm.ite (fun h2 => ?_) (fun h2 => ?_)
    · try simp only [bz0, bz1, bz2, bz3, bz4, bz5, bz6, bz7, bz8, bz9, bza] at h2
      exact Tm.ret (by first | rfl | (exfalso; simp [Zu] at *))
    · try simp only [bz0, bz1, bz2, bz3, bz4, bz5, bz6, bz7, bz8, bz9, bza] at h2
      exact Tm.ret (by first | rfl | (exfalso; simp [Zu] at *))
theorem Yaa.tm {ι α : Type} {ok : ι → Prop} {ψ : α → Prop} {p : ι → Nat} {B : Nat} (hp : ∀ i, ok i → B ≤ p i) {a0 a1 φ} (h : Tm (fun k => B ≤ k) (fun k => Yaa.t k a0 a1) φ) {G : ι → Bool → Option α} (hG : ∀ z0, φ z0 → Tm ok (fun i => G i z0) ψ) : Tm ok (fun i => Yaa.f (p i) a0 a1 (G i)) ψ := ZK (t := fun k => Yaa.t k a0 a1) hp h hG
set_option maxRecDepth 100000 in
theorem Yaa.T {B : Nat} {a0 : List (List D)} (ga0 : Zi RSS B a0) (hB : B ≤ 1099511627776) : Tm Z3 (fun k => Yaa.t k a0 a0) (fun r => r = true) := by
  unfold Yaa.t Yaa.g
  have hm := Zy
  have hlim : lim = 1048576 := rfl
  have hlen := ga0.1
  refine Tm.ite (fun h1 => ?_) (fun h1 => ?_)
  · try simp only [bz0, bz1, bz2, bz3, bz4, bz5, bz6, bz7, bz8, bz9, bza] at h1
    exact Tm.ret (by first | rfl | (exfalso; simp [Zu] at *))
  · try simp only [bz0, bz1, bz2, bz3, bz4, bz5, bz6, bz7, bz8, bz9, bza] at h1
    refine Tm.loop (okk := Z3) (p := fun k => k) (fun i hi => hi) (b := fun k => Yaa.l0 k a0 a0 (fun z0 => some z0)) (fun i => (((a0.length : Int)) - i).toNat) (fun i => 0 ≤ i ∧ i ≤ (a0.length : Int)) ?_ ?_ ?_
    · rintro i hI
      try simp only [] at hI ⊢
      have : big = 2 ^ 64 := rfl
      have := ga0.1
      omega
    · ((try simp only []); omega)
    · rintro i hI L hL
      try simp only [] at hI
      obtain ⟨i0, i1⟩ := hI
      simp only [Yaa.l0, atR, rdQ, Q.ask]
      refine Tm.ite (fun h2 => ?_) (fun h2 => ?_)
      · try simp only [bz0, bz1, bz2, bz3, bz4, bz5, bz6, bz7, bz8, bz9, bza] at h2
        refine Tm.atRow (by first | assumption | omega) (by first | assumption | omega) (fun x3 hx4 hm5 => ?_)
        obtain ⟨c6, c7, rfl, g8, g9, _⟩ := (ga0.2 x3 hm5).open
        refine Tm.uncons ?_
        refine Tm.dStr ?_
        refine Tm.uncons ?_
        refine Tm.dStr ?_
        refine Tm.atEnd ?_
        refine Tm.atRow (by first | assumption | omega) (by first | assumption | omega) (fun x10 hx11 hm12 => ?_)
        rw [hx4] at hx11
        injection hx11 with hx11
        subst hx11
        refine Tm.uncons ?_
        refine Tm.dStr ?_
        refine Tm.uncons ?_
        refine Tm.dStr ?_
        refine Tm.atEnd ?_
        refine YaP.tm (fun i hi => hi.1) (YaP.T (by first | assumption | omega) (by first | assumption | omega) (by first | assumption | omega)) (fun y16 hy15 => ?_)
        subst hy15
        refine Tm.ite (fun h17 => ?_) (fun h17 => ?_)
        · try simp only [bz0, bz1, bz2, bz3, bz4, bz5, bz6, bz7, bz8, bz9, bza] at h17
          exact Tm.ret (by first | rfl | (exfalso; simp [Zu] at *))
        · try simp only [bz0, bz1, bz2, bz3, bz4, bz5, bz6, bz7, bz8, bz9, bza] at h17
          try rw [Zj (x := i + 1) (by omega) (by omega)]
          exact hL _ (by (try simp only []); omega) (by (try simp only []); omega)
      · try simp only [bz0, bz1, bz2, bz3, bz4, bz5, bz6, bz7, bz8, bz9, bza] at h2
        exact Tm.ret (by first | rfl | (exfalso; simp [Zu] at *))
theorem YaF.tm {ι α : Type} {ok : ι → Prop} {ψ : α → Prop} {p : ι → Nat} {B : Nat} (hp : ∀ i, ok i → B ≤ p i) {aD aC aE aG aR aN aU bD φ} (h : Tm (fun k => B ≤ k) (fun k => YaF.t k aD aC aE aG aR aN aU bD) φ) {G : ι → Bool → Option α} (hG : ∀ z0, φ z0 → Tm ok (fun i => G i z0) ψ) : Tm ok (fun i => YaF.f (p i) aD aC aE aG aR aN aU bD (G i)) ψ := ZK (t := fun k => YaF.t k aD aC aE aG aR aN aU bD) hp h hG
theorem YaF.T {B : Nat} {aD : ByteArray} {aC aE : List (List D)} {aG : Int} (ga0_0 : aD.size ≤ B) (ga0_1 : Zi RSS B aC) (ga0_2 : Zi RS B aE) (hB : B ≤ 1099511627776) : Tm Z3 (fun k => YaF.t k aD aC aE aG aD aC aE aG) (fun r => r = true) := by
  unfold YaF.t YaF.g
  have hm := Zy
  have hlim : lim = 1048576 := rfl
  refine Tm.ite (fun h1 => ?_) (fun h1 => ?_)
  · try simp only [bz0, bz1, bz2, bz3, bz4, bz5, bz6, bz7, bz8, bz9, bza] at h1
    exact Tm.ret (by first | rfl | (exfalso; simp [Zu] at *))
  · try simp only [bz0, bz1, bz2, bz3, bz4, bz5, bz6, bz7, bz8, bz9, bza] at h1
    refine Yaa.tm (fun i hi => hi) (Yaa.T (by first | assumption | omega) (by first | assumption | omega)) (fun y3 hy2 => ?_)
    subst hy2
    refine Tm.ite (fun h4 => ?_) (fun h4 => ?_)
    · try simp only [bz0, bz1, bz2, bz3, bz4, bz5, bz6, bz7, bz8, bz9, bza] at h4
      exact Tm.ret (by first | rfl | (exfalso; simp [Zu] at *))
    · try simp only [bz0, bz1, bz2, bz3, bz4, bz5, bz6, bz7, bz8, bz9, bza] at h4
      refine YP.tm (fun i hi => hi) (YP.T (by first | assumption | omega) (by first | assumption | omega)) (fun y6 hy5 => ?_)
      subst hy5
      refine Tm.ite (fun h7 => ?_) (fun h7 => ?_)
      · try simp only [bz0, bz1, bz2, bz3, bz4, bz5, bz6, bz7, bz8, bz9, bza] at h7
        exact Tm.ret (by first | rfl | (exfalso; simp [Zu] at *))
      · try simp only [bz0, bz1, bz2, bz3, bz4, bz5, bz6, bz7, bz8, bz9, bza] at h7
        refine Tm.ite (fun h8 => ?_) (fun h8 => ?_)
        · try simp only [bz0, bz1, bz2, bz3, bz4, bz5, bz6, bz7, bz8, bz9, bza] at h8
          exact Tm.ret (by first | rfl | (exfalso; simp [Zu] at *))
        · try simp only [bz0, bz1, bz2, bz3, bz4, bz5, bz6, bz7, bz8, bz9, bza] at h8
          exact Tm.ret (by first | rfl | (exfalso; simp [Zu] at *))
theorem YZ.tm {ι α : Type} {ok : ι → Prop} {ψ : α → Prop} {p : ι → Nat} {B : Nat} (hp : ∀ i, ok i → B ≤ p i) {a0 a1 φ} (h : Tm (fun k => B ≤ k) (fun k => YZ.t k a0 a1) φ) {G : ι → Bool → Option α} (hG : ∀ z0, φ z0 → Tm ok (fun i => G i z0) ψ) : Tm ok (fun i => YZ.f (p i) a0 a1 (G i)) ψ := ZK (t := fun k => YZ.t k a0 a1) hp h hG
set_option maxRecDepth 100000 in
theorem YZ.T {B : Nat} {a0 : List (List D)} (ga0 : Zi Yal B a0) (hB : B ≤ 1099511627776) : Tm Z3 (fun k => YZ.t k a0 a0) (fun r => r = true) := by
  unfold YZ.t YZ.g
  have hm := Zy
  have hlim : lim = 1048576 := rfl
  have hlen := ga0.1
  refine Tm.ite (fun h1 => ?_) (fun h1 => ?_)
  · try simp only [bz0, bz1, bz2, bz3, bz4, bz5, bz6, bz7, bz8, bz9, bza] at h1
    exact Tm.ret (by first | rfl | (exfalso; simp [Zu] at *))
  · try simp only [bz0, bz1, bz2, bz3, bz4, bz5, bz6, bz7, bz8, bz9, bza] at h1
    refine Tm.loop (okk := Z3) (p := fun k => k) (fun i hi => hi) (b := fun k => YZ.l0 k a0 a0 (fun z0 => some z0)) (fun i => (((a0.length : Int)) - i).toNat) (fun i => 0 ≤ i ∧ i ≤ (a0.length : Int)) ?_ ?_ ?_
    · rintro i hI
      try simp only [] at hI ⊢
      have : big = 2 ^ 64 := rfl
      have := ga0.1
      omega
    · ((try simp only []); omega)
    · rintro i hI L hL
      try simp only [] at hI
      obtain ⟨i0, i1⟩ := hI
      simp only [YZ.l0, atR, rdQ, Q.ask]
      refine Tm.ite (fun h2 => ?_) (fun h2 => ?_)
      · try simp only [bz0, bz1, bz2, bz3, bz4, bz5, bz6, bz7, bz8, bz9, bza] at h2
        refine Tm.atRow (by first | assumption | omega) (by first | assumption | omega) (fun x3 hx4 hm5 => ?_)
        obtain ⟨c6, c7, c8, c9, rfl, g10, g11, g12, g13, _⟩ := (ga0.2 x3 hm5).open
        refine Tm.uncons ?_
        refine Tm.dStr ?_
        refine Tm.uncons ?_
        refine Tm.dSl ?_
        refine Tm.uncons ?_
        refine Tm.dSl ?_
        refine Tm.uncons ?_
        refine Tm.dInt ?_
        refine Tm.atEnd ?_
        refine Tm.atRow (by first | assumption | omega) (by first | assumption | omega) (fun x14 hx15 hm16 => ?_)
        rw [hx4] at hx15
        injection hx15 with hx15
        subst hx15
        refine Tm.uncons ?_
        refine Tm.dStr ?_
        refine Tm.uncons ?_
        refine Tm.dSl ?_
        refine Tm.uncons ?_
        refine Tm.dSl ?_
        refine Tm.uncons ?_
        refine Tm.dInt ?_
        refine Tm.atEnd ?_
        refine YaF.tm (fun i hi => hi.1) (YaF.T (by first | assumption | omega) (by first | assumption | omega) (by first | assumption | omega) (by first | assumption | omega)) (fun y22 hy21 => ?_)
        subst hy21
        refine Tm.ite (fun h23 => ?_) (fun h23 => ?_)
        · try simp only [bz0, bz1, bz2, bz3, bz4, bz5, bz6, bz7, bz8, bz9, bza] at h23
          exact Tm.ret (by first | rfl | (exfalso; simp [Zu] at *))
        · try simp only [bz0, bz1, bz2, bz3, bz4, bz5, bz6, bz7, bz8, bz9, bza] at h23
          try rw [Zj (x := i + 1) (by omega) (by omega)]
          exact hL _ (by (try simp only []); omega) (by (try simp only []); omega)
      · try simp only [bz0, bz1, bz2, bz3, bz4, bz5, bz6, bz7, bz8, bz9, bza] at h2
        exact Tm.ret (by first | rfl | (exfalso; simp [Zu] at *))
theorem Ym.f_of {β : Type} {k a0 z0} (h : Ym.t k a0 = some z0) (K : ByteArray → Option β) : Ym.f k a0 K = K z0 := by unfold Ym.f; rw [h]; rfl
theorem Ym.tm {ι α : Type} {ok : ι → Prop} {ψ : α → Prop} {p : ι → Nat} {B : Nat} (hp : ∀ i, ok i → B ≤ p i) {a0 φ} (h : Tm (fun k => B ≤ k) (fun k => Ym.t k a0) φ) {G : ι → ByteArray → Option α} (hG : ∀ z0, φ z0 → Tm ok (fun i => G i z0) ψ) : Tm ok (fun i => Ym.f (p i) a0 (G i)) ψ := ZK (t := fun k => Ym.t k a0) hp h hG
theorem Ym.T {a0 : Int} (h1 : a0 ≤ 4611686018427387904) : Tm Z3 (fun k => Ym.t k a0) (fun _ => True) := by
  unfold Ym.t Ym.g
  have hb : big = 2 ^ 64 := rfl
  refine Tm.ite (fun _ => Tm.ret trivial) (fun h => ?_)
  simp only [decide_eq_false_iff_not, Int.not_le] at h
  refine Tm.loop (okk := Z3) (p := fun k => k) (fun i hi => hi) (b := fun k => Ym.l0 k (fun z0 => some z0)) (fun v => match v with | (u, s) => u.toNat) (fun v => match v with | (u, s) => 0 ≤ u ∧ u + s.size ≤ a0) ?_ ?_ ?_
  · rintro ⟨u, s⟩ hI
    simp only [] at hI ⊢
    omega
  · simp only []
    have : (⟨#[]⟩ : ByteArray).size = 0 := rfl
    omega
  · rintro ⟨u, s⟩ hI L hL
    simp only [] at hI
    obtain ⟨u0, u1⟩ := hI
    simp only [Ym.l0]
    refine Tm.ite (fun h4 => ?_) (fun h4 => ?_)
    · simp only [decide_eq_true_eq] at h4
      have e1 : ∀ x : UInt8, (⟨#[x]⟩ : ByteArray).size = 1 := fun _ => rfl
      have ed : Int.tdiv u 10 = u / 10 := Int.tdiv_eq_ediv_of_nonneg (by omega)
      refine Tm.guard (by decide) (Tm.guard (by rw [e1]; omega) (Tm.guard (by decide) ?_))
      rw [ed, Zj (x := u / 10) (by omega) (by omega)]
      refine hL (_, _) ⟨by omega, ?_⟩ (by simp only []; omega)
      rw [ByteArray.size_append, e1]
      omega
    · have e1 : (⟨#[109]⟩ : ByteArray).size = 1 := rfl
      exact Tm.guard (by rw [e1]; omega) (Tm.ret trivial)
noncomputable def Ym.v (a0 : Int) : ByteArray := (Ym.t big a0).getD default
theorem Ym.tv {a0 : Int} (h1 : a0 ≤ 4611686018427387904) {k : Nat} (hk : Z3 k) : Ym.t k a0 = some (Ym.v a0) := (Ym.T h1).val hk
theorem Ym.fv {a0 : Int} (h1 : a0 ≤ 4611686018427387904) {k : Nat} (hk : Z3 k) {β : Type} (K : ByteArray → Option β) : Ym.f k a0 K = K (Ym.v a0) := Ym.f_of (Ym.tv h1 hk) K
theorem YD.tm {ι α : Type} {ok : ι → Prop} {ψ : α → Prop} {p : ι → Nat} {B : Nat} (hp : ∀ i, ok i → B ≤ p i) {a0 a1 φ} (h : Tm (fun k => B ≤ k) (fun k => YD.t k a0 a1) φ) {G : ι → Int → (List (List C)) → Option α} (hG : ∀ z0 z1, φ (z0, z1) → Tm ok (fun i => G i z0 z1) ψ) : Tm ok (fun i => YD.f (p i) a0 a1 (G i)) ψ := bd2_tm (t := fun k => YD.t k a0 a1) hp h hG
theorem YV.tm {ι α : Type} {ok : ι → Prop} {ψ : α → Prop} {p : ι → Nat} {B : Nat} (hp : ∀ i, ok i → B ≤ p i) {a0 a1 φ} (h : Tm (fun k => B ≤ k) (fun k => YV.t k a0 a1) φ) {G : ι → Int → (List (List C)) → Option α} (hG : ∀ z0 z1, φ (z0, z1) → Tm ok (fun i => G i z0 z1) ψ) : Tm ok (fun i => YV.f (p i) a0 a1 (G i)) ψ := bd2_tm (t := fun k => YV.t k a0 a1) hp h hG
theorem YS.tm {ι α : Type} {ok : ι → Prop} {ψ : α → Prop} {p : ι → Nat} {B : Nat} (hp : ∀ i, ok i → B ≤ p i) {a0 a1 φ} (h : Tm (fun k => B ≤ k) (fun k => YS.t k a0 a1) φ) {G : ι → Int → (List (List C)) → Option α} (hG : ∀ z0 z1, φ (z0, z1) → Tm ok (fun i => G i z0 z1) ψ) : Tm ok (fun i => YS.f (p i) a0 a1 (G i)) ψ := bd2_tm (t := fun k => YS.t k a0 a1) hp h hG
theorem YaE.tm {ι α : Type} {ok : ι → Prop} {ψ : α → Prop} {p : ι → Nat} {B : Nat} (hp : ∀ i, ok i → B ≤ p i) {aD aC aE aG a1 φ} (h : Tm (fun k => B ≤ k) (fun k => YaE.t k aD aC aE aG a1) φ) {G : ι → Int → (List (List C)) → (List (List C)) → (List (List C)) → Option α} (hG : ∀ z0 z1 z2 z3, φ (z0, z1, z2, z3) → Tm ok (fun i => G i z0 z1 z2 z3) ψ) : Tm ok (fun i => YaE.f (p i) aD aC aE aG a1 (G i)) ψ := bd4_tm (t := fun k => YaE.t k aD aC aE aG a1) hp h hG
theorem YT.tm {ι α : Type} {ok : ι → Prop} {ψ : α → Prop} {p : ι → Nat} {B : Nat} (hp : ∀ i, ok i → B ≤ p i) {a0 a1 φ} (h : Tm (fun k => B ≤ k) (fun k => YT.t k a0 a1) φ) {G : ι → Int → (List (List C)) → Option α} (hG : ∀ z0 z1, φ (z0, z1) → Tm ok (fun i => G i z0 z1) ψ) : Tm ok (fun i => YT.f (p i) a0 a1 (G i)) ψ := bd2_tm (t := fun k => YT.t k a0 a1) hp h hG
theorem YR.tm {ι α : Type} {ok : ι → Prop} {ψ : α → Prop} {p : ι → Nat} {B : Nat} (hp : ∀ i, ok i → B ≤ p i) {a0 a1 φ} (h : Tm (fun k => B ≤ k) (fun k => YR.t k a0 a1) φ) {G : ι → Int → (List (List C)) → Option α} (hG : ∀ z0 z1, φ (z0, z1) → Tm ok (fun i => G i z0 z1) ψ) : Tm ok (fun i => YR.f (p i) a0 a1 (G i)) ψ := bd2_tm (t := fun k => YR.t k a0 a1) hp h hG
theorem YY.tm {ι α : Type} {ok : ι → Prop} {ψ : α → Prop} {p : ι → Nat} {B : Nat} (hp : ∀ i, ok i → B ≤ p i) {a0 a1 φ} (h : Tm (fun k => B ≤ k) (fun k => YY.t k a0 a1) φ) {G : ι → Int → (List (List C)) → Option α} (hG : ∀ z0 z1, φ (z0, z1) → Tm ok (fun i => G i z0 z1) ψ) : Tm ok (fun i => YY.f (p i) a0 a1 (G i)) ψ := bd2_tm (t := fun k => YY.t k a0 a1) hp h hG
theorem YU.tm {ι α : Type} {ok : ι → Prop} {ψ : α → Prop} {p : ι → Nat} {B : Nat} (hp : ∀ i, ok i → B ≤ p i) {a0 a1 φ} (h : Tm (fun k => B ≤ k) (fun k => YU.t k a0 a1) φ) {G : ι → Int → Option α} (hG : ∀ z0, φ z0 → Tm ok (fun i => G i z0) ψ) : Tm ok (fun i => YU.f (p i) a0 a1 (G i)) ψ := ZK (t := fun k => YU.t k a0 a1) hp h hG
set_option maxRecDepth 100000 in
set_option maxHeartbeats 8000000 in
theorem YU.step {u : Int}  (h0 : 0 ≤ u)  (h1 : u + 1 ≤ 4611686018427387904) {k : Nat} (hk : Z3 k) : HStep (fun xs L v => YU.l0 k xs (fun z0 => some z0) L v) u [.int .i64 (u)] (u + 1) := by
  have hk0 : Z3 k := hk
  intro xs i i0 i1 hl hr L
  simp (maxSteps := 4000000) (disch := first | assumption | omega) only [YU.l0, atR, rdQ, Q.ask, ZQ i1, cond_true, cond_false, Zbp i0 i1, hr, ZY, Zad, Zaj, ZaQ, Za7, Z6, Zj, Ym.fv, Zu, bne_self_eq_false, beq_self_eq_true, Bool.not_true]
theorem scal_deep : ∀ r : List D, r.all Zau = true → ZZ r = r.map C.d
  | [], _ => rfl
  | x :: r, h => by
    simp only [List.all_cons, Bool.and_eq_true] at h
    have hx : ZbW x = .d x := by cases x <;> first | rfl | simp [Zau] at h
    simp only [ZZ, List.map_cons, hx, scal_deep r h.2]
theorem held_flat {S : Int → List D → Int → Prop} (hS : ∀ u r u', S u r u' → r.all Zau = true) {n u : Int} {xs : List (List D)} (h : ZbX S n xs u) : flatC (Zb xs) = true := by
  induction h with
  | nil => rfl
  | snoc h hs ih =>
    rw [Zai]
    unfold flatC at ih ⊢
    rw [List.all_append, ih]
    simp only [Zb, List.all_cons, List.all_nil, Bool.true_and, Bool.and_true, scal_deep _ (hS _ _ _ hs), List.all_map]
    exact hS _ _ _ hs
set_option maxRecDepth 100000 in
set_option maxHeartbeats 8000000 in
theorem YY.T {B : Nat} (hB : B ≤ 1099511627776) {xs : List (List D)} {n : Int} (g : Zi RI B xs) (h0 : 0 ≤ n) (h1 : n + Zp xs ≤ 4611686018427387904) : Tm Z3 (fun k => YY.t k (Zb xs) n) (fun z => ∃ ys, z.2 = Zb ys ∧ (ys.length = xs.length ∧ flatC (Zb ys) = true) ∧ z.1 = n + Zp xs ∧ ∀ k, Z3 k → YU.t k ys n = some z.1) := by
  have hb : big = 2 ^ 64 := rfl
  have hl := g.1
  have key : Tm Z3 (fun k => YY.t k (Zb xs) n) (fun z => ∃ ys, z.2 = Zb ys ∧ ys.length = xs.length ∧ z.1 = n + Zp xs ∧ ZbX (fun u r u' => (∀ k, Z3 k → HStep (fun xs L v => YU.l0 k xs (fun z0 => some z0) L v) u r u') ∧ r.all Zau = true) n ys z.1) := by
    unfold YY.t YY.g
    refine Tm.loop (okk := Z3) (p := fun k => k) (fun i hi => hi) (b := fun k => YY.l0 k (fun z0 z1 => some (z0, z1))) (fun v => match v with | (u, i, tab) => ((xs.length : Int) - i).toNat) (fun v => match v with | (u, i, tab) => 0 ≤ i ∧ i ≤ xs.length ∧ ∃ done : List (List D), done.length = i.toNat ∧ tab = Zb done ++ Zb (xs.drop i.toNat) ∧ u = n + Zp (xs.take i.toNat) ∧ ZbX (fun u r u' => (∀ k, Z3 k → HStep (fun xs L v => YU.l0 k xs (fun z0 => some z0) L v) u r u') ∧ r.all Zau = true) n done u) ?_ ?_ ?_
    · rintro ⟨u, i, tab⟩ hI
      simp only [] at hI ⊢
      omega
    · exact ⟨by omega, by omega, [], rfl, by simp [Zb], by simp [Zp], .nil⟩
    · rintro ⟨u, i, tab⟩ hI L hL
      simp only [] at hI
      obtain ⟨i0, i1, done, hd, rfl, hu, hH⟩ := hI
      have hA : (Zb done).length = i.toNat := by rw [Zw, hd]
      have hT : (Zb done ++ Zb (xs.drop i.toNat)).length = xs.length := by rw [List.length_append, hA, Zw, List.length_drop]; omega
      simp only [YY.l0]
      refine Tm.ite (fun h4 => ?_) (fun h4 => ?_)
      · simp only [decide_eq_true_eq, hT] at h4
        have hx := gR_at i0 h4
        obtain ⟨c0, e, k0, _⟩ := (g.2 _ (gR_mem i0 h4)).open
        rw [e] at hx
        have hdr := drop_at i0 hx
        have hw := wt_take i0 hx
        simp only [ZbG, wtD] at hw
        have hs := wt_split xs (i + 1).toNat
        rw [hdr] at hT ⊢
        simp only [Zb, ZZ, ZbW] at hT ⊢
        have hT2 := hT
        simp only [List.length_append, List.length_cons] at hT2
        refine Tm.guard (by first | decide | (simp only [List.length_modify, List.length_append, List.length_cons]; omega)) ?_
        refine Tm.guard (by first | decide | (simp only [List.length_modify, List.length_append, List.length_cons]; omega)) ?_
        try simp (disch := omega) only [Zj]
        try simp only [Zaf hA, Zq, List.take_zero, List.take_succ_cons, List.drop_succ_cons, List.drop_zero, List.nil_append, List.cons_append, List.length_cons, List.length_nil, Nat.zero_add, Nat.reduceAdd, List.set_cons_succ, List.set_cons_zero]
        refine hL (_, _, _) ⟨by omega, by omega, done ++ [[.int .i64 (u)]], by simp only [List.length_append, List.length_cons, List.length_nil]; omega, ?_, by omega, ZbX.snoc hH ⟨(fun k hk => YU.step (by omega) (by omega) hk), rfl⟩⟩ (by simp only []; omega)
        rw [Zai]
        simp only [Zb, ZZ, ZbW, List.append_assoc, List.cons_append, List.nil_append]
      · simp only [decide_eq_false_iff_not, hT] at h4
        refine Tm.ret ⟨done, ?_, by omega, ?_, hH⟩
        · rw [List.drop_eq_nil_of_le (by omega)]
          simp only [Zb, List.append_nil]
        · rw [List.take_of_length_le (by omega)] at hu
          exact hu
  obtain ⟨v, ⟨ys, e1, e2, e3, hH⟩, h2⟩ := key
  exact ⟨v, ⟨ys, e1, ⟨e2, held_flat (fun _ _ _ h => h.2) hH⟩, e3, fun k hk => by
    have hk0 : Z3 k := hk
    unfold YU.t YU.g
    exact held_run (b := fun xs L v => YU.l0 k xs (fun z0 => some z0) L v) (by omega) (hH.mono fun _ _ _ h => h.1 k hk) (by omega) (fun L => by simp [YU.l0, atR, rdQ, Q.ask])⟩, h2⟩
end Go.Proofs.YtppfencdbabmeaaGreat
