/- Printed, and by hand: the functions that FnExactPlans reaches come to their end; the program's answer as the reference's. -/
import Derived.Test.YtppfencdbabmeaaGreatXEPlans1
import Derived.KernelRfl
set_option linter.unusedVariables false
set_option linter.unusedSimpArgs false
namespace Go.Proofs.YtppfencdbabmeaaGreat
open Go Go.T Go.Proofs
theorem ZaA (n : Int) : n = 1 ∨ n = 2 ∨ n = 3 ∨ n = 4 ∨ n = 5 ∨ ((n == 1) = false ∧ (n == 2) = false ∧ (n == 3) = false ∧ (n == 4) = false ∧ (n == 5) = false) := by
 simp only [beq_eq_false_iff_ne]
 omega
theorem delR_deep {pr : List D → Option Bool} {q : List D → Bool} : ∀ {e : LD}, (∀ r ∈ e, pr r = some (q r)) → delR pr (Zb e) = some (Zb (e.filter fun r => !q r))
 | [], _ => rfl
 | r :: e, h => by
  simp only [Zb, delR, ZcQ, h r (by simp), delR_deep (e := e) fun x hx => h x (by simp [hx])]
  rw [List.filter_cons]
  cases q r <;> rfl
theorem delK_deep {ix : LD → Option Int} {pr : List D → Option Bool} {q : List D → Bool} {d : LD} (hl : d.length ≤ 1048576) (hix : ix d = some (Zbo (fun i => q (gR d (i : Int))) d.length)) (h : ∀ r ∈ d, pr r = some (q r)) : delK ix pr (Zb d) = some (Zb (d.filter fun r => !q r)) := by
 unfold delK
 rw [ZO, hix]
 have hg : ∀ i (hi : i < d.length), gR d (i : Int) = d[i] := fun i hi => by
  have := gR_at (xs := d) (v := (i : Int)) (by omega) (by omega)
  rw [Int.toNat_natCast, List.getElem?_eq_getElem hi] at this
  injection this with this
  exact this.symm
 by_cases hz : Zbo (fun i => q (gR d (i : Int))) d.length < 0
 ·obtain ⟨h1, h2⟩ := findI_none hz
  simp only [h1, if_true]
  congr 2
  symm
  rw [List.filter_eq_self]
  intro x hx
  obtain ⟨i, hi, rfl⟩ := List.mem_iff_getElem.mp hx
  have := h2 i hi
  rw [hg i hi] at this
  rw [this]; rfl
 ·obtain ⟨h1, h2, h3, h4⟩ := findI_some (p := fun i => q (gR d (i : Int))) (n := d.length) (by omega)
  generalize Zbo (fun i => q (gR d (i : Int))) d.length = z at *
  simp only [show ¬ z = -1 by omega, if_false]
  rw [ZaP ⟨by omega, by rw [Zw]; omega, by rw [Zw]; omega⟩]
  have ht : ∀ m, m ≤ d.length → (Zb d).take m = Zb (d.take m) ∧ (Zb d).drop m = Zb (d.drop m) := fun m hm => by
   have e : Zb d = Zb (d.take m) ++ Zb (d.drop m) := by rw [← Zai, List.take_append_drop]
   have l : (Zb (d.take m)).length = m := by rw [Zw, List.length_take]; omega
   rw [e]
   exact ⟨List.take_left' l, List.drop_left' l⟩
  rw [(ht z.toNat (by omega)).1, (ht (z.toNat + 1) (by omega)).2, delR_deep fun r hr => h r (List.mem_of_mem_drop hr)]
  simp only []
  rw [← Zai]
  congr 2
  have h5 : d = d.take z.toNat ++ (d[z.toNat] :: d.drop (z.toNat + 1)) := by rw [List.getElem_cons_drop, List.take_append_drop]
  conv => rhs; rw [h5]
  rw [List.filter_append, List.filter_cons]
  have h7 : q d[z.toNat] = true := by have := h2; rwa [hg _ h1] at this
  rw [h7]
  simp only [Bool.not_true, Bool.false_eq_true, if_false]
  congr 1
  symm
  rw [List.filter_eq_self]
  intro x hx
  obtain ⟨i, hi, rfl⟩ := List.mem_iff_getElem.mp hx
  rw [List.length_take] at hi
  have := h4 i (by omega)
  rw [hg i (by omega)] at this
  rw [List.getElem_take, this]; rfl
def insD (r : Nat → Int) (x : Nat) : List Nat → List Nat
 | [] => [x]
 | y :: l => if r y < r x then x :: y :: l else y :: insD r x l
def Ya8 (r : Nat → Int) (l : List Nat) : List Nat := l.foldl (fun a x => insD r x a) []
def AheadD (r : Nat → Int) (i j : Nat) : Prop := r j < r i ∨ (r i = r j ∧ i < j)
theorem insD_mem {r : Nat → Int} {x z : Nat} : ∀ {l : List Nat}, z ∈ insD r x l ↔ z = x ∨ z ∈ l
 | [] => by simp [insD]
 | y :: l => by
  unfold insD
  split
  ·simp
  ·simp only [List.mem_cons, insD_mem (l := l)]
   constructor
   ·rintro (h | h | h) <;> simp [h]
   ·rintro (h | h | h) <;> simp [h]
theorem insD_len {r : Nat → Int} {x : Nat} : ∀ {l : List Nat}, (insD r x l).length = l.length + 1
 | [] => rfl
 | y :: l => by
  unfold insD
  split
  ·simp
  ·simp [insD_len (l := l)]
theorem insD_pair {r : Nat → Int} {x : Nat} : ∀ {l : List Nat}, l.Pairwise (AheadD r) → (∀ y ∈ l, y < x) → (insD r x l).Pairwise (AheadD r)
 | [], _, _ => by simp [insD]
 | y :: l, h, hx => by
  obtain ⟨h1, h2⟩ := List.pairwise_cons.mp h
  unfold insD
  split
  ·rename_i hr
   refine List.pairwise_cons.mpr ⟨fun z hz => ?_, h⟩
   rcases List.mem_cons.mp hz with rfl | hz
   ·exact .inl hr
   ·rcases h1 z hz with q | q
    ·exact .inl (by omega)
    ·exact .inl (by omega)
  ·rename_i hr
   refine List.pairwise_cons.mpr ⟨fun z hz => ?_, insD_pair h2 fun z hz => hx z (by simp [hz])⟩
   rcases insD_mem.mp hz with rfl | hz
   ·have := hx y (by simp)
    by_cases he : r y = r z
    ·exact .inr ⟨he, this⟩
    ·exact .inl (by omega)
   ·exact h1 z hz
theorem foldD {r : Nat → Int} : ∀ (l a : List Nat), a.Pairwise (AheadD r) → l.Pairwise (· < ·) → (∀ y ∈ a, ∀ x ∈ l, y < x) →
  (l.foldl (fun a x => insD r x a) a).Pairwise (AheadD r) ∧ (∀ z, z ∈ l.foldl (fun a x => insD r x a) a ↔ z ∈ a ∨ z ∈ l) ∧ (l.foldl (fun a x => insD r x a) a).length = a.length + l.length
 | [], a, h, _, _ => ⟨h, by simp, by simp⟩
 | x :: l, a, h, hl, hx => by
  obtain ⟨h1, h2⟩ := List.pairwise_cons.mp hl
  obtain ⟨q1, q2, q3⟩ := foldD l (insD r x a) (insD_pair h fun y hy => hx y hy x (by simp)) h2 (fun y hy z hz => by
   rcases insD_mem.mp hy with rfl | hy
   ·exact h1 z hz
   ·exact hx y hy z (by simp [hz]))
  refine ⟨q1, fun z => ?_, by rw [List.foldl_cons, q3, insD_len, List.length_cons]; omega⟩
  rw [List.foldl_cons, q2, insD_mem, List.mem_cons]
  constructor
  ·rintro ((h | h) | h) <;> simp [h]
  ·rintro (h | h | h) <;> simp [h]
theorem Ybb {r : Nat → Int} {l : List Nat} (hl : l.Pairwise (· < ·)) : (Ya8 r l).Pairwise (AheadD r) ∧ (∀ z, z ∈ Ya8 r l ↔ z ∈ l) ∧ (Ya8 r l).length = l.length := by
 obtain ⟨h1, h2, h3⟩ := foldD (r := r) l [] (by simp) hl (by simp)
 exact ⟨h1, fun z => by rw [Ya8, h2]; simp, by rw [Ya8, h3]; simp⟩
theorem insD_map {r : Nat → Int} {f : Nat → Nat} {x : Nat} : ∀ {l : List Nat}, insD r (f x) (l.map f) = (insD (fun i => r (f i)) x l).map f
 | [] => rfl
 | y :: l => by
  simp only [List.map_cons, insD]
  split
  ·rfl
  ·rw [insD_map (l := l)]; rfl
theorem isortD_map {r : Nat → Int} {f : Nat → Nat} {l : List Nat} : Ya8 r (l.map f) = (Ya8 (fun i => r (f i)) l).map f := by
 have : ∀ (l a : List Nat), (l.map f).foldl (fun a x => insD r x a) (a.map f) = (l.foldl (fun a x => insD (fun i => r (f i)) x a) a).map f := by
  intro l
  induction l with
  | nil => intro a; rfl
  | cons x l ih => intro a; simp only [List.map_cons, List.foldl_cons, insD_map, ih]
 exact this l []
def bestD (r : Nat → Int) : List Nat → Option Nat → Option Nat
 | [], b => b
 | i :: l, none => bestD r l (some i)
 | i :: l, some b => if r b < r i then bestD r l (some i) else bestD r l (some b)
theorem bestD_some {r : Nat → Int} : ∀ {l : List Nat} {b : Nat}, (∀ i ∈ l, b < i) → l.Pairwise (· < ·) → ∃ c, bestD r l (some b) = some c ∧ (c = b ∨ c ∈ l) ∧ (c = b ∨ AheadD r c b) ∧ ∀ i ∈ l, i = c ∨ AheadD r c i
 | [], b, _, _ => ⟨b, rfl, .inl rfl, .inl rfl, by simp⟩
 | i :: l, b, h, hl => by
  obtain ⟨h1, h2⟩ := List.pairwise_cons.mp hl
  unfold bestD
  split
  ·rename_i hr
   obtain ⟨c, q1, q2, q3, q4⟩ := bestD_some (r := r) (b := i) h1 h2
   refine ⟨c, q1, .inr (by rcases q2 with h | h <;> simp [h]), .inr ?_, fun j hj => ?_⟩
   ·rcases q3 with rfl | q3
    ·exact .inl hr
    ·rcases q3 with q | q
     ·exact .inl (by omega)
     ·exact .inl (by omega)
   ·rcases List.mem_cons.mp hj with rfl | hj
    ·rcases q3 with rfl | q3
     ·exact .inl rfl
     ·exact .inr q3
    ·exact q4 j hj
  ·rename_i hr
   have hb := h i (by simp)
   obtain ⟨c, q1, q2, q3, q4⟩ := bestD_some (r := r) (b := b) (fun j hj => h j (by simp [hj])) h2
   refine ⟨c, q1, by rcases q2 with h | h <;> simp [h], q3, fun j hj => ?_⟩
   rcases List.mem_cons.mp hj with rfl | hj
   ·have hbi : AheadD r b j := by
     by_cases he : r b = r j
     ·exact .inr ⟨he, hb⟩
     ·exact .inl (by omega)
    rcases q3 with rfl | q3
    ·exact .inr hbi
    ·right
     rcases q3 with q | q <;> rcases hbi with p | p
     ·exact .inl (by omega)
     ·exact .inl (by omega)
     ·exact .inl (by omega)
     ·exact .inr ⟨by omega, by omega⟩
   ·exact q4 j hj
theorem best_next {r : Nat → Int} {l : List Nat} (hl : l.Pairwise (· < ·)) (h0 : ∀ i ∈ l, 0 ≤ r i) {t : Nat} (ht : t < l.length) {r' : Nat → Int}
  (hr : ∀ i ∈ l, r' i = if i ∈ (Ya8 r l).take t then -1 else r i) : bestD r' l none = (Ya8 r l)[t]? := by
 obtain ⟨s1, s2, s3⟩ := Ybb (r := r) hl
 have hT : t < (Ya8 r l).length := by omega
 generalize Ya8 r l = S at s1 s2 s3 hr hT ⊢
 rw [List.getElem?_eq_getElem hT]
 cases l with
 | nil => simp at ht
 | cons a l =>
  obtain ⟨h1, h2⟩ := List.pairwise_cons.mp hl
  obtain ⟨c, q1, q2, q3, q4⟩ := bestD_some (r := r') h1 h2
  unfold bestD
  rw [q1]
  congr 1
  have hnd : S.Nodup := s1.imp fun {i j} h e => by subst e; rcases h with h | h <;> omega
  have hSt : S[t] ∉ S.take t := fun h => by
   obtain ⟨i, hi, he⟩ := List.mem_take_iff_getElem.mp h
   have := (List.getElem_inj hnd).mp he
   omega
  have hm : S[t] ∈ a :: l := (s2 _).mp (List.getElem_mem hT)
  have hrt : r' S[t] = r S[t] := by rw [hr _ hm, if_neg hSt]
  have h0t := h0 _ hm
  -- c is in the list, and nothing is ahead of it
  have hcm : c ∈ a :: l := by rcases q2 with h | h <;> simp [h]
  have hall : ∀ i ∈ a :: l, i = c ∨ AheadD r' c i := fun i hi => by
   rcases List.mem_cons.mp hi with rfl | hi
   ·rcases q3 with rfl | q
    ·exact .inl rfl
    ·exact .inr q
   ·exact q4 i hi
  rcases hall _ hm with h | h
  ·exact h.symm
  ·exfalso
   have hcn : c ∉ S.take t := fun hc => by
    have := hr c hcm
    rw [if_pos hc] at this
    rcases h with h | h <;> omega
   have hcr : r' c = r c := by rw [hr c hcm, if_neg hcn]
   obtain ⟨j, hj, rfl⟩ := List.mem_iff_getElem.mp ((s2 c).mpr hcm)
   have hjt : t < j := by
    rcases Nat.lt_trichotomy j t with q | q | q
    ·exact absurd (List.mem_take_iff_getElem.mpr ⟨j, by omega, rfl⟩) hcn
    ·subst q
     rcases h with h | h <;> omega
    ·exact q
   have := List.pairwise_iff_getElem.mp s1 t j hT hj hjt
   rw [AheadD, hrt, hcr] at h
   rcases this with p | p <;> rcases h with q | q <;> omega
section
variable (w c o : Nat → Int) (L : Nat) (n : Int)
def opB (i : Nat) : Bool := decide (0 < w i) && decide (o i < c i)
def opL : List Nat := (List.range L).filter (opB w c o)
def smL (l : List Nat) : Int := (l.map w).sum
abbrev smD : Int := smL w (opL w c o L)
def bsD (s : Int) (i : Nat) : Int := Int.tdiv (n * w i) s
def rsD (s : Int) (i : Nat) : Int := Int.tmod (n * w i) s
def lfD (s : Int) (l : List Nat) : Int := n - (l.map (bsD w n s)).sum
def chD (s : Int) (l : List Nat) : List Nat := (Ya8 (rsD w n s) l).take (lfD w n s l).toNat
def xD (s : Int) (l : List Nat) (i : Nat) : Int := bsD w n s i + if i ∈ chD w n s l then 1 else 0
def clD (s : Int) (l : List Nat) (i : Nat) : Int := if c i - o i < xD w n s l i then c i - o i else xD w n s l i
end
theorem sum_le {f : Nat → Int} {b : Int} : ∀ {l : List Nat}, (∀ i ∈ l, 0 ≤ f i ∧ f i ≤ b) → 0 ≤ (l.map f).sum ∧ (l.map f).sum ≤ b * l.length
 | [], _ => by simp
 | x :: l, h => by
  obtain ⟨q1, q2⟩ := sum_le (f := f) (b := b) (l := l) fun i hi => h i (by simp [hi])
  obtain ⟨p1, p2⟩ := h x (by simp)
  simp only [List.map_cons, List.sum_cons, List.length_cons]
  have : b * ((l.length + 1 : Nat) : Int) = b * (l.length : Int) + b := by rw [show ((l.length + 1 : Nat) : Int) = (l.length : Int) + 1 by omega, Int.mul_add, Int.mul_one]
  omega
theorem sum_split {w : Nat → Int} {n s : Int} (hs : 0 < s) (hn : 0 ≤ n) : ∀ {l : List Nat}, (∀ i ∈ l, 0 ≤ w i) → n * (l.map w).sum = s * (l.map (bsD w n s)).sum + (l.map (rsD w n s)).sum
 | [], _ => by simp
 | x :: l, h => by
  have ih := sum_split (w := w) hs hn (l := l) fun i hi => h i (by simp [hi])
  have h1 : s * bsD w n s x + rsD w n s x = n * w x := Int.mul_tdiv_add_tmod (n * w x) s
  simp only [List.map_cons, List.sum_cons]
  rw [Int.mul_add, Int.mul_add, ih, ← h1]
  omega
theorem rsD_bound {w : Nat → Int} {n s : Int} (hs : 0 < s) (hn : 0 ≤ n) {i : Nat} (h : 0 ≤ w i) : 0 ≤ rsD w n s i ∧ rsD w n s i < s ∧ 0 ≤ bsD w n s i := by
 have h0 : 0 ≤ n * w i := Int.mul_nonneg hn h
 exact ⟨Int.tmod_nonneg _ h0, Int.tmod_lt_of_pos _ hs, Int.tdiv_nonneg h0 (by omega)⟩
theorem lfD_bound {w : Nat → Int} {n : Int} {l : List Nat} (hn : 0 ≤ n) (hw : ∀ i ∈ l, 0 < w i) (hl : l ≠ []) : 0 < smL w l ∧ 0 ≤ lfD w n (smL w l) l ∧ lfD w n (smL w l) l < l.length ∧ 0 ≤ (l.map (bsD w n (smL w l))).sum := by
 have hs : 0 < smL w l := by
  cases l with
  | nil => exact absurd rfl hl
  | cons x l =>
   unfold smL
   have h1 := hw x (by simp)
   have h2 : 0 ≤ (l.map w).sum := by
    have : ∀ {l : List Nat}, (∀ i ∈ l, 0 < w i) → 0 ≤ (l.map w).sum := fun {l} => by
     induction l with
     | nil => simp
     | cons y l ih =>
      intro h
      have := h y (by simp)
      have := ih fun i hi => h i (by simp [hi])
      simp only [List.map_cons, List.sum_cons]
      omega
    exact this fun i hi => hw i (by simp [hi])
   simp only [List.map_cons, List.sum_cons]
   omega
 have hsp := sum_split (w := w) (n := n) hs hn (l := l) fun i hi => Int.le_of_lt (hw i hi)
 have hr := sum_le (f := rsD w n (smL w l)) (b := smL w l - 1) (l := l) fun i hi => by
  obtain ⟨p1, p2, _⟩ := rsD_bound (w := w) (n := n) hs hn (i := i) (Int.le_of_lt (hw i hi))
  omega
 change n * smL w l = _ at hsp
 have hb0 : 0 ≤ (l.map (bsD w n (smL w l))).sum := by
  have : ∀ {l' : List Nat} {s : Int}, 0 < s → (∀ i ∈ l', 0 < w i) → 0 ≤ (l'.map (bsD w n s)).sum := fun {l' s} hs => by
   induction l' with
   | nil => simp
   | cons y l ih =>
    intro h
    obtain ⟨_, _, p⟩ := rsD_bound (w := w) (n := n) hs hn (i := y) (Int.le_of_lt (h y (by simp)))
    have := ih fun i hi => h i (by simp [hi])
    simp only [List.map_cons, List.sum_cons]
    omega
  exact this hs hw
 generalize (l.map (rsD w n (smL w l))).sum = R at hsp hr
 have hlf : smL w l * lfD w n (smL w l) l = R := by
  unfold lfD
  rw [Int.mul_sub, Int.mul_comm _ n, hsp]
  omega
 refine ⟨hs, ?_, ?_, hb0⟩
 ·generalize lfD w n (smL w l) l = f at hlf
  apply Int.not_lt.mp
  intro h
  have := Int.mul_neg_of_pos_of_neg hs h
  omega
 ·generalize lfD w n (smL w l) l = f at hlf
  have h1 : smL w l * f < smL w l * l.length := by
   rw [hlf]
   have : (smL w l - 1) * (l.length : Int) = smL w l * l.length - l.length := by rw [Int.sub_mul, Int.one_mul]
   have h2 : 0 < l.length := List.length_pos_iff.mpr hl
   omega
  exact Int.lt_of_mul_lt_mul_left h1 (Int.le_of_lt hs)
theorem opL_facts {w c o : Nat → Int} {L : Nat} : (opL w c o L).Pairwise (· < ·) ∧ ∀ i, i ∈ opL w c o L ↔ i < L ∧ 0 < w i ∧ o i < c i := by
 refine ⟨List.Pairwise.filter _ List.pairwise_lt_range, fun i => ?_⟩
 simp [opL, opB]
theorem xD_sum {w : Nat → Int} {n : Int} {l : List Nat} (hp : l.Pairwise (· < ·)) (hn : 0 ≤ n) (hw : ∀ i ∈ l, 0 < w i) (hl : l ≠ []) : (l.map (xD w n (smL w l) l)).sum = n := by
 obtain ⟨h1, h2, h3, _⟩ := lfD_bound hn hw hl
 generalize hs : smL w l = s at h1 h2 h3
 obtain ⟨s1, s2, s3⟩ := Ybb (r := rsD w n s) hp
 have hnd : (chD w n s l).Nodup := by
  have : (Ya8 (rsD w n s) l).Nodup := s1.imp fun {i j} h e => by subst e; rcases h with h | h <;> omega
  exact this.sublist (List.take_sublist _ _)
 have hlen : ((chD w n s l).length : Int) = lfD w n s l := by
  unfold chD
  rw [List.length_take, s3]
  omega
 have hsub : ∀ i ∈ chD w n s l, i ∈ l := fun i hi => (s2 i).mp (List.mem_of_mem_take hi)
 have hcount : ∀ (l : List Nat), l.Pairwise (· < ·) → ∀ (ch : List Nat), ch.Nodup → (∀ i ∈ ch, i ∈ l) → (l.map fun i => if i ∈ ch then (1 : Int) else 0).sum = ch.length := by
  intro l
  induction l with
  | nil =>
   intro _ ch _ h
   cases ch with
   | nil => rfl
   | cons x ch => exact absurd (h x (by simp)) (by simp)
  | cons x l ih =>
   intro hp ch hnd hsub
   obtain ⟨p1, p2⟩ := List.pairwise_cons.mp hp
   simp only [List.map_cons, List.sum_cons]
   have hx : x ∉ l := fun h => by have := p1 x h; omega
   have e : (l.map fun i => if i ∈ ch then (1 : Int) else 0) = l.map fun i => if i ∈ ch.erase x then (1 : Int) else 0 := List.map_congr_left fun i hi => by
    have : i ≠ x := fun h => hx (h ▸ hi)
    simp only [List.mem_erase_of_ne this]
   rw [e, ih p2 (ch.erase x) (hnd.erase x) fun i hi => by
    have hne : i ≠ x := fun h => by subst h; exact (List.Nodup.not_mem_erase hnd) hi
    rcases List.mem_cons.mp (hsub i (List.mem_of_mem_erase hi)) with h | h
    ·exact absurd h hne
    ·exact h]
   by_cases hm : x ∈ ch
   ·rw [if_pos hm, List.length_erase_of_mem hm]
    have := List.length_pos_of_mem hm
    omega
   ·rw [if_neg hm, List.erase_of_not_mem hm]
    omega
 have hadd : ∀ (l : List Nat) (f g : Nat → Int), (l.map fun i => f i + g i).sum = (l.map f).sum + (l.map g).sum := by
  intro l f g
  induction l with
  | nil => rfl
  | cons x l ih => simp only [List.map_cons, List.sum_cons, ih]; omega
 have : l.map (xD w n s l) = l.map fun i => bsD w n s i + (if i ∈ chD w n s l then (1 : Int) else 0) := rfl
 rw [this, hadd, hcount l hp _ hnd hsub, hlen]
 unfold lfD
 omega
theorem clD_sum {w c o : Nat → Int} {n : Int} {l : List Nat} (hp : l.Pairwise (· < ·)) (hn : 0 < n) (hw : ∀ i ∈ l, 0 < w i) (hc : ∀ i ∈ l, o i < c i) (hl : l ≠ []) :
  (∀ i ∈ l, 0 ≤ clD w c o n (smL w l) l i ∧ clD w c o n (smL w l) l i ≤ c i - o i ∧ 0 ≤ xD w n (smL w l) l i) ∧ 0 < (l.map (clD w c o n (smL w l) l)).sum ∧ (l.map (clD w c o n (smL w l) l)).sum ≤ n := by
 obtain ⟨h1, h2, h3, _⟩ := lfD_bound (Int.le_of_lt hn) hw hl
 have hx := xD_sum hp (Int.le_of_lt hn) hw hl
 generalize smL w l = s at *
 have hx0 : ∀ i ∈ l, 0 ≤ xD w n s l i := fun i hi => by
  obtain ⟨_, _, p⟩ := rsD_bound (w := w) (n := n) h1 (Int.le_of_lt hn) (i := i) (Int.le_of_lt (hw i hi))
  unfold xD
  split <;> omega
 have hcl : ∀ i ∈ l, 0 ≤ clD w c o n s l i ∧ clD w c o n s l i ≤ c i - o i ∧ clD w c o n s l i ≤ xD w n s l i ∧ (0 < xD w n s l i → 0 < clD w c o n s l i) := fun i hi => by
  have := hx0 i hi
  have := hc i hi
  unfold clD
  split <;> omega
 refine ⟨fun i hi => ⟨(hcl i hi).1, (hcl i hi).2.1, hx0 i hi⟩, ?_⟩
 have gen : ∀ l' : List Nat, (∀ i ∈ l', i ∈ l) → 0 ≤ (l'.map (clD w c o n s l)).sum ∧ (l'.map (clD w c o n s l)).sum ≤ (l'.map (xD w n s l)).sum ∧ (0 < (l'.map (xD w n s l)).sum → 0 < (l'.map (clD w c o n s l)).sum) := by
  intro l'
  induction l' with
  | nil => intro _; simp
  | cons y l' ih =>
   intro h
   obtain ⟨q1, q2, q3⟩ := ih fun i hi => h i (by simp [hi])
   obtain ⟨p1, _, p2, p3⟩ := hcl y (h y (by simp))
   have := hx0 y (h y (by simp))
   simp only [List.map_cons, List.sum_cons]
   refine ⟨by omega, by omega, fun h => ?_⟩
   by_cases h0 : 0 < xD w n s l y
   ·have := p3 h0; omega
   ·have := q3 (by omega); omega
 have := gen l fun i hi => hi
 rw [hx] at this
 exact ⟨this.2.2 hn, this.2.1⟩
def YaL (L : Nat) (g : Nat → C) : LC := (List.range L).map fun j => [g j]
def rowD (L : Nat) (g : Nat → D) : LD := (List.range L).map fun j => [g j]
abbrev cI (o : Nat → Int) : Nat → C := fun j => .d (.int .i64 (o j))
abbrev cB (o : Nat → Bool) : Nat → C := fun j => .d (.bool (o j))
theorem Yav (L : Nat) (g : Nat → C) : (YaL L g).length = L := by simp [YaL]
theorem Ybg (L : Nat) (g : Nat → D) : (rowD L g).length = L := by simp [rowD]
theorem Ya7 {L : Nat} {g h : Nat → C} (e : ∀ j, j < L → g j = h j) : YaL L g = YaL L h := List.map_congr_left fun j hj => by rw [e j (List.mem_range.mp hj)]
theorem Ya9 {L : Nat} {g : Nat → C} {i : Nat} (h : i < L) {β : Type} (F : List C → Option β) : ZaG (YaL L g) i F = F [g i] := by
 unfold ZaG YaL
 rw [List.getElem?_map, List.getElem?_range h]
 rfl
theorem Ybf {L : Nat} {g : Nat → C} {i : Nat} (h : i < L) (x : C) : ((YaL L g).modify i fun c => Zq c 0 [x]) = YaL L (fun j => if j = i then x else g j) := by
 refine List.ext_getElem (by simp [YaL]) fun j h1 h2 => ?_
 rw [List.getElem_modify]
 simp only [YaL, List.getElem_map, List.getElem_range]
 by_cases hj : i = j
 ·subst hj; simp [Zq]
 ·rw [if_neg hj, if_neg (fun h => hj h.symm)]
theorem rowF_rep (L : Nat) (x : C) : List.replicate L [x] = YaL L (fun _ => x) := by
 refine List.ext_getElem (by simp [YaL]) fun j h1 h2 => ?_
 simp [YaL]
theorem Ybk : ∀ (l : LC), C.immRows l = l.map C.immCells
 | [] => rfl
 | x :: l => by simp only [C.immRows, List.map_cons, Ybk l]
theorem imm_rowF (L : Nat) (g : Nat → C) : C.immRows (YaL L g) = rowD L (fun j => (g j).imm) := by
 rw [Ybk, YaL, rowD, List.map_map]
 rfl
theorem rowD_at {L : Nat} {g : Nat → D} {i : Nat} (h : i < L) {β : Type} (F : List D → Option β) : Zbw (rowD L g) (i : Int) F = F [g i] := by
 unfold Zbw
 rw [if_pos (by omega), Int.toNat_natCast]
 unfold ZaG rowD
 rw [List.getElem?_map, List.getElem?_range h]
 rfl
theorem deep_rowI {L : Nat} {o : Nat → Int} : Zb (rowD L (fun j => .int .i64 (o j))) = YaL L (cI o) := by
 have : ∀ l : List Nat, Zb (l.map fun j => [D.int .i64 (o j)]) = l.map fun j => [C.d (.int .i64 (o j))] := fun l => by
  induction l with
  | nil => rfl
  | cons x l ih => simp only [List.map_cons, Zb, ZZ, ZbW, ih]
 exact this _
def upN (l : List Nat) : LC := l.map fun (x : Nat) => [.d (.int .i64 (x : Int))]
def ofN (l : List Nat) : LD := l.map fun (x : Nat) => [.int .i64 (x : Int)]
theorem Ybd (l : List Nat) : (upN l).length = l.length := by simp [upN]
theorem ofN_len (l : List Nat) : (ofN l).length = l.length := by simp [ofN]
theorem upN_app (a b : List Nat) : upN a ++ upN b = upN (a ++ b) := by simp [upN]
theorem imm_upN (l : List Nat) : C.immRows (upN l) = ofN l := by
 rw [Ybk, upN, ofN, List.map_map]
 rfl
theorem upN_at {l : List Nat} {i : Nat} (h : i < l.length) {β : Type} (F : List C → Option β) : ZaG (upN l) i F = F [.d (.int .i64 (l[i] : Int))] := by simp [ZaG, upN, h]
theorem ofN_at {l : List Nat} {i : Nat} (h : i < l.length) {β : Type} (F : List D → Option β) : Zbw (ofN l) (i : Int) F = F [.int .i64 (l[i] : Int)] := by
 unfold Zbw
 rw [if_pos (by omega), Int.toNat_natCast]
 simp [ZaG, ofN, h]
theorem Yba (p : Nat → Bool) (i : Nat) : (List.range (i + 1)).filter p = (List.range i).filter p ++ (if p i then [i] else []) := by
 rw [List.range_succ, List.filter_append]
 simp [List.filter_cons]
theorem YQ.tm {ι α : Type} {ok : ι → Prop} {ψ : α → Prop} {p : ι → Nat} {B : Nat} (hp : ∀ i, ok i → B ≤ p i) {a0 a1 φ} (h : Tm (fun k => B ≤ k) (fun k => YQ.t k a0 a1) φ) {G : ι → Int → Option α} (hG : ∀ z0, φ z0 → Tm ok (fun i => G i z0) ψ) : Tm ok (fun i => YQ.f (p i) a0 a1 (G i)) ψ := ZK (t := fun k => YQ.t k a0 a1) hp h hG
def RS (B : Nat) (r : List D) : Prop := ∃ (c0 : BA), r = [.str c0] ∧ c0.size ≤ B ∧ True
theorem RS.open {B : Nat} {r : List D} (h : RS B r) : ∃ (c0 : BA), r = [.str c0] ∧ c0.size ≤ B ∧ True := h
theorem RS.mono {B B' : Nat} (hb : B ≤ B') {r : List D} (h : RS B r) : RS B' r := by
 obtain ⟨c0, rfl, k0, _⟩ := h
 exact ⟨_, rfl, (Nat.le_trans k0 hb), trivial⟩
theorem RS.wide {xs : LD} (h : Zi RS lim xs) : Zi RS 2097152 xs := ⟨Nat.le_trans h.1 (by decide), fun r hr => (h.2 r hr).mono (by decide)⟩
theorem RS.len {B : Nat} {r : List D} (h : RS B r) : r.length = 1 := by
 obtain ⟨c0, rfl, _⟩ := h.open
 rfl
theorem RS.flat {B : Nat} {xs : LD} (h : ∀ r ∈ xs, RS B r) : ZaZ 1 xs := fun r hr => by
 obtain ⟨c0, rfl, _⟩ := (h r hr).open
 exact ⟨rfl, by simp [Zau]⟩
theorem RS.wt {B : Nat} {xs : LD} (h : ∀ r ∈ xs, RS B r) : Zp xs = 1 * xs.length := wt_flat (R := RS B) (fun r h => by obtain ⟨c0, rfl, _⟩ := h; rfl) xs h
theorem RS.deep {B : Nat} {xs : LD} (h : ∀ r ∈ xs, RS B r) : Zb xs = xs.map (·.map C.d) := deep_flat (R := RS B) (fun r h => by obtain ⟨c0, rfl, _⟩ := h; rfl) xs h
theorem RS.gets {B : Nat} {xs : LD} (h : ∀ r ∈ xs, RS B r) {v : Int} (h0 : 0 ≤ v) (h1 : v < xs.length) : gR xs v = [.str (gS xs v 0)] ∧ (gS xs v 0).size ≤ B ∧ True := by
 obtain ⟨c0, e, k0, _⟩ := (h (gR xs v) (gR_mem h0 h1)).open
 unfold gS
 rw [e]
 exact ⟨rfl, k0, trivial⟩
theorem RS.rows {B : Nat} {xs : LD} (h : ∀ r ∈ xs, RS B r) {v : Int} (h0 : 0 ≤ v) (h1 : v < xs.length) {β : Type} (F : List D → Option β) : Zbw xs v F = F [.str (gS xs v 0)] := by
 rw [← (RS.gets h h0 h1).1]
 exact Zbp h0 h1 F
theorem RS.get {B : Nat} {xs : LD} (h : Zi RS B xs) {v : Int} (h0 : 0 ≤ v) (h1 : v < xs.length) : gR xs v = [.str (gS xs v 0)] ∧ (gS xs v 0).size ≤ B ∧ True := RS.gets h.2 h0 h1
theorem RS.row {B : Nat} {xs : LD} (h : Zi RS B xs) {v : Int} (h0 : 0 ≤ v) (h1 : v < xs.length) {β : Type} (F : List D → Option β) : Zbw xs v F = F [.str (gS xs v 0)] := RS.rows h.2 h0 h1 F
set_option maxRecDepth 100000 in
theorem YQ.T {a0 : LD} {a1 : Int} (h0 : 0 ≤ a1) (h1 : a1 ≤ 1048576) (ga0 : Zi RS maxLen a0) : Tm Z3 (fun k => YQ.t k a0 a1) (fun r => r < 0 ∨ 0 ≤ r ∧ r ≤ a1 ∧ Zi RS lim a0 ∧ ((Zp a0 : Nat) : Int) ≤ 64 * (a1 - r) ∧ True) := by
 unfold YQ.t YQ.g
 have hm := Zy
 have hlim : lim = 1048576 := rfl
 have hlen := ga0.1
 try rw [Zj (x := a1 - (a0.length : Int)) (by omega) (by omega)]
 refine Tm.ite (fun h1 => ?_) (fun h1 => ?_)
 ·try simp only [bz0, bz1, bz2, bz3, bz4, bz5, bz6, bz7, bz8, bz9, bza] at h1
  exact Tm.ret (by first | (left; omega) | (right; refine ⟨?_, ?_, ?_, ?_, trivial⟩ <;> first | assumption | omega))
 ·try simp only [bz0, bz1, bz2, bz3, bz4, bz5, bz6, bz7, bz8, bz9, bza] at h1
  refine Tm.loop (okk := Z3) (p := fun k => k) (fun i hi => hi) (b := fun k => YQ.l0 k a0 (fun z0 => some z0)) (fun v => match v with | (u0, i) => (((a0.length : Int)) - i).toNat) (fun v => match v with | (u0, i) => 0 ≤ u0 ∧ u0 ≤ a1 ∧ 0 ≤ i ∧ i ≤ (a0.length : Int) ∧ (∀ r ∈ a0.take i.toNat, RS lim r) ∧ ((Zp (a0.take i.toNat) : Nat) : Int) ≤ 64 * (a1 - a0.length - u0 + i)) ?_ ?_ ?_
  ·rintro ⟨u0, i⟩ hI
   try simp only [] at hI ⊢
   have : big = 2 ^ 64 := rfl
   have := ga0.1
   omega
  ·exact ⟨by omega, by omega, by omega, by simp, by simp, by simp [Zp]⟩
  ·rintro ⟨u0, i⟩ hI L hL
   try simp only [] at hI
   obtain ⟨u0a, u0b, i0, i1, hr, hwt⟩ := hI
   simp only [YQ.l0, atR, rdQ, Q.ask]
   refine Tm.ite (fun h2 => ?_) (fun h2 => ?_)
   ·try simp only [bz0, bz1, bz2, bz3, bz4, bz5, bz6, bz7, bz8, bz9, bza] at h2
    refine Tm.atRow (by first | assumption | omega) (by first | assumption | omega) (fun x3 hx4 hm5 => ?_)
    obtain ⟨c6, rfl, g7, _⟩ := (ga0.2 x3 hm5).open
    refine Tm.uncons ?_
    refine Tm.dStr ?_
    refine Tm.atEnd ?_
    try rw [Zj (x := u0 - (c6.size : Int)) (by omega) (by omega)]
    refine Tm.ite (fun h8 => ?_) (fun h8 => ?_)
    ·try simp only [bz0, bz1, bz2, bz3, bz4, bz5, bz6, bz7, bz8, bz9, bza] at h8
     exact Tm.ret (by first | (left; omega) | (rw [List.take_of_length_le (by omega)] at hwt; exact .inr ⟨by omega, by omega, ⟨by simp only [lim]; omega, ZcD (by omega) hr⟩, by omega, trivial⟩))
    ·try simp only [bz0, bz1, bz2, bz3, bz4, bz5, bz6, bz7, bz8, bz9, bza] at h8
     try rw [Zj (x := i + 1) (by omega) (by omega)]
     have hwx := wt_take i0 hx4
     simp only [ZbG, wtD] at hwx
     refine hL ((u0 - (c6.size : Int)), (i + 1)) ⟨by omega, by omega, by omega, by omega, take_rows i0 hx4 hr ⟨_, rfl, by first | assumption | omega, trivial⟩, by omega⟩ (by (try simp only []); omega)
   ·try simp only [bz0, bz1, bz2, bz3, bz4, bz5, bz6, bz7, bz8, bz9, bza] at h2
    exact Tm.ret (by first | (left; omega) | (rw [List.take_of_length_le (by omega)] at hwt; exact .inr ⟨by omega, by omega, ⟨by simp only [lim]; omega, ZcD (by omega) hr⟩, by omega, trivial⟩))
theorem Ya1.tm {ι α : Type} {ok : ι → Prop} {ψ : α → Prop} {p : ι → Nat} {B : Nat} (hp : ∀ i, ok i → B ≤ p i) {aC aD aF a1 φ} (h : Tm (fun k => B ≤ k) (fun k => Ya1.t k aC aD aF a1) φ) {G : ι → Int → Option α} (hG : ∀ z0, φ z0 → Tm ok (fun i => G i z0) ψ) : Tm ok (fun i => Ya1.f (p i) aC aD aF a1 (G i)) ψ := ZK (t := fun k => Ya1.t k aC aD aF a1) hp h hG
theorem Ya1.T {aC : Int} {aD : BA} {aF : LD} {a1 : Int} (h0 : 0 ≤ a1) (h1 : a1 ≤ 1048576) (ga0_1 : aD.size ≤ maxLen) (ga0_2 : Zi RS maxLen aF) : Tm Z3 (fun k => Ya1.t k aC aD aF a1) (fun r => r < 0 ∨ 0 ≤ r ∧ r ≤ a1 ∧ aD.size ≤ lim ∧ Zi RS lim aF ∧ ((Zp aF : Nat) : Int) ≤ 64 * (a1 - r) ∧ True) := by
 unfold Ya1.t Ya1.g
 have hm := Zy
 have hlim : lim = 1048576 := rfl
 try rw [Zj (x := a1 - (aD.size : Int)) (by omega) (by omega)]
 refine Tm.ite (fun h1 => ?_) (fun h1 => ?_)
 ·try simp only [bz0, bz1, bz2, bz3, bz4, bz5, bz6, bz7, bz8, bz9, bza] at h1
  exact Tm.ret (by first | (left; omega) | (right; refine ⟨?_, ?_, ?_, ?_, ?_, trivial⟩ <;> first | assumption | omega))
 ·try simp only [bz0, bz1, bz2, bz3, bz4, bz5, bz6, bz7, bz8, bz9, bza] at h1
  refine YQ.tm (fun i hi => hi) (YQ.T (by first | assumption | omega) (by first | assumption | omega) (by first | assumption | omega)) (fun y3 hy2 => ?_)
  rcases hy2 with hy2 | ⟨p6, p7, q4, q5, _⟩
  ·exact Tm.ite (fun _ => Tm.ret (by left; omega)) (fun h => by simp at h; omega)
  refine Tm.ite (fun h8 => ?_) (fun h8 => ?_)
  ·try simp only [bz0, bz1, bz2, bz3, bz4, bz5, bz6, bz7, bz8, bz9, bza] at h8
   exact Tm.ret (by first | (left; omega) | (right; refine ⟨?_, ?_, ?_, ?_, ?_, trivial⟩ <;> first | assumption | omega))
  ·try simp only [bz0, bz1, bz2, bz3, bz4, bz5, bz6, bz7, bz8, bz9, bza] at h8
   exact Tm.ret (by first | (left; omega) | (right; refine ⟨?_, ?_, ?_, ?_, ?_, trivial⟩ <;> first | assumption | omega))
theorem Yan.tm {ι α : Type} {ok : ι → Prop} {ψ : α → Prop} {p : ι → Nat} {B : Nat} (hp : ∀ i, ok i → B ≤ p i) {a0 a1 φ} (h : Tm (fun k => B ≤ k) (fun k => Yan.t k a0 a1) φ) {G : ι → Int → Option α} (hG : ∀ z0, φ z0 → Tm ok (fun i => G i z0) ψ) : Tm ok (fun i => Yan.f (p i) a0 a1 (G i)) ψ := ZK (t := fun k => Yan.t k a0 a1) hp h hG
def YaC (B : Nat) (r : List D) : Prop := ∃ (c0 : Int) (c1 : BA) (c2 : LD), r = [.int .i64 c0, .str c1, .sl c2] ∧ (Lit.int .i64 c0).wf = true ∧ c1.size ≤ B ∧ Zi RS B c2 ∧ True
theorem YaC.open {B : Nat} {r : List D} (h : YaC B r) : ∃ (c0 : Int) (c1 : BA) (c2 : LD), r = [.int .i64 c0, .str c1, .sl c2] ∧ (Lit.int .i64 c0).wf = true ∧ c1.size ≤ B ∧ Zi RS B c2 ∧ True := h
theorem YaC.mono {B B' : Nat} (hb : B ≤ B') {r : List D} (h : YaC B r) : YaC B' r := by
 obtain ⟨c0, c1, c2, rfl, k0, k1, k2, _⟩ := h
 exact ⟨_, _, _, rfl, k0, (Nat.le_trans k1 hb), ⟨Nat.le_trans k2.1 hb, fun r hr => (k2.2 r hr).mono hb⟩, trivial⟩
theorem YaC.wide {xs : LD} (h : Zi YaC lim xs) : Zi YaC 2097152 xs := ⟨Nat.le_trans h.1 (by decide), fun r hr => (h.2 r hr).mono (by decide)⟩
theorem YaC.len {B : Nat} {r : List D} (h : YaC B r) : r.length = 3 := by
 obtain ⟨c0, c1, c2, rfl, _⟩ := h.open
 rfl
theorem YaC.gets {B : Nat} {xs : LD} (h : ∀ r ∈ xs, YaC B r) {v : Int} (h0 : 0 ≤ v) (h1 : v < xs.length) : gR xs v = [.int .i64 (gI xs v 0), .str (gS xs v 1), .sl (gL xs v 2)] ∧ (Lit.int .i64 (gI xs v 0)).wf = true ∧ (gS xs v 1).size ≤ B ∧ Zi RS B (gL xs v 2) ∧ True := by
 obtain ⟨c0, c1, c2, e, k0, k1, k2, _⟩ := (h (gR xs v) (gR_mem h0 h1)).open
 unfold gI gL gS
 rw [e]
 exact ⟨rfl, k0, k1, k2, trivial⟩
theorem YaC.rows {B : Nat} {xs : LD} (h : ∀ r ∈ xs, YaC B r) {v : Int} (h0 : 0 ≤ v) (h1 : v < xs.length) {β : Type} (F : List D → Option β) : Zbw xs v F = F [.int .i64 (gI xs v 0), .str (gS xs v 1), .sl (gL xs v 2)] := by
 rw [← (YaC.gets h h0 h1).1]
 exact Zbp h0 h1 F
theorem YaC.get {B : Nat} {xs : LD} (h : Zi YaC B xs) {v : Int} (h0 : 0 ≤ v) (h1 : v < xs.length) : gR xs v = [.int .i64 (gI xs v 0), .str (gS xs v 1), .sl (gL xs v 2)] ∧ (Lit.int .i64 (gI xs v 0)).wf = true ∧ (gS xs v 1).size ≤ B ∧ Zi RS B (gL xs v 2) ∧ True := YaC.gets h.2 h0 h1
theorem YaC.row {B : Nat} {xs : LD} (h : Zi YaC B xs) {v : Int} (h0 : 0 ≤ v) (h1 : v < xs.length) {β : Type} (F : List D → Option β) : Zbw xs v F = F [.int .i64 (gI xs v 0), .str (gS xs v 1), .sl (gL xs v 2)] := YaC.rows h.2 h0 h1 F
set_option maxRecDepth 100000 in
theorem Yan.T {a0 : LD} {a1 : Int} (h0 : 0 ≤ a1) (h1 : a1 ≤ 1048576) (ga0 : Zi YaC maxLen a0) : Tm Z3 (fun k => Yan.t k a0 a1) (fun r => r < 0 ∨ 0 ≤ r ∧ r ≤ a1 ∧ Zi YaC lim a0 ∧ ((Zp a0 : Nat) : Int) ≤ 64 * (a1 - r) ∧ True) := by
 unfold Yan.t Yan.g
 have hm := Zy
 have hlim : lim = 1048576 := rfl
 have hlen := ga0.1
 try rw [Zj (x := a1 - (a0.length : Int)) (by omega) (by omega)]
 refine Tm.ite (fun h1 => ?_) (fun h1 => ?_)
 ·try simp only [bz0, bz1, bz2, bz3, bz4, bz5, bz6, bz7, bz8, bz9, bza] at h1
  exact Tm.ret (by first | (left; omega) | (right; refine ⟨?_, ?_, ?_, ?_, trivial⟩ <;> first | assumption | omega))
 ·try simp only [bz0, bz1, bz2, bz3, bz4, bz5, bz6, bz7, bz8, bz9, bza] at h1
  refine Tm.loop (okk := Z3) (p := fun k => k) (fun i hi => hi) (b := fun k => Yan.l0 k a0 (fun z0 => some z0)) (fun v => match v with | (u0, i) => (((a0.length : Int)) - i).toNat) (fun v => match v with | (u0, i) => 0 ≤ u0 ∧ u0 ≤ a1 ∧ 0 ≤ i ∧ i ≤ (a0.length : Int) ∧ (∀ r ∈ a0.take i.toNat, YaC lim r) ∧ ((Zp (a0.take i.toNat) : Nat) : Int) ≤ 64 * (a1 - a0.length - u0 + i)) ?_ ?_ ?_
  ·rintro ⟨u0, i⟩ hI
   try simp only [] at hI ⊢
   have : big = 2 ^ 64 := rfl
   have := ga0.1
   omega
  ·exact ⟨by omega, by omega, by omega, by simp, by simp, by simp [Zp]⟩
  ·rintro ⟨u0, i⟩ hI L hL
   try simp only [] at hI
   obtain ⟨u0a, u0b, i0, i1, hr, hwt⟩ := hI
   simp only [Yan.l0, atR, rdQ, Q.ask]
   refine Tm.ite (fun h2 => ?_) (fun h2 => ?_)
   ·try simp only [bz0, bz1, bz2, bz3, bz4, bz5, bz6, bz7, bz8, bz9, bza] at h2
    refine Tm.atRow (by first | assumption | omega) (by first | assumption | omega) (fun x3 hx4 hm5 => ?_)
    obtain ⟨c6, c7, c8, rfl, g9, g10, g11, _⟩ := (ga0.2 x3 hm5).open
    refine Tm.uncons ?_
    refine Tm.dInt ?_
    refine Tm.uncons ?_
    refine Tm.dStr ?_
    refine Tm.uncons ?_
    refine Tm.dSl ?_
    refine Tm.atEnd ?_
    refine Ya1.tm (fun i hi => hi.1) (Ya1.T (by first | assumption | omega) (by first | assumption | omega) (by first | assumption | omega) (by first | assumption | omega)) (fun y13 hy12 => ?_)
    rcases hy12 with hy12 | ⟨p17, p18, q14, q15, q16, _⟩
    ·exact Tm.ite (fun _ => Tm.ret (by left; omega)) (fun h => by simp at h; omega)
    refine Tm.ite (fun h19 => ?_) (fun h19 => ?_)
    ·try simp only [bz0, bz1, bz2, bz3, bz4, bz5, bz6, bz7, bz8, bz9, bza] at h19
     exact Tm.ret (by first | (left; omega) | (rw [List.take_of_length_le (by omega)] at hwt; exact .inr ⟨by omega, by omega, ⟨by simp only [lim]; omega, ZcD (by omega) hr⟩, by omega, trivial⟩))
    ·try simp only [bz0, bz1, bz2, bz3, bz4, bz5, bz6, bz7, bz8, bz9, bza] at h19
     try rw [Zj (x := i + 1) (by omega) (by omega)]
     have hwx := wt_take i0 hx4
     simp only [ZbG, wtD] at hwx
     refine hL (y13, (i + 1)) ⟨by omega, by omega, by omega, by omega, take_rows i0 hx4 hr ⟨_, _, _, rfl, by first | assumption | omega, by first | assumption | omega, by first | assumption | omega, trivial⟩, by omega⟩ (by (try simp only []); omega)
   ·try simp only [bz0, bz1, bz2, bz3, bz4, bz5, bz6, bz7, bz8, bz9, bza] at h2
    exact Tm.ret (by first | (left; omega) | (rw [List.take_of_length_le (by omega)] at hwt; exact .inr ⟨by omega, by omega, ⟨by simp only [lim]; omega, ZcD (by omega) hr⟩, by omega, trivial⟩))
theorem YaT.tm {ι α : Type} {ok : ι → Prop} {ψ : α → Prop} {p : ι → Nat} {B : Nat} (hp : ∀ i, ok i → B ≤ p i) {aC aD a1 φ} (h : Tm (fun k => B ≤ k) (fun k => YaT.t k aC aD a1) φ) {G : ι → Int → Option α} (hG : ∀ z0, φ z0 → Tm ok (fun i => G i z0) ψ) : Tm ok (fun i => YaT.f (p i) aC aD a1 (G i)) ψ := ZK (t := fun k => YaT.t k aC aD a1) hp h hG
theorem YaT.T {aC : BA} {aD a1 : Int} (h0 : 0 ≤ a1) (h1 : a1 ≤ 1048576) (ga0_0 : aC.size ≤ maxLen) : Tm Z3 (fun k => YaT.t k aC aD a1) (fun r => r < 0 ∨ 0 ≤ r ∧ r ≤ a1 ∧ aC.size ≤ lim ∧ True) := by
 unfold YaT.t YaT.g
 have hm := Zy
 have hlim : lim = 1048576 := rfl
 try rw [Zj (x := a1 - (aC.size : Int)) (by omega) (by omega)]
 refine Tm.ite (fun h1 => ?_) (fun h1 => ?_)
 ·try simp only [bz0, bz1, bz2, bz3, bz4, bz5, bz6, bz7, bz8, bz9, bza] at h1
  exact Tm.ret (by first | (left; omega) | (right; refine ⟨?_, ?_, ?_, trivial⟩ <;> first | assumption | omega))
 ·try simp only [bz0, bz1, bz2, bz3, bz4, bz5, bz6, bz7, bz8, bz9, bza] at h1
  exact Tm.ret (by first | (left; omega) | (right; refine ⟨?_, ?_, ?_, trivial⟩ <;> first | assumption | omega))
theorem Yae.tm {ι α : Type} {ok : ι → Prop} {ψ : α → Prop} {p : ι → Nat} {B : Nat} (hp : ∀ i, ok i → B ≤ p i) {a0 a1 φ} (h : Tm (fun k => B ≤ k) (fun k => Yae.t k a0 a1) φ) {G : ι → Int → Option α} (hG : ∀ z0, φ z0 → Tm ok (fun i => G i z0) ψ) : Tm ok (fun i => Yae.f (p i) a0 a1 (G i)) ψ := ZK (t := fun k => Yae.t k a0 a1) hp h hG
def RSI (B : Nat) (r : List D) : Prop := ∃ (c0 : BA) (c1 : Int), r = [.str c0, .int .i64 c1] ∧ c0.size ≤ B ∧ (Lit.int .i64 c1).wf = true ∧ True
theorem RSI.open {B : Nat} {r : List D} (h : RSI B r) : ∃ (c0 : BA) (c1 : Int), r = [.str c0, .int .i64 c1] ∧ c0.size ≤ B ∧ (Lit.int .i64 c1).wf = true ∧ True := h
theorem RSI.mono {B B' : Nat} (hb : B ≤ B') {r : List D} (h : RSI B r) : RSI B' r := by
 obtain ⟨c0, c1, rfl, k0, k1, _⟩ := h
 exact ⟨_, _, rfl, (Nat.le_trans k0 hb), k1, trivial⟩
theorem RSI.wide {xs : LD} (h : Zi RSI lim xs) : Zi RSI 2097152 xs := ⟨Nat.le_trans h.1 (by decide), fun r hr => (h.2 r hr).mono (by decide)⟩
theorem RSI.len {B : Nat} {r : List D} (h : RSI B r) : r.length = 2 := by
 obtain ⟨c0, c1, rfl, _⟩ := h.open
 rfl
theorem RSI.flat {B : Nat} {xs : LD} (h : ∀ r ∈ xs, RSI B r) : ZaZ 2 xs := fun r hr => by
 obtain ⟨c0, c1, rfl, _⟩ := (h r hr).open
 exact ⟨rfl, by simp [Zau]⟩
theorem RSI.wt {B : Nat} {xs : LD} (h : ∀ r ∈ xs, RSI B r) : Zp xs = 2 * xs.length := wt_flat (R := RSI B) (fun r h => by obtain ⟨c0, c1, rfl, _⟩ := h; rfl) xs h
theorem RSI.deep {B : Nat} {xs : LD} (h : ∀ r ∈ xs, RSI B r) : Zb xs = xs.map (·.map C.d) := deep_flat (R := RSI B) (fun r h => by obtain ⟨c0, c1, rfl, _⟩ := h; rfl) xs h
theorem RSI.gets {B : Nat} {xs : LD} (h : ∀ r ∈ xs, RSI B r) {v : Int} (h0 : 0 ≤ v) (h1 : v < xs.length) : gR xs v = [.str (gS xs v 0), .int .i64 (gI xs v 1)] ∧ (gS xs v 0).size ≤ B ∧ (Lit.int .i64 (gI xs v 1)).wf = true ∧ True := by
 obtain ⟨c0, c1, e, k0, k1, _⟩ := (h (gR xs v) (gR_mem h0 h1)).open
 unfold gI gS
 rw [e]
 exact ⟨rfl, k0, k1, trivial⟩
theorem RSI.rows {B : Nat} {xs : LD} (h : ∀ r ∈ xs, RSI B r) {v : Int} (h0 : 0 ≤ v) (h1 : v < xs.length) {β : Type} (F : List D → Option β) : Zbw xs v F = F [.str (gS xs v 0), .int .i64 (gI xs v 1)] := by
 rw [← (RSI.gets h h0 h1).1]
 exact Zbp h0 h1 F
theorem RSI.get {B : Nat} {xs : LD} (h : Zi RSI B xs) {v : Int} (h0 : 0 ≤ v) (h1 : v < xs.length) : gR xs v = [.str (gS xs v 0), .int .i64 (gI xs v 1)] ∧ (gS xs v 0).size ≤ B ∧ (Lit.int .i64 (gI xs v 1)).wf = true ∧ True := RSI.gets h.2 h0 h1
theorem RSI.row {B : Nat} {xs : LD} (h : Zi RSI B xs) {v : Int} (h0 : 0 ≤ v) (h1 : v < xs.length) {β : Type} (F : List D → Option β) : Zbw xs v F = F [.str (gS xs v 0), .int .i64 (gI xs v 1)] := RSI.rows h.2 h0 h1 F
set_option maxRecDepth 100000 in
theorem Yae.T {a0 : LD} {a1 : Int} (h0 : 0 ≤ a1) (h1 : a1 ≤ 1048576) (ga0 : Zi RSI maxLen a0) : Tm Z3 (fun k => Yae.t k a0 a1) (fun r => r < 0 ∨ 0 ≤ r ∧ r ≤ a1 ∧ Zi RSI lim a0 ∧ ((Zp a0 : Nat) : Int) ≤ 64 * (a1 - r) ∧ True) := by
 unfold Yae.t Yae.g
 have hm := Zy
 have hlim : lim = 1048576 := rfl
 have hlen := ga0.1
 try rw [Zj (x := a1 - (a0.length : Int)) (by omega) (by omega)]
 refine Tm.ite (fun h1 => ?_) (fun h1 => ?_)
 ·try simp only [bz0, bz1, bz2, bz3, bz4, bz5, bz6, bz7, bz8, bz9, bza] at h1
  exact Tm.ret (by first | (left; omega) | (right; refine ⟨?_, ?_, ?_, ?_, trivial⟩ <;> first | assumption | omega))
 ·try simp only [bz0, bz1, bz2, bz3, bz4, bz5, bz6, bz7, bz8, bz9, bza] at h1
  refine Tm.loop (okk := Z3) (p := fun k => k) (fun i hi => hi) (b := fun k => Yae.l0 k a0 (fun z0 => some z0)) (fun v => match v with | (u0, i) => (((a0.length : Int)) - i).toNat) (fun v => match v with | (u0, i) => 0 ≤ u0 ∧ u0 ≤ a1 ∧ 0 ≤ i ∧ i ≤ (a0.length : Int) ∧ (∀ r ∈ a0.take i.toNat, RSI lim r) ∧ ((Zp (a0.take i.toNat) : Nat) : Int) ≤ 64 * (a1 - a0.length - u0 + i)) ?_ ?_ ?_
  ·rintro ⟨u0, i⟩ hI
   try simp only [] at hI ⊢
   have : big = 2 ^ 64 := rfl
   have := ga0.1
   omega
  ·exact ⟨by omega, by omega, by omega, by simp, by simp, by simp [Zp]⟩
  ·rintro ⟨u0, i⟩ hI L hL
   try simp only [] at hI
   obtain ⟨u0a, u0b, i0, i1, hr, hwt⟩ := hI
   simp only [Yae.l0, atR, rdQ, Q.ask]
   refine Tm.ite (fun h2 => ?_) (fun h2 => ?_)
   ·try simp only [bz0, bz1, bz2, bz3, bz4, bz5, bz6, bz7, bz8, bz9, bza] at h2
    refine Tm.atRow (by first | assumption | omega) (by first | assumption | omega) (fun x3 hx4 hm5 => ?_)
    obtain ⟨c6, c7, rfl, g8, g9, _⟩ := (ga0.2 x3 hm5).open
    refine Tm.uncons ?_
    refine Tm.dStr ?_
    refine Tm.uncons ?_
    refine Tm.dInt ?_
    refine Tm.atEnd ?_
    refine YaT.tm (fun i hi => hi.1) (YaT.T (by first | assumption | omega) (by first | assumption | omega) (by first | assumption | omega)) (fun y11 hy10 => ?_)
    rcases hy10 with hy10 | ⟨p13, p14, q12, _⟩
    ·exact Tm.ite (fun _ => Tm.ret (by left; omega)) (fun h => by simp at h; omega)
    refine Tm.ite (fun h15 => ?_) (fun h15 => ?_)
    ·try simp only [bz0, bz1, bz2, bz3, bz4, bz5, bz6, bz7, bz8, bz9, bza] at h15
     exact Tm.ret (by first | (left; omega) | (rw [List.take_of_length_le (by omega)] at hwt; exact .inr ⟨by omega, by omega, ⟨by simp only [lim]; omega, ZcD (by omega) hr⟩, by omega, trivial⟩))
    ·try simp only [bz0, bz1, bz2, bz3, bz4, bz5, bz6, bz7, bz8, bz9, bza] at h15
     try rw [Zj (x := i + 1) (by omega) (by omega)]
     have hwx := wt_take i0 hx4
     simp only [ZbG, wtD] at hwx
     refine hL (y11, (i + 1)) ⟨by omega, by omega, by omega, by omega, take_rows i0 hx4 hr ⟨_, _, rfl, by first | assumption | omega, by first | assumption | omega, trivial⟩, by omega⟩ (by (try simp only []); omega)
   ·try simp only [bz0, bz1, bz2, bz3, bz4, bz5, bz6, bz7, bz8, bz9, bza] at h2
    exact Tm.ret (by first | (left; omega) | (rw [List.take_of_length_le (by omega)] at hwt; exact .inr ⟨by omega, by omega, ⟨by simp only [lim]; omega, ZcD (by omega) hr⟩, by omega, trivial⟩))
theorem Ya0.tm {ι α : Type} {ok : ι → Prop} {ψ : α → Prop} {p : ι → Nat} {B : Nat} (hp : ∀ i, ok i → B ≤ p i) {aC aD aF aG a1 φ} (h : Tm (fun k => B ≤ k) (fun k => Ya0.t k aC aD aF aG a1) φ) {G : ι → Int → Option α} (hG : ∀ z0, φ z0 → Tm ok (fun i => G i z0) ψ) : Tm ok (fun i => Ya0.f (p i) aC aD aF aG a1 (G i)) ψ := ZK (t := fun k => Ya0.t k aC aD aF aG a1) hp h hG
theorem Ya0.T {aC : Int} {aD aF aG : LD} {a1 : Int} (h0 : 0 ≤ a1) (h1 : a1 ≤ 1048576) (ga0_1 : Zi YaC maxLen aD) (ga0_2 : Zi RS maxLen aF) (ga0_3 : Zi RSI maxLen aG) : Tm Z3 (fun k => Ya0.t k aC aD aF aG a1) (fun r => r < 0 ∨ 0 ≤ r ∧ r ≤ a1 ∧ Zi YaC lim aD ∧ Zi RS lim aF ∧ Zi RSI lim aG ∧ ((Zp aD + Zp aF + Zp aG : Nat) : Int) ≤ 64 * (a1 - r) ∧ True) := by
 unfold Ya0.t Ya0.g
 have hm := Zy
 have hlim : lim = 1048576 := rfl
 refine Yan.tm (fun i hi => hi) (Yan.T (by first | assumption | omega) (by first | assumption | omega) (by first | assumption | omega)) (fun y2 hy1 => ?_)
 rcases hy1 with hy1 | ⟨p5, p6, q3, q4, _⟩
 ·exact Tm.ite (fun _ => Tm.ret (by left; omega)) (fun h => by simp at h; omega)
 refine Tm.ite (fun h7 => ?_) (fun h7 => ?_)
 ·try simp only [bz0, bz1, bz2, bz3, bz4, bz5, bz6, bz7, bz8, bz9, bza] at h7
  exact Tm.ret (by first | (left; omega) | (right; refine ⟨?_, ?_, ?_, ?_, ?_, ?_, trivial⟩ <;> first | assumption | omega))
 ·try simp only [bz0, bz1, bz2, bz3, bz4, bz5, bz6, bz7, bz8, bz9, bza] at h7
  refine YQ.tm (fun i hi => hi) (YQ.T (by first | assumption | omega) (by first | assumption | omega) (by first | assumption | omega)) (fun y9 hy8 => ?_)
  rcases hy8 with hy8 | ⟨p12, p13, q10, q11, _⟩
  ·exact Tm.ite (fun _ => Tm.ret (by left; omega)) (fun h => by simp at h; omega)
  refine Tm.ite (fun h14 => ?_) (fun h14 => ?_)
  ·try simp only [bz0, bz1, bz2, bz3, bz4, bz5, bz6, bz7, bz8, bz9, bza] at h14
   exact Tm.ret (by first | (left; omega) | (right; refine ⟨?_, ?_, ?_, ?_, ?_, ?_, trivial⟩ <;> first | assumption | omega))
  ·try simp only [bz0, bz1, bz2, bz3, bz4, bz5, bz6, bz7, bz8, bz9, bza] at h14
   refine Yae.tm (fun i hi => hi) (Yae.T (by first | assumption | omega) (by first | assumption | omega) (by first | assumption | omega)) (fun y16 hy15 => ?_)
   rcases hy15 with hy15 | ⟨p19, p20, q17, q18, _⟩
   ·exact Tm.ite (fun _ => Tm.ret (by left; omega)) (fun h => by simp at h; omega)
   refine Tm.ite (fun h21 => ?_) (fun h21 => ?_)
   ·try simp only [bz0, bz1, bz2, bz3, bz4, bz5, bz6, bz7, bz8, bz9, bza] at h21
    exact Tm.ret (by first | (left; omega) | (right; refine ⟨?_, ?_, ?_, ?_, ?_, ?_, trivial⟩ <;> first | assumption | omega))
   ·try simp only [bz0, bz1, bz2, bz3, bz4, bz5, bz6, bz7, bz8, bz9, bza] at h21
    exact Tm.ret (by first | (left; omega) | (right; refine ⟨?_, ?_, ?_, ?_, ?_, ?_, trivial⟩ <;> first | assumption | omega))
theorem Yam.tm {ι α : Type} {ok : ι → Prop} {ψ : α → Prop} {p : ι → Nat} {B : Nat} (hp : ∀ i, ok i → B ≤ p i) {a0 a1 φ} (h : Tm (fun k => B ≤ k) (fun k => Yam.t k a0 a1) φ) {G : ι → Int → Option α} (hG : ∀ z0, φ z0 → Tm ok (fun i => G i z0) ψ) : Tm ok (fun i => Yam.f (p i) a0 a1 (G i)) ψ := ZK (t := fun k => Yam.t k a0 a1) hp h hG
def YV (B : Nat) (r : List D) : Prop := ∃ (c0 : Int) (c1 : LD) (c2 : LD) (c3 : LD), r = [.int .i64 c0, .sl c1, .sl c2, .sl c3] ∧ (Lit.int .i64 c0).wf = true ∧ Zi YaC B c1 ∧ Zi RS B c2 ∧ Zi RSI B c3 ∧ True
theorem YV.open {B : Nat} {r : List D} (h : YV B r) : ∃ (c0 : Int) (c1 : LD) (c2 : LD) (c3 : LD), r = [.int .i64 c0, .sl c1, .sl c2, .sl c3] ∧ (Lit.int .i64 c0).wf = true ∧ Zi YaC B c1 ∧ Zi RS B c2 ∧ Zi RSI B c3 ∧ True := h
theorem YV.mono {B B' : Nat} (hb : B ≤ B') {r : List D} (h : YV B r) : YV B' r := by
 obtain ⟨c0, c1, c2, c3, rfl, k0, k1, k2, k3, _⟩ := h
 exact ⟨_, _, _, _, rfl, k0, ⟨Nat.le_trans k1.1 hb, fun r hr => (k1.2 r hr).mono hb⟩, ⟨Nat.le_trans k2.1 hb, fun r hr => (k2.2 r hr).mono hb⟩, ⟨Nat.le_trans k3.1 hb, fun r hr => (k3.2 r hr).mono hb⟩, trivial⟩
theorem YV.wide {xs : LD} (h : Zi YV lim xs) : Zi YV 2097152 xs := ⟨Nat.le_trans h.1 (by decide), fun r hr => (h.2 r hr).mono (by decide)⟩
theorem YV.len {B : Nat} {r : List D} (h : YV B r) : r.length = 4 := by
 obtain ⟨c0, c1, c2, c3, rfl, _⟩ := h.open
 rfl
theorem YV.gets {B : Nat} {xs : LD} (h : ∀ r ∈ xs, YV B r) {v : Int} (h0 : 0 ≤ v) (h1 : v < xs.length) : gR xs v = [.int .i64 (gI xs v 0), .sl (gL xs v 1), .sl (gL xs v 2), .sl (gL xs v 3)] ∧ (Lit.int .i64 (gI xs v 0)).wf = true ∧ Zi YaC B (gL xs v 1) ∧ Zi RS B (gL xs v 2) ∧ Zi RSI B (gL xs v 3) ∧ True := by
 obtain ⟨c0, c1, c2, c3, e, k0, k1, k2, k3, _⟩ := (h (gR xs v) (gR_mem h0 h1)).open
 unfold gI gL
 rw [e]
 exact ⟨rfl, k0, k1, k2, k3, trivial⟩
theorem YV.rows {B : Nat} {xs : LD} (h : ∀ r ∈ xs, YV B r) {v : Int} (h0 : 0 ≤ v) (h1 : v < xs.length) {β : Type} (F : List D → Option β) : Zbw xs v F = F [.int .i64 (gI xs v 0), .sl (gL xs v 1), .sl (gL xs v 2), .sl (gL xs v 3)] := by
 rw [← (YV.gets h h0 h1).1]
 exact Zbp h0 h1 F
theorem YV.get {B : Nat} {xs : LD} (h : Zi YV B xs) {v : Int} (h0 : 0 ≤ v) (h1 : v < xs.length) : gR xs v = [.int .i64 (gI xs v 0), .sl (gL xs v 1), .sl (gL xs v 2), .sl (gL xs v 3)] ∧ (Lit.int .i64 (gI xs v 0)).wf = true ∧ Zi YaC B (gL xs v 1) ∧ Zi RS B (gL xs v 2) ∧ Zi RSI B (gL xs v 3) ∧ True := YV.gets h.2 h0 h1
theorem YV.row {B : Nat} {xs : LD} (h : Zi YV B xs) {v : Int} (h0 : 0 ≤ v) (h1 : v < xs.length) {β : Type} (F : List D → Option β) : Zbw xs v F = F [.int .i64 (gI xs v 0), .sl (gL xs v 1), .sl (gL xs v 2), .sl (gL xs v 3)] := YV.rows h.2 h0 h1 F
set_option maxRecDepth 100000 in
theorem Yam.T {a0 : LD} {a1 : Int} (h0 : 0 ≤ a1) (h1 : a1 ≤ 1048576) (ga0 : Zi YV maxLen a0) : Tm Z3 (fun k => Yam.t k a0 a1) (fun r => r < 0 ∨ 0 ≤ r ∧ r ≤ a1 ∧ Zi YV lim a0 ∧ ((Zp a0 : Nat) : Int) ≤ 64 * (a1 - r) ∧ True) := by
 unfold Yam.t Yam.g
 have hm := Zy
 have hlim : lim = 1048576 := rfl
 have hlen := ga0.1
 try rw [Zj (x := a1 - (a0.length : Int)) (by omega) (by omega)]
 refine Tm.ite (fun h1 => ?_) (fun h1 => ?_)
 ·try simp only [bz0, bz1, bz2, bz3, bz4, bz5, bz6, bz7, bz8, bz9, bza] at h1
  exact Tm.ret (by first | (left; omega) | (right; refine ⟨?_, ?_, ?_, ?_, trivial⟩ <;> first | assumption | omega))
 ·try simp only [bz0, bz1, bz2, bz3, bz4, bz5, bz6, bz7, bz8, bz9, bza] at h1
  refine Tm.loop (okk := Z3) (p := fun k => k) (fun i hi => hi) (b := fun k => Yam.l0 k a0 (fun z0 => some z0)) (fun v => match v with | (u0, i) => (((a0.length : Int)) - i).toNat) (fun v => match v with | (u0, i) => 0 ≤ u0 ∧ u0 ≤ a1 ∧ 0 ≤ i ∧ i ≤ (a0.length : Int) ∧ (∀ r ∈ a0.take i.toNat, YV lim r) ∧ ((Zp (a0.take i.toNat) : Nat) : Int) ≤ 64 * (a1 - a0.length - u0 + i)) ?_ ?_ ?_
  ·rintro ⟨u0, i⟩ hI
   try simp only [] at hI ⊢
   have : big = 2 ^ 64 := rfl
   have := ga0.1
   omega
  ·exact ⟨by omega, by omega, by omega, by simp, by simp, by simp [Zp]⟩
  ·rintro ⟨u0, i⟩ hI L hL
   try simp only [] at hI
   obtain ⟨u0a, u0b, i0, i1, hr, hwt⟩ := hI
   simp only [Yam.l0, atR, rdQ, Q.ask]
   refine Tm.ite (fun h2 => ?_) (fun h2 => ?_)
   ·try simp only [bz0, bz1, bz2, bz3, bz4, bz5, bz6, bz7, bz8, bz9, bza] at h2
    refine Tm.atRow (by first | assumption | omega) (by first | assumption | omega) (fun x3 hx4 hm5 => ?_)
    obtain ⟨c6, c7, c8, c9, rfl, g10, g11, g12, g13, _⟩ := (ga0.2 x3 hm5).open
    refine Tm.uncons ?_
    refine Tm.dInt ?_
    refine Tm.uncons ?_
    refine Tm.dSl ?_
    refine Tm.uncons ?_
    refine Tm.dSl ?_
    refine Tm.uncons ?_
    refine Tm.dSl ?_
    refine Tm.atEnd ?_
    refine Ya0.tm (fun i hi => hi.1) (Ya0.T (by first | assumption | omega) (by first | assumption | omega) (by first | assumption | omega) (by first | assumption | omega) (by first | assumption | omega)) (fun y15 hy14 => ?_)
    rcases hy14 with hy14 | ⟨p20, p21, q16, q17, q18, q19, _⟩
    ·exact Tm.ite (fun _ => Tm.ret (by left; omega)) (fun h => by simp at h; omega)
    refine Tm.ite (fun h22 => ?_) (fun h22 => ?_)
    ·try simp only [bz0, bz1, bz2, bz3, bz4, bz5, bz6, bz7, bz8, bz9, bza] at h22
     exact Tm.ret (by first | (left; omega) | (rw [List.take_of_length_le (by omega)] at hwt; exact .inr ⟨by omega, by omega, ⟨by simp only [lim]; omega, ZcD (by omega) hr⟩, by omega, trivial⟩))
    ·try simp only [bz0, bz1, bz2, bz3, bz4, bz5, bz6, bz7, bz8, bz9, bza] at h22
     try rw [Zj (x := i + 1) (by omega) (by omega)]
     have hwx := wt_take i0 hx4
     simp only [ZbG, wtD] at hwx
     refine hL (y15, (i + 1)) ⟨by omega, by omega, by omega, by omega, take_rows i0 hx4 hr ⟨_, _, _, _, rfl, by first | assumption | omega, by first | assumption | omega, by first | assumption | omega, by first | assumption | omega, trivial⟩, by omega⟩ (by (try simp only []); omega)
   ·try simp only [bz0, bz1, bz2, bz3, bz4, bz5, bz6, bz7, bz8, bz9, bza] at h2
    exact Tm.ret (by first | (left; omega) | (rw [List.take_of_length_le (by omega)] at hwt; exact .inr ⟨by omega, by omega, ⟨by simp only [lim]; omega, ZcD (by omega) hr⟩, by omega, trivial⟩))
theorem YaU.tm {ι α : Type} {ok : ι → Prop} {ψ : α → Prop} {p : ι → Nat} {B : Nat} (hp : ∀ i, ok i → B ≤ p i) {aC aD a1 φ} (h : Tm (fun k => B ≤ k) (fun k => YaU.t k aC aD a1) φ) {G : ι → Int → Option α} (hG : ∀ z0, φ z0 → Tm ok (fun i => G i z0) ψ) : Tm ok (fun i => YaU.f (p i) aC aD a1 (G i)) ψ := ZK (t := fun k => YaU.t k aC aD a1) hp h hG
theorem YaU.T {aC aD : BA} {a1 : Int} (h0 : 0 ≤ a1) (h1 : a1 ≤ 1048576) (ga0_0 : aC.size ≤ maxLen) (ga0_1 : aD.size ≤ maxLen) : Tm Z3 (fun k => YaU.t k aC aD a1) (fun r => r < 0 ∨ 0 ≤ r ∧ r ≤ a1 ∧ aC.size ≤ lim ∧ aD.size ≤ lim ∧ True) := by
 unfold YaU.t YaU.g
 have hm := Zy
 have hlim : lim = 1048576 := rfl
 try rw [Zj (x := a1 - (aC.size : Int)) (by omega) (by omega)]
 refine Tm.ite (fun h1 => ?_) (fun h1 => ?_)
 ·try simp only [bz0, bz1, bz2, bz3, bz4, bz5, bz6, bz7, bz8, bz9, bza] at h1
  exact Tm.ret (by first | (left; omega) | (right; refine ⟨?_, ?_, ?_, ?_, trivial⟩ <;> first | assumption | omega))
 ·try simp only [bz0, bz1, bz2, bz3, bz4, bz5, bz6, bz7, bz8, bz9, bza] at h1
  try rw [Zj (x := ((a1 - (aC.size : Int))) - (aD.size : Int)) (by omega) (by omega)]
  refine Tm.ite (fun h2 => ?_) (fun h2 => ?_)
  ·try simp only [bz0, bz1, bz2, bz3, bz4, bz5, bz6, bz7, bz8, bz9, bza] at h2
   exact Tm.ret (by first | (left; omega) | (right; refine ⟨?_, ?_, ?_, ?_, trivial⟩ <;> first | assumption | omega))
  ·try simp only [bz0, bz1, bz2, bz3, bz4, bz5, bz6, bz7, bz8, bz9, bza] at h2
   exact Tm.ret (by first | (left; omega) | (right; refine ⟨?_, ?_, ?_, ?_, trivial⟩ <;> first | assumption | omega))
theorem Yaf.tm {ι α : Type} {ok : ι → Prop} {ψ : α → Prop} {p : ι → Nat} {B : Nat} (hp : ∀ i, ok i → B ≤ p i) {a0 a1 φ} (h : Tm (fun k => B ≤ k) (fun k => Yaf.t k a0 a1) φ) {G : ι → Int → Option α} (hG : ∀ z0, φ z0 → Tm ok (fun i => G i z0) ψ) : Tm ok (fun i => Yaf.f (p i) a0 a1 (G i)) ψ := ZK (t := fun k => Yaf.t k a0 a1) hp h hG
def RSS (B : Nat) (r : List D) : Prop := ∃ (c0 : BA) (c1 : BA), r = [.str c0, .str c1] ∧ c0.size ≤ B ∧ c1.size ≤ B ∧ True
theorem RSS.open {B : Nat} {r : List D} (h : RSS B r) : ∃ (c0 : BA) (c1 : BA), r = [.str c0, .str c1] ∧ c0.size ≤ B ∧ c1.size ≤ B ∧ True := h
theorem RSS.mono {B B' : Nat} (hb : B ≤ B') {r : List D} (h : RSS B r) : RSS B' r := by
 obtain ⟨c0, c1, rfl, k0, k1, _⟩ := h
 exact ⟨_, _, rfl, (Nat.le_trans k0 hb), (Nat.le_trans k1 hb), trivial⟩
theorem RSS.wide {xs : LD} (h : Zi RSS lim xs) : Zi RSS 2097152 xs := ⟨Nat.le_trans h.1 (by decide), fun r hr => (h.2 r hr).mono (by decide)⟩
theorem RSS.len {B : Nat} {r : List D} (h : RSS B r) : r.length = 2 := by
 obtain ⟨c0, c1, rfl, _⟩ := h.open
 rfl
theorem RSS.flat {B : Nat} {xs : LD} (h : ∀ r ∈ xs, RSS B r) : ZaZ 2 xs := fun r hr => by
 obtain ⟨c0, c1, rfl, _⟩ := (h r hr).open
 exact ⟨rfl, by simp [Zau]⟩
theorem RSS.wt {B : Nat} {xs : LD} (h : ∀ r ∈ xs, RSS B r) : Zp xs = 2 * xs.length := wt_flat (R := RSS B) (fun r h => by obtain ⟨c0, c1, rfl, _⟩ := h; rfl) xs h
theorem RSS.deep {B : Nat} {xs : LD} (h : ∀ r ∈ xs, RSS B r) : Zb xs = xs.map (·.map C.d) := deep_flat (R := RSS B) (fun r h => by obtain ⟨c0, c1, rfl, _⟩ := h; rfl) xs h
theorem RSS.gets {B : Nat} {xs : LD} (h : ∀ r ∈ xs, RSS B r) {v : Int} (h0 : 0 ≤ v) (h1 : v < xs.length) : gR xs v = [.str (gS xs v 0), .str (gS xs v 1)] ∧ (gS xs v 0).size ≤ B ∧ (gS xs v 1).size ≤ B ∧ True := by
 obtain ⟨c0, c1, e, k0, k1, _⟩ := (h (gR xs v) (gR_mem h0 h1)).open
 unfold gS
 rw [e]
 exact ⟨rfl, k0, k1, trivial⟩
theorem RSS.rows {B : Nat} {xs : LD} (h : ∀ r ∈ xs, RSS B r) {v : Int} (h0 : 0 ≤ v) (h1 : v < xs.length) {β : Type} (F : List D → Option β) : Zbw xs v F = F [.str (gS xs v 0), .str (gS xs v 1)] := by
 rw [← (RSS.gets h h0 h1).1]
 exact Zbp h0 h1 F
theorem RSS.get {B : Nat} {xs : LD} (h : Zi RSS B xs) {v : Int} (h0 : 0 ≤ v) (h1 : v < xs.length) : gR xs v = [.str (gS xs v 0), .str (gS xs v 1)] ∧ (gS xs v 0).size ≤ B ∧ (gS xs v 1).size ≤ B ∧ True := RSS.gets h.2 h0 h1
theorem RSS.row {B : Nat} {xs : LD} (h : Zi RSS B xs) {v : Int} (h0 : 0 ≤ v) (h1 : v < xs.length) {β : Type} (F : List D → Option β) : Zbw xs v F = F [.str (gS xs v 0), .str (gS xs v 1)] := RSS.rows h.2 h0 h1 F
set_option maxRecDepth 100000 in
theorem Yaf.T {a0 : LD} {a1 : Int} (h0 : 0 ≤ a1) (h1 : a1 ≤ 1048576) (ga0 : Zi RSS maxLen a0) : Tm Z3 (fun k => Yaf.t k a0 a1) (fun r => r < 0 ∨ 0 ≤ r ∧ r ≤ a1 ∧ Zi RSS lim a0 ∧ ((Zp a0 : Nat) : Int) ≤ 64 * (a1 - r) ∧ True) := by
 unfold Yaf.t Yaf.g
 have hm := Zy
 have hlim : lim = 1048576 := rfl
 have hlen := ga0.1
 try rw [Zj (x := a1 - (a0.length : Int)) (by omega) (by omega)]
 refine Tm.ite (fun h1 => ?_) (fun h1 => ?_)
 ·try simp only [bz0, bz1, bz2, bz3, bz4, bz5, bz6, bz7, bz8, bz9, bza] at h1
  exact Tm.ret (by first | (left; omega) | (right; refine ⟨?_, ?_, ?_, ?_, trivial⟩ <;> first | assumption | omega))
 ·try simp only [bz0, bz1, bz2, bz3, bz4, bz5, bz6, bz7, bz8, bz9, bza] at h1
  refine Tm.loop (okk := Z3) (p := fun k => k) (fun i hi => hi) (b := fun k => Yaf.l0 k a0 (fun z0 => some z0)) (fun v => match v with | (u0, i) => (((a0.length : Int)) - i).toNat) (fun v => match v with | (u0, i) => 0 ≤ u0 ∧ u0 ≤ a1 ∧ 0 ≤ i ∧ i ≤ (a0.length : Int) ∧ (∀ r ∈ a0.take i.toNat, RSS lim r) ∧ ((Zp (a0.take i.toNat) : Nat) : Int) ≤ 64 * (a1 - a0.length - u0 + i)) ?_ ?_ ?_
  ·rintro ⟨u0, i⟩ hI
   try simp only [] at hI ⊢
   have : big = 2 ^ 64 := rfl
   have := ga0.1
   omega
  ·exact ⟨by omega, by omega, by omega, by simp, by simp, by simp [Zp]⟩
  ·rintro ⟨u0, i⟩ hI L hL
   try simp only [] at hI
   obtain ⟨u0a, u0b, i0, i1, hr, hwt⟩ := hI
   simp only [Yaf.l0, atR, rdQ, Q.ask]
   refine Tm.ite (fun h2 => ?_) (fun h2 => ?_)
   ·try simp only [bz0, bz1, bz2, bz3, bz4, bz5, bz6, bz7, bz8, bz9, bza] at h2
    refine Tm.atRow (by first | assumption | omega) (by first | assumption | omega) (fun x3 hx4 hm5 => ?_)
    obtain ⟨c6, c7, rfl, g8, g9, _⟩ := (ga0.2 x3 hm5).open
    refine Tm.uncons ?_
    refine Tm.dStr ?_
    refine Tm.uncons ?_
    refine Tm.dStr ?_
    refine Tm.atEnd ?_
    refine YaU.tm (fun i hi => hi.1) (YaU.T (by first | assumption | omega) (by first | assumption | omega) (by first | assumption | omega) (by first | assumption | omega)) (fun y11 hy10 => ?_)
    rcases hy10 with hy10 | ⟨p14, p15, q12, q13, _⟩
    ·exact Tm.ite (fun _ => Tm.ret (by left; omega)) (fun h => by simp at h; omega)
    refine Tm.ite (fun h16 => ?_) (fun h16 => ?_)
    ·try simp only [bz0, bz1, bz2, bz3, bz4, bz5, bz6, bz7, bz8, bz9, bza] at h16
     exact Tm.ret (by first | (left; omega) | (rw [List.take_of_length_le (by omega)] at hwt; exact .inr ⟨by omega, by omega, ⟨by simp only [lim]; omega, ZcD (by omega) hr⟩, by omega, trivial⟩))
    ·try simp only [bz0, bz1, bz2, bz3, bz4, bz5, bz6, bz7, bz8, bz9, bza] at h16
     try rw [Zj (x := i + 1) (by omega) (by omega)]
     have hwx := wt_take i0 hx4
     simp only [ZbG, wtD] at hwx
     refine hL (y11, (i + 1)) ⟨by omega, by omega, by omega, by omega, take_rows i0 hx4 hr ⟨_, _, rfl, by first | assumption | omega, by first | assumption | omega, trivial⟩, by omega⟩ (by (try simp only []); omega)
   ·try simp only [bz0, bz1, bz2, bz3, bz4, bz5, bz6, bz7, bz8, bz9, bza] at h2
    exact Tm.ret (by first | (left; omega) | (rw [List.take_of_length_le (by omega)] at hwt; exact .inr ⟨by omega, by omega, ⟨by simp only [lim]; omega, ZcD (by omega) hr⟩, by omega, trivial⟩))
theorem YaN.tm {ι α : Type} {ok : ι → Prop} {ψ : α → Prop} {p : ι → Nat} {B : Nat} (hp : ∀ i, ok i → B ≤ p i) {aC aD aF aG a1 φ} (h : Tm (fun k => B ≤ k) (fun k => YaN.t k aC aD aF aG a1) φ) {G : ι → Int → Option α} (hG : ∀ z0, φ z0 → Tm ok (fun i => G i z0) ψ) : Tm ok (fun i => YaN.f (p i) aC aD aF aG a1 (G i)) ψ := ZK (t := fun k => YaN.t k aC aD aF aG a1) hp h hG
theorem YaN.T {aC : BA} {aD aF : LD} {aG a1 : Int} (h0 : 0 ≤ a1) (h1 : a1 ≤ 1048576) (ga0_0 : aC.size ≤ maxLen) (ga0_1 : Zi RSS maxLen aD) (ga0_2 : Zi RS maxLen aF) : Tm Z3 (fun k => YaN.t k aC aD aF aG a1) (fun r => r < 0 ∨ 0 ≤ r ∧ r ≤ a1 ∧ aC.size ≤ lim ∧ Zi RSS lim aD ∧ Zi RS lim aF ∧ ((Zp aD + Zp aF : Nat) : Int) ≤ 64 * (a1 - r) ∧ True) := by
 unfold YaN.t YaN.g
 have hm := Zy
 have hlim : lim = 1048576 := rfl
 try rw [Zj (x := a1 - (aC.size : Int)) (by omega) (by omega)]
 refine Tm.ite (fun h1 => ?_) (fun h1 => ?_)
 ·try simp only [bz0, bz1, bz2, bz3, bz4, bz5, bz6, bz7, bz8, bz9, bza] at h1
  exact Tm.ret (by first | (left; omega) | (right; refine ⟨?_, ?_, ?_, ?_, ?_, ?_, trivial⟩ <;> first | assumption | omega))
 ·try simp only [bz0, bz1, bz2, bz3, bz4, bz5, bz6, bz7, bz8, bz9, bza] at h1
  refine Yaf.tm (fun i hi => hi) (Yaf.T (by first | assumption | omega) (by first | assumption | omega) (by first | assumption | omega)) (fun y3 hy2 => ?_)
  rcases hy2 with hy2 | ⟨p6, p7, q4, q5, _⟩
  ·exact Tm.ite (fun _ => Tm.ret (by left; omega)) (fun h => by simp at h; omega)
  refine Tm.ite (fun h8 => ?_) (fun h8 => ?_)
  ·try simp only [bz0, bz1, bz2, bz3, bz4, bz5, bz6, bz7, bz8, bz9, bza] at h8
   exact Tm.ret (by first | (left; omega) | (right; refine ⟨?_, ?_, ?_, ?_, ?_, ?_, trivial⟩ <;> first | assumption | omega))
  ·try simp only [bz0, bz1, bz2, bz3, bz4, bz5, bz6, bz7, bz8, bz9, bza] at h8
   refine YQ.tm (fun i hi => hi) (YQ.T (by first | assumption | omega) (by first | assumption | omega) (by first | assumption | omega)) (fun y10 hy9 => ?_)
   rcases hy9 with hy9 | ⟨p13, p14, q11, q12, _⟩
   ·exact Tm.ite (fun _ => Tm.ret (by left; omega)) (fun h => by simp at h; omega)
   refine Tm.ite (fun h15 => ?_) (fun h15 => ?_)
   ·try simp only [bz0, bz1, bz2, bz3, bz4, bz5, bz6, bz7, bz8, bz9, bza] at h15
    exact Tm.ret (by first | (left; omega) | (right; refine ⟨?_, ?_, ?_, ?_, ?_, ?_, trivial⟩ <;> first | assumption | omega))
   ·try simp only [bz0, bz1, bz2, bz3, bz4, bz5, bz6, bz7, bz8, bz9, bza] at h15
    exact Tm.ret (by first | (left; omega) | (right; refine ⟨?_, ?_, ?_, ?_, ?_, ?_, trivial⟩ <;> first | assumption | omega))
theorem Y4.tm {ι α : Type} {ok : ι → Prop} {ψ : α → Prop} {p : ι → Nat} {B : Nat} (hp : ∀ i, ok i → B ≤ p i) {a0 a1 φ} (h : Tm (fun k => B ≤ k) (fun k => Y4.t k a0 a1) φ) {G : ι → Int → Option α} (hG : ∀ z0, φ z0 → Tm ok (fun i => G i z0) ψ) : Tm ok (fun i => Y4.f (p i) a0 a1 (G i)) ψ := ZK (t := fun k => Y4.t k a0 a1) hp h hG
def Yar (B : Nat) (r : List D) : Prop := ∃ (c0 : BA) (c1 : LD) (c2 : LD) (c3 : Int), r = [.str c0, .sl c1, .sl c2, .int .i64 c3] ∧ c0.size ≤ B ∧ Zi RSS B c1 ∧ Zi RS B c2 ∧ (Lit.int .i64 c3).wf = true ∧ True
theorem Yar.open {B : Nat} {r : List D} (h : Yar B r) : ∃ (c0 : BA) (c1 : LD) (c2 : LD) (c3 : Int), r = [.str c0, .sl c1, .sl c2, .int .i64 c3] ∧ c0.size ≤ B ∧ Zi RSS B c1 ∧ Zi RS B c2 ∧ (Lit.int .i64 c3).wf = true ∧ True := h
theorem Yar.mono {B B' : Nat} (hb : B ≤ B') {r : List D} (h : Yar B r) : Yar B' r := by
 obtain ⟨c0, c1, c2, c3, rfl, k0, k1, k2, k3, _⟩ := h
 exact ⟨_, _, _, _, rfl, (Nat.le_trans k0 hb), ⟨Nat.le_trans k1.1 hb, fun r hr => (k1.2 r hr).mono hb⟩, ⟨Nat.le_trans k2.1 hb, fun r hr => (k2.2 r hr).mono hb⟩, k3, trivial⟩
theorem Yar.wide {xs : LD} (h : Zi Yar lim xs) : Zi Yar 2097152 xs := ⟨Nat.le_trans h.1 (by decide), fun r hr => (h.2 r hr).mono (by decide)⟩
theorem Yar.len {B : Nat} {r : List D} (h : Yar B r) : r.length = 4 := by
 obtain ⟨c0, c1, c2, c3, rfl, _⟩ := h.open
 rfl
theorem Yar.gets {B : Nat} {xs : LD} (h : ∀ r ∈ xs, Yar B r) {v : Int} (h0 : 0 ≤ v) (h1 : v < xs.length) : gR xs v = [.str (gS xs v 0), .sl (gL xs v 1), .sl (gL xs v 2), .int .i64 (gI xs v 3)] ∧ (gS xs v 0).size ≤ B ∧ Zi RSS B (gL xs v 1) ∧ Zi RS B (gL xs v 2) ∧ (Lit.int .i64 (gI xs v 3)).wf = true ∧ True := by
 obtain ⟨c0, c1, c2, c3, e, k0, k1, k2, k3, _⟩ := (h (gR xs v) (gR_mem h0 h1)).open
 unfold gI gL gS
 rw [e]
 exact ⟨rfl, k0, k1, k2, k3, trivial⟩
theorem Yar.rows {B : Nat} {xs : LD} (h : ∀ r ∈ xs, Yar B r) {v : Int} (h0 : 0 ≤ v) (h1 : v < xs.length) {β : Type} (F : List D → Option β) : Zbw xs v F = F [.str (gS xs v 0), .sl (gL xs v 1), .sl (gL xs v 2), .int .i64 (gI xs v 3)] := by
 rw [← (Yar.gets h h0 h1).1]
 exact Zbp h0 h1 F
theorem Yar.get {B : Nat} {xs : LD} (h : Zi Yar B xs) {v : Int} (h0 : 0 ≤ v) (h1 : v < xs.length) : gR xs v = [.str (gS xs v 0), .sl (gL xs v 1), .sl (gL xs v 2), .int .i64 (gI xs v 3)] ∧ (gS xs v 0).size ≤ B ∧ Zi RSS B (gL xs v 1) ∧ Zi RS B (gL xs v 2) ∧ (Lit.int .i64 (gI xs v 3)).wf = true ∧ True := Yar.gets h.2 h0 h1
theorem Yar.row {B : Nat} {xs : LD} (h : Zi Yar B xs) {v : Int} (h0 : 0 ≤ v) (h1 : v < xs.length) {β : Type} (F : List D → Option β) : Zbw xs v F = F [.str (gS xs v 0), .sl (gL xs v 1), .sl (gL xs v 2), .int .i64 (gI xs v 3)] := Yar.rows h.2 h0 h1 F
set_option maxRecDepth 100000 in
theorem Y4.T {a0 : LD} {a1 : Int} (h0 : 0 ≤ a1) (h1 : a1 ≤ 1048576) (ga0 : Zi Yar maxLen a0) : Tm Z3 (fun k => Y4.t k a0 a1) (fun r => r < 0 ∨ 0 ≤ r ∧ r ≤ a1 ∧ Zi Yar lim a0 ∧ ((Zp a0 : Nat) : Int) ≤ 64 * (a1 - r) ∧ True) := by
 unfold Y4.t Y4.g
 have hm := Zy
 have hlim : lim = 1048576 := rfl
 have hlen := ga0.1
 try rw [Zj (x := a1 - (a0.length : Int)) (by omega) (by omega)]
 refine Tm.ite (fun h1 => ?_) (fun h1 => ?_)
 ·try simp only [bz0, bz1, bz2, bz3, bz4, bz5, bz6, bz7, bz8, bz9, bza] at h1
  exact Tm.ret (by first | (left; omega) | (right; refine ⟨?_, ?_, ?_, ?_, trivial⟩ <;> first | assumption | omega))
 ·try simp only [bz0, bz1, bz2, bz3, bz4, bz5, bz6, bz7, bz8, bz9, bza] at h1
  refine Tm.loop (okk := Z3) (p := fun k => k) (fun i hi => hi) (b := fun k => Y4.l0 k a0 (fun z0 => some z0)) (fun v => match v with | (u0, i) => (((a0.length : Int)) - i).toNat) (fun v => match v with | (u0, i) => 0 ≤ u0 ∧ u0 ≤ a1 ∧ 0 ≤ i ∧ i ≤ (a0.length : Int) ∧ (∀ r ∈ a0.take i.toNat, Yar lim r) ∧ ((Zp (a0.take i.toNat) : Nat) : Int) ≤ 64 * (a1 - a0.length - u0 + i)) ?_ ?_ ?_
  ·rintro ⟨u0, i⟩ hI
   try simp only [] at hI ⊢
   have : big = 2 ^ 64 := rfl
   have := ga0.1
   omega
  ·exact ⟨by omega, by omega, by omega, by simp, by simp, by simp [Zp]⟩
  ·rintro ⟨u0, i⟩ hI L hL
   try simp only [] at hI
   obtain ⟨u0a, u0b, i0, i1, hr, hwt⟩ := hI
   simp only [Y4.l0, atR, rdQ, Q.ask]
   refine Tm.ite (fun h2 => ?_) (fun h2 => ?_)
   ·try simp only [bz0, bz1, bz2, bz3, bz4, bz5, bz6, bz7, bz8, bz9, bza] at h2
    refine Tm.atRow (by first | assumption | omega) (by first | assumption | omega) (fun x3 hx4 hm5 => ?_)
    obtain ⟨c6, c7, c8, c9, rfl, g10, g11, g12, g13, _⟩ := (ga0.2 x3 hm5).open
    refine Tm.uncons ?_
    refine Tm.dStr ?_
    refine Tm.uncons ?_
    refine Tm.dSl ?_
    refine Tm.uncons ?_
    refine Tm.dSl ?_
    refine Tm.uncons ?_
    refine Tm.dInt ?_
    refine Tm.atEnd ?_
    refine YaN.tm (fun i hi => hi.1) (YaN.T (by first | assumption | omega) (by first | assumption | omega) (by first | assumption | omega) (by first | assumption | omega) (by first | assumption | omega)) (fun y15 hy14 => ?_)
    rcases hy14 with hy14 | ⟨p20, p21, q16, q17, q18, q19, _⟩
    ·exact Tm.ite (fun _ => Tm.ret (by left; omega)) (fun h => by simp at h; omega)
    refine Tm.ite (fun h22 => ?_) (fun h22 => ?_)
    ·try simp only [bz0, bz1, bz2, bz3, bz4, bz5, bz6, bz7, bz8, bz9, bza] at h22
     exact Tm.ret (by first | (left; omega) | (rw [List.take_of_length_le (by omega)] at hwt; exact .inr ⟨by omega, by omega, ⟨by simp only [lim]; omega, ZcD (by omega) hr⟩, by omega, trivial⟩))
    ·try simp only [bz0, bz1, bz2, bz3, bz4, bz5, bz6, bz7, bz8, bz9, bza] at h22
     try rw [Zj (x := i + 1) (by omega) (by omega)]
     have hwx := wt_take i0 hx4
     simp only [ZbG, wtD] at hwx
     refine hL (y15, (i + 1)) ⟨by omega, by omega, by omega, by omega, take_rows i0 hx4 hr ⟨_, _, _, _, rfl, by first | assumption | omega, by first | assumption | omega, by first | assumption | omega, by first | assumption | omega, trivial⟩, by omega⟩ (by (try simp only []); omega)
   ·try simp only [bz0, bz1, bz2, bz3, bz4, bz5, bz6, bz7, bz8, bz9, bza] at h2
    exact Tm.ret (by first | (left; omega) | (rw [List.take_of_length_le (by omega)] at hwt; exact .inr ⟨by omega, by omega, ⟨by simp only [lim]; omega, ZcD (by omega) hr⟩, by omega, trivial⟩))
theorem YP.tm {ι α : Type} {ok : ι → Prop} {ψ : α → Prop} {p : ι → Nat} {B : Nat} (hp : ∀ i, ok i → B ≤ p i) {a0 φ} (h : Tm (fun k => B ≤ k) (fun k => YP.t k a0) φ) {G : ι → LC → Option α} (hG : ∀ z0, φ z0 → Tm ok (fun i => G i z0) ψ) : Tm ok (fun i => YP.f (p i) a0 (G i)) ψ := ZK (t := fun k => YP.t k a0) hp h hG
set_option maxRecDepth 100000 in
theorem YP.T {a0 : LD} (ga0 : Zi RS lim a0) : Tm Z3 (fun k => YP.t k a0) (fun z => z = Zb a0 ∧ True) := by
 unfold YP.t YP.g
 have hm := Zy
 have hlim : lim = 1048576 := rfl
 have hlen := ga0.1
 refine Tm.guard (by first | omega | (simp only [lim, Zy, ZN] at *; omega) | (simp only [lim, ZN] at *; refine ⟨?_, ?_, ?_, ?_⟩ <;> omega)) ?_
 refine Tm.loop (okk := Z3) (p := fun k => k) (fun i hi => hi) (b := fun k => YP.l0 k a0 (fun z0 => some z0)) (fun v => match v with | (i, u1) => (((a0.length : Int)) - i).toNat) (fun v => match v with | (i, u1) => 0 ≤ i ∧ i ≤ (a0.length : Int) ∧ Zbq a0 ([.d (.str (⟨#[]⟩ : BA))] : List C) i u1) ?_ ?_ ?_
 ·rintro ⟨i, u1⟩ hI
  try simp only [] at hI ⊢
  have : big = 2 ^ 64 := rfl
  have := ga0.1
  simp only [lim] at this
  omega
 ·exact ⟨by omega, by simp, Zbq.start _ _⟩
 ·rintro ⟨i, u1⟩ hI L hL
  try simp only [] at hI
  obtain ⟨i0, i1, hF⟩ := hI
  have hFl := hF.len i1
  simp only [YP.l0, atR, rdQ, Q.ask]
  refine Tm.ite (fun h1 => ?_) (fun h1 => ?_)
  ·try simp only [bz0, bz1, bz2, bz3, bz4, bz5, bz6, bz7, bz8, bz9, bza] at h1
   refine Tm.atRow (by first | assumption | omega) (by first | assumption | omega) (fun x2 hx3 hm4 => ?_)
   obtain ⟨c5, rfl, g6, _⟩ := (ga0.2 x2 hm4).open
   refine Tm.uncons ?_
   refine Tm.dStr ?_
   refine Tm.atEnd ?_
   refine Tm.guard (by first | omega | (simp only [lim, Zy, ZN] at *; omega) | (simp only [lim, ZN] at *; refine ⟨?_, ?_, ?_, ?_⟩ <;> omega)) ?_
   refine Tm.guard (by first | omega | (simp only [lim, Zy, ZN] at *; omega) | (simp only [lim, ZN] at *; refine ⟨?_, ?_, ?_, ?_⟩ <;> omega)) ?_
   try rw [Zj (x := i + 1) (by omega) (by omega)]
   refine hL (_, _) ⟨by omega, by omega, hF.next i0 hx3 rfl (by simp [ZZ, ZbW])⟩ (by (try simp only []); omega)
  ·try simp only [bz0, bz1, bz2, bz3, bz4, bz5, bz6, bz7, bz8, bz9, bza] at h1
   exact Tm.ret (by exact ⟨hF.all (by omega), trivial⟩)
theorem YaZ.tm {ι α : Type} {ok : ι → Prop} {ψ : α → Prop} {p : ι → Nat} {B : Nat} (hp : ∀ i, ok i → B ≤ p i) {aC aD aF φ} (h : Tm (fun k => B ≤ k) (fun k => YaZ.t k aC aD aF) φ) {G : ι → Int → BA → LC → Option α} (hG : ∀ z0 z1 z2, φ (z0, z1, z2) → Tm ok (fun i => G i z0 z1 z2) ψ) : Tm ok (fun i => YaZ.f (p i) aC aD aF (G i)) ψ := bd3_tm (t := fun k => YaZ.t k aC aD aF) hp h hG
theorem YaZ.T {aC : Int} {aD : BA} {aF : LD} (ga0_1 : aD.size ≤ lim) (ga0_2 : Zi RS lim aF) : Tm Z3 (fun k => YaZ.t k aC aD aF) (fun z => z.1 = aC ∧ z.2.1 = aD ∧ z.2.2 = Zb aF ∧ True) := by
 unfold YaZ.t YaZ.g
 have hm := Zy
 have hlim : lim = 1048576 := rfl
 refine YP.tm (fun i hi => hi) (YP.T (by first | assumption | omega)) (fun y2 hy1 => ?_)
 try simp only [] at hy1
 obtain ⟨rfl, _⟩ := hy1
 try simp only [ZO]
 exact Tm.ret (by exact ⟨by first | rfl | assumption, by first | rfl | assumption, by first | rfl | assumption, trivial⟩)
theorem Yak.tm {ι α : Type} {ok : ι → Prop} {ψ : α → Prop} {p : ι → Nat} {B : Nat} (hp : ∀ i, ok i → B ≤ p i) {a0 φ} (h : Tm (fun k => B ≤ k) (fun k => Yak.t k a0) φ) {G : ι → LC → Option α} (hG : ∀ z0, φ z0 → Tm ok (fun i => G i z0) ψ) : Tm ok (fun i => Yak.f (p i) a0 (G i)) ψ := ZK (t := fun k => Yak.t k a0) hp h hG
set_option maxRecDepth 100000 in
theorem Yak.T {a0 : LD} (ga0 : Zi YaC lim a0) : Tm Z3 (fun k => Yak.t k a0) (fun z => z = Zb a0 ∧ True) := by
 unfold Yak.t Yak.g Yak.m
 have hm := Zy
 have hlim : lim = 1048576 := rfl
 have hlen := ga0.1
 refine Tm.guard (by first | omega | (simp only [lim, Zy, ZN] at *; omega) | (simp only [lim, ZN] at *; refine ⟨?_, ?_, ?_, ?_⟩ <;> omega)) ?_
 refine Tm.loop (okk := Z3) (p := fun k => k) (fun i hi => hi) (b := fun k => Yak.l0 k a0 (fun z0 => some z0)) (fun v => match v with | (i, u1) => (((a0.length : Int)) - i).toNat) (fun v => match v with | (i, u1) => 0 ≤ i ∧ i ≤ (a0.length : Int) ∧ Zbq a0 ([.d (.int .i64 0), .d (.str (⟨#[]⟩ : BA)), .own ([] : LC)] : List C) i u1) ?_ ?_ ?_
 ·rintro ⟨i, u1⟩ hI
  try simp only [] at hI ⊢
  have : big = 2 ^ 64 := rfl
  have := ga0.1
  simp only [lim] at this
  omega
 ·exact ⟨by omega, by simp, Zbq.start _ _⟩
 ·rintro ⟨i, u1⟩ hI L hL
  try simp only [] at hI
  obtain ⟨i0, i1, hF⟩ := hI
  have hFl := hF.len i1
  simp only [Yak.l0, atR, rdQ, Q.ask]
  refine Tm.ite (fun h1 => ?_) (fun h1 => ?_)
  ·try simp only [bz0, bz1, bz2, bz3, bz4, bz5, bz6, bz7, bz8, bz9, bza] at h1
   refine Tm.atRow (by first | assumption | omega) (by first | assumption | omega) (fun x2 hx3 hm4 => ?_)
   obtain ⟨c5, c6, c7, rfl, g8, g9, g10, _⟩ := (ga0.2 x2 hm4).open
   refine Tm.uncons ?_
   refine Tm.dInt ?_
   refine Tm.uncons ?_
   refine Tm.dStr ?_
   refine Tm.uncons ?_
   refine Tm.dSl ?_
   refine Tm.atEnd ?_
   refine YaZ.tm (fun i hi => hi.1) (YaZ.T (by first | assumption | omega) (by first | assumption | omega)) (fun y12 y13 y14 hy11 => ?_)
   try simp only [] at hy11
   obtain ⟨rfl, rfl, rfl, _⟩ := hy11
   try simp only [ZO]
   refine Tm.guard (by first | omega | (simp only [lim, Zy, ZN] at *; omega) | (simp only [lim, ZN] at *; refine ⟨?_, ?_, ?_, ?_⟩ <;> omega)) ?_
   refine Tm.guard (by first | omega | (simp only [lim, Zy, ZN] at *; omega) | (simp only [lim, ZN] at *; refine ⟨?_, ?_, ?_, ?_⟩ <;> omega)) ?_
   try rw [Zj (x := i + 1) (by omega) (by omega)]
   refine hL (_, _) ⟨by omega, by omega, hF.next i0 hx3 rfl (by simp [ZZ, ZbW])⟩ (by (try simp only []); omega)
  ·try simp only [bz0, bz1, bz2, bz3, bz4, bz5, bz6, bz7, bz8, bz9, bza] at h1
   exact Tm.ret (by exact ⟨hF.all (by omega), trivial⟩)
theorem YaR.tm {ι α : Type} {ok : ι → Prop} {ψ : α → Prop} {p : ι → Nat} {B : Nat} (hp : ∀ i, ok i → B ≤ p i) {aC aD φ} (h : Tm (fun k => B ≤ k) (fun k => YaR.t k aC aD) φ) {G : ι → BA → Int → Option α} (hG : ∀ z0 z1, φ (z0, z1) → Tm ok (fun i => G i z0 z1) ψ) : Tm ok (fun i => YaR.f (p i) aC aD (G i)) ψ := bd2_tm (t := fun k => YaR.t k aC aD) hp h hG
theorem YaR.T {aC : BA} {aD : Int} (ga0_0 : aC.size ≤ lim) : Tm Z3 (fun k => YaR.t k aC aD) (fun z => z.1 = aC ∧ z.2 = aD ∧ True) := by
 unfold YaR.t YaR.g
 have hm := Zy
 have hlim : lim = 1048576 := rfl
 exact Tm.ret (by exact ⟨by first | rfl | assumption, by first | rfl | assumption, trivial⟩)
theorem Y6.tm {ι α : Type} {ok : ι → Prop} {ψ : α → Prop} {p : ι → Nat} {B : Nat} (hp : ∀ i, ok i → B ≤ p i) {a0 φ} (h : Tm (fun k => B ≤ k) (fun k => Y6.t k a0) φ) {G : ι → LC → Option α} (hG : ∀ z0, φ z0 → Tm ok (fun i => G i z0) ψ) : Tm ok (fun i => Y6.f (p i) a0 (G i)) ψ := ZK (t := fun k => Y6.t k a0) hp h hG
set_option maxRecDepth 100000 in
theorem Y6.T {a0 : LD} (ga0 : Zi RSI lim a0) : Tm Z3 (fun k => Y6.t k a0) (fun z => z = Zb a0 ∧ True) := by
 unfold Y6.t Y6.g Y6.m
 have hm := Zy
 have hlim : lim = 1048576 := rfl
 have hlen := ga0.1
 refine Tm.guard (by first | omega | (simp only [lim, Zy, ZN] at *; omega) | (simp only [lim, ZN] at *; refine ⟨?_, ?_, ?_, ?_⟩ <;> omega)) ?_
 refine Tm.loop (okk := Z3) (p := fun k => k) (fun i hi => hi) (b := fun k => Y6.l0 k a0 (fun z0 => some z0)) (fun v => match v with | (i, u1) => (((a0.length : Int)) - i).toNat) (fun v => match v with | (i, u1) => 0 ≤ i ∧ i ≤ (a0.length : Int) ∧ Zbq a0 ([.d (.str (⟨#[]⟩ : BA)), .d (.int .i64 0)] : List C) i u1) ?_ ?_ ?_
 ·rintro ⟨i, u1⟩ hI
  try simp only [] at hI ⊢
  have : big = 2 ^ 64 := rfl
  have := ga0.1
  simp only [lim] at this
  omega
 ·exact ⟨by omega, by simp, Zbq.start _ _⟩
 ·rintro ⟨i, u1⟩ hI L hL
  try simp only [] at hI
  obtain ⟨i0, i1, hF⟩ := hI
  have hFl := hF.len i1
  simp only [Y6.l0, atR, rdQ, Q.ask]
  refine Tm.ite (fun h1 => ?_) (fun h1 => ?_)
  ·try simp only [bz0, bz1, bz2, bz3, bz4, bz5, bz6, bz7, bz8, bz9, bza] at h1
   refine Tm.atRow (by first | assumption | omega) (by first | assumption | omega) (fun x2 hx3 hm4 => ?_)
   obtain ⟨c5, c6, rfl, g7, g8, _⟩ := (ga0.2 x2 hm4).open
   refine Tm.uncons ?_
   refine Tm.dStr ?_
   refine Tm.uncons ?_
   refine Tm.dInt ?_
   refine Tm.atEnd ?_
   refine YaR.tm (fun i hi => hi.1) (YaR.T (by first | assumption | omega)) (fun y10 y11 hy9 => ?_)
   try simp only [] at hy9
   obtain ⟨rfl, rfl, _⟩ := hy9
   try simp only [ZO]
   refine Tm.guard (by first | omega | (simp only [lim, Zy, ZN] at *; omega) | (simp only [lim, ZN] at *; refine ⟨?_, ?_, ?_, ?_⟩ <;> omega)) ?_
   refine Tm.guard (by first | omega | (simp only [lim, Zy, ZN] at *; omega) | (simp only [lim, ZN] at *; refine ⟨?_, ?_, ?_, ?_⟩ <;> omega)) ?_
   try rw [Zj (x := i + 1) (by omega) (by omega)]
   refine hL (_, _) ⟨by omega, by omega, hF.next i0 hx3 rfl (by simp [ZZ, ZbW])⟩ (by (try simp only []); omega)
  ·try simp only [bz0, bz1, bz2, bz3, bz4, bz5, bz6, bz7, bz8, bz9, bza] at h1
   exact Tm.ret (by exact ⟨hF.all (by omega), trivial⟩)
theorem YaY.tm {ι α : Type} {ok : ι → Prop} {ψ : α → Prop} {p : ι → Nat} {B : Nat} (hp : ∀ i, ok i → B ≤ p i) {aC aD aF aG φ} (h : Tm (fun k => B ≤ k) (fun k => YaY.t k aC aD aF aG) φ) {G : ι → Int → LC → LC → LC → Option α} (hG : ∀ z0 z1 z2 z3, φ (z0, z1, z2, z3) → Tm ok (fun i => G i z0 z1 z2 z3) ψ) : Tm ok (fun i => YaY.f (p i) aC aD aF aG (G i)) ψ := bd4_tm (t := fun k => YaY.t k aC aD aF aG) hp h hG
theorem YaY.T {aC : Int} {aD aF aG : LD} (ga0_1 : Zi YaC lim aD) (ga0_2 : Zi RS lim aF) (ga0_3 : Zi RSI lim aG) : Tm Z3 (fun k => YaY.t k aC aD aF aG) (fun z => z.1 = aC ∧ z.2.1 = Zb aD ∧ z.2.2.1 = Zb aF ∧ z.2.2.2 = Zb aG ∧ True) := by
 unfold YaY.t YaY.g
 have hm := Zy
 have hlim : lim = 1048576 := rfl
 refine Yak.tm (fun i hi => hi) (Yak.T (by first | assumption | omega)) (fun y2 hy1 => ?_)
 try simp only [] at hy1
 obtain ⟨rfl, _⟩ := hy1
 try simp only [ZO]
 refine YP.tm (fun i hi => hi) (YP.T (by first | assumption | omega)) (fun y4 hy3 => ?_)
 try simp only [] at hy3
 obtain ⟨rfl, _⟩ := hy3
 try simp only [ZO]
 refine Y6.tm (fun i hi => hi) (Y6.T (by first | assumption | omega)) (fun y6 hy5 => ?_)
 try simp only [] at hy5
 obtain ⟨rfl, _⟩ := hy5
 try simp only [ZO]
 exact Tm.ret (by exact ⟨by first | rfl | assumption, by first | rfl | assumption, by first | rfl | assumption, by first | rfl | assumption, trivial⟩)
theorem YY.tm {ι α : Type} {ok : ι → Prop} {ψ : α → Prop} {p : ι → Nat} {B : Nat} (hp : ∀ i, ok i → B ≤ p i) {a0 φ} (h : Tm (fun k => B ≤ k) (fun k => YY.t k a0) φ) {G : ι → LC → Option α} (hG : ∀ z0, φ z0 → Tm ok (fun i => G i z0) ψ) : Tm ok (fun i => YY.f (p i) a0 (G i)) ψ := ZK (t := fun k => YY.t k a0) hp h hG
set_option maxRecDepth 100000 in
theorem YY.T {a0 : LD} (ga0 : Zi YV lim a0) : Tm Z3 (fun k => YY.t k a0) (fun z => z = Zb a0 ∧ True) := by
 unfold YY.t YY.g YY.m
 have hm := Zy
 have hlim : lim = 1048576 := rfl
 have hlen := ga0.1
 refine Tm.guard (by first | omega | (simp only [lim, Zy, ZN] at *; omega) | (simp only [lim, ZN] at *; refine ⟨?_, ?_, ?_, ?_⟩ <;> omega)) ?_
 refine Tm.loop (okk := Z3) (p := fun k => k) (fun i hi => hi) (b := fun k => YY.l0 k a0 (fun z0 => some z0)) (fun v => match v with | (i, u1) => (((a0.length : Int)) - i).toNat) (fun v => match v with | (i, u1) => 0 ≤ i ∧ i ≤ (a0.length : Int) ∧ Zbq a0 ([.d (.int .i64 0), .own ([] : LC), .own ([] : LC), .own ([] : LC)] : List C) i u1) ?_ ?_ ?_
 ·rintro ⟨i, u1⟩ hI
  try simp only [] at hI ⊢
  have : big = 2 ^ 64 := rfl
  have := ga0.1
  simp only [lim] at this
  omega
 ·exact ⟨by omega, by simp, Zbq.start _ _⟩
 ·rintro ⟨i, u1⟩ hI L hL
  try simp only [] at hI
  obtain ⟨i0, i1, hF⟩ := hI
  have hFl := hF.len i1
  simp only [YY.l0, atR, rdQ, Q.ask]
  refine Tm.ite (fun h1 => ?_) (fun h1 => ?_)
  ·try simp only [bz0, bz1, bz2, bz3, bz4, bz5, bz6, bz7, bz8, bz9, bza] at h1
   refine Tm.atRow (by first | assumption | omega) (by first | assumption | omega) (fun x2 hx3 hm4 => ?_)
   obtain ⟨c5, c6, c7, c8, rfl, g9, g10, g11, g12, _⟩ := (ga0.2 x2 hm4).open
   refine Tm.uncons ?_
   refine Tm.dInt ?_
   refine Tm.uncons ?_
   refine Tm.dSl ?_
   refine Tm.uncons ?_
   refine Tm.dSl ?_
   refine Tm.uncons ?_
   refine Tm.dSl ?_
   refine Tm.atEnd ?_
   refine YaY.tm (fun i hi => hi.1) (YaY.T (by first | assumption | omega) (by first | assumption | omega) (by first | assumption | omega)) (fun y14 y15 y16 y17 hy13 => ?_)
   try simp only [] at hy13
   obtain ⟨rfl, rfl, rfl, rfl, _⟩ := hy13
   try simp only [ZO]
   refine Tm.guard (by first | omega | (simp only [lim, Zy, ZN] at *; omega) | (simp only [lim, ZN] at *; refine ⟨?_, ?_, ?_, ?_⟩ <;> omega)) ?_
   refine Tm.guard (by first | omega | (simp only [lim, Zy, ZN] at *; omega) | (simp only [lim, ZN] at *; refine ⟨?_, ?_, ?_, ?_⟩ <;> omega)) ?_
   try rw [Zj (x := i + 1) (by omega) (by omega)]
   refine hL (_, _) ⟨by omega, by omega, hF.next i0 hx3 rfl (by simp [ZZ, ZbW])⟩ (by (try simp only []); omega)
  ·try simp only [bz0, bz1, bz2, bz3, bz4, bz5, bz6, bz7, bz8, bz9, bza] at h1
   exact Tm.ret (by exact ⟨hF.all (by omega), trivial⟩)
theorem YaS.tm {ι α : Type} {ok : ι → Prop} {ψ : α → Prop} {p : ι → Nat} {B : Nat} (hp : ∀ i, ok i → B ≤ p i) {aC aD φ} (h : Tm (fun k => B ≤ k) (fun k => YaS.t k aC aD) φ) {G : ι → BA → BA → Option α} (hG : ∀ z0 z1, φ (z0, z1) → Tm ok (fun i => G i z0 z1) ψ) : Tm ok (fun i => YaS.f (p i) aC aD (G i)) ψ := bd2_tm (t := fun k => YaS.t k aC aD) hp h hG
theorem YaS.T {aC aD : BA} (ga0_0 : aC.size ≤ lim) (ga0_1 : aD.size ≤ lim) : Tm Z3 (fun k => YaS.t k aC aD) (fun z => z.1 = aC ∧ z.2 = aD ∧ True) := by
 unfold YaS.t YaS.g
 have hm := Zy
 have hlim : lim = 1048576 := rfl
 exact Tm.ret (by exact ⟨by first | rfl | assumption, by first | rfl | assumption, trivial⟩)
theorem Y7.tm {ι α : Type} {ok : ι → Prop} {ψ : α → Prop} {p : ι → Nat} {B : Nat} (hp : ∀ i, ok i → B ≤ p i) {a0 φ} (h : Tm (fun k => B ≤ k) (fun k => Y7.t k a0) φ) {G : ι → LC → Option α} (hG : ∀ z0, φ z0 → Tm ok (fun i => G i z0) ψ) : Tm ok (fun i => Y7.f (p i) a0 (G i)) ψ := ZK (t := fun k => Y7.t k a0) hp h hG
set_option maxRecDepth 100000 in
theorem Y7.T {a0 : LD} (ga0 : Zi RSS lim a0) : Tm Z3 (fun k => Y7.t k a0) (fun z => z = Zb a0 ∧ True) := by
 unfold Y7.t Y7.g Y7.m
 have hm := Zy
 have hlim : lim = 1048576 := rfl
 have hlen := ga0.1
 refine Tm.guard (by first | omega | (simp only [lim, Zy, ZN] at *; omega) | (simp only [lim, ZN] at *; refine ⟨?_, ?_, ?_, ?_⟩ <;> omega)) ?_
 refine Tm.loop (okk := Z3) (p := fun k => k) (fun i hi => hi) (b := fun k => Y7.l0 k a0 (fun z0 => some z0)) (fun v => match v with | (i, u1) => (((a0.length : Int)) - i).toNat) (fun v => match v with | (i, u1) => 0 ≤ i ∧ i ≤ (a0.length : Int) ∧ Zbq a0 ([.d (.str (⟨#[]⟩ : BA)), .d (.str (⟨#[]⟩ : BA))] : List C) i u1) ?_ ?_ ?_
 ·rintro ⟨i, u1⟩ hI
  try simp only [] at hI ⊢
  have : big = 2 ^ 64 := rfl
  have := ga0.1
  simp only [lim] at this
  omega
 ·exact ⟨by omega, by simp, Zbq.start _ _⟩
 ·rintro ⟨i, u1⟩ hI L hL
  try simp only [] at hI
  obtain ⟨i0, i1, hF⟩ := hI
  have hFl := hF.len i1
  simp only [Y7.l0, atR, rdQ, Q.ask]
  refine Tm.ite (fun h1 => ?_) (fun h1 => ?_)
  ·try simp only [bz0, bz1, bz2, bz3, bz4, bz5, bz6, bz7, bz8, bz9, bza] at h1
   refine Tm.atRow (by first | assumption | omega) (by first | assumption | omega) (fun x2 hx3 hm4 => ?_)
   obtain ⟨c5, c6, rfl, g7, g8, _⟩ := (ga0.2 x2 hm4).open
   refine Tm.uncons ?_
   refine Tm.dStr ?_
   refine Tm.uncons ?_
   refine Tm.dStr ?_
   refine Tm.atEnd ?_
   refine YaS.tm (fun i hi => hi.1) (YaS.T (by first | assumption | omega) (by first | assumption | omega)) (fun y10 y11 hy9 => ?_)
   try simp only [] at hy9
   obtain ⟨rfl, rfl, _⟩ := hy9
   try simp only [ZO]
   refine Tm.guard (by first | omega | (simp only [lim, Zy, ZN] at *; omega) | (simp only [lim, ZN] at *; refine ⟨?_, ?_, ?_, ?_⟩ <;> omega)) ?_
   refine Tm.guard (by first | omega | (simp only [lim, Zy, ZN] at *; omega) | (simp only [lim, ZN] at *; refine ⟨?_, ?_, ?_, ?_⟩ <;> omega)) ?_
   try rw [Zj (x := i + 1) (by omega) (by omega)]
   refine hL (_, _) ⟨by omega, by omega, hF.next i0 hx3 rfl (by simp [ZZ, ZbW])⟩ (by (try simp only []); omega)
  ·try simp only [bz0, bz1, bz2, bz3, bz4, bz5, bz6, bz7, bz8, bz9, bza] at h1
   exact Tm.ret (by exact ⟨hF.all (by omega), trivial⟩)
theorem YaM.tm {ι α : Type} {ok : ι → Prop} {ψ : α → Prop} {p : ι → Nat} {B : Nat} (hp : ∀ i, ok i → B ≤ p i) {aC aD aF aG φ} (h : Tm (fun k => B ≤ k) (fun k => YaM.t k aC aD aF aG) φ) {G : ι → BA → LC → LC → Int → Option α} (hG : ∀ z0 z1 z2 z3, φ (z0, z1, z2, z3) → Tm ok (fun i => G i z0 z1 z2 z3) ψ) : Tm ok (fun i => YaM.f (p i) aC aD aF aG (G i)) ψ := bd4_tm (t := fun k => YaM.t k aC aD aF aG) hp h hG
theorem YaM.T {aC : BA} {aD aF : LD} {aG : Int} (ga0_0 : aC.size ≤ lim) (ga0_1 : Zi RSS lim aD) (ga0_2 : Zi RS lim aF) : Tm Z3 (fun k => YaM.t k aC aD aF aG) (fun z => z.1 = aC ∧ z.2.1 = Zb aD ∧ z.2.2.1 = Zb aF ∧ z.2.2.2 = aG ∧ True) := by
 unfold YaM.t YaM.g
 have hm := Zy
 have hlim : lim = 1048576 := rfl
 refine Y7.tm (fun i hi => hi) (Y7.T (by first | assumption | omega)) (fun y2 hy1 => ?_)
 try simp only [] at hy1
 obtain ⟨rfl, _⟩ := hy1
 try simp only [ZO]
 refine YP.tm (fun i hi => hi) (YP.T (by first | assumption | omega)) (fun y4 hy3 => ?_)
 try simp only [] at hy3
 obtain ⟨rfl, _⟩ := hy3
 try simp only [ZO]
 exact Tm.ret (by exact ⟨by first | rfl | assumption, by first | rfl | assumption, by first | rfl | assumption, by first | rfl | assumption, trivial⟩)
theorem YN.tm {ι α : Type} {ok : ι → Prop} {ψ : α → Prop} {p : ι → Nat} {B : Nat} (hp : ∀ i, ok i → B ≤ p i) {a0 φ} (h : Tm (fun k => B ≤ k) (fun k => YN.t k a0) φ) {G : ι → LC → Option α} (hG : ∀ z0, φ z0 → Tm ok (fun i => G i z0) ψ) : Tm ok (fun i => YN.f (p i) a0 (G i)) ψ := ZK (t := fun k => YN.t k a0) hp h hG
set_option maxRecDepth 100000 in
theorem YN.T {a0 : LD} (ga0 : Zi Yar lim a0) : Tm Z3 (fun k => YN.t k a0) (fun z => z = Zb a0 ∧ True) := by
 unfold YN.t YN.g YN.m
 have hm := Zy
 have hlim : lim = 1048576 := rfl
 have hlen := ga0.1
 refine Tm.guard (by first | omega | (simp only [lim, Zy, ZN] at *; omega) | (simp only [lim, ZN] at *; refine ⟨?_, ?_, ?_, ?_⟩ <;> omega)) ?_
 refine Tm.loop (okk := Z3) (p := fun k => k) (fun i hi => hi) (b := fun k => YN.l0 k a0 (fun z0 => some z0)) (fun v => match v with | (i, u1) => (((a0.length : Int)) - i).toNat) (fun v => match v with | (i, u1) => 0 ≤ i ∧ i ≤ (a0.length : Int) ∧ Zbq a0 ([.d (.str (⟨#[]⟩ : BA)), .own ([] : LC), .own ([] : LC), .d (.int .i64 0)] : List C) i u1) ?_ ?_ ?_
 ·rintro ⟨i, u1⟩ hI
  try simp only [] at hI ⊢
  have : big = 2 ^ 64 := rfl
  have := ga0.1
  simp only [lim] at this
  omega
 ·exact ⟨by omega, by simp, Zbq.start _ _⟩
 ·rintro ⟨i, u1⟩ hI L hL
  try simp only [] at hI
  obtain ⟨i0, i1, hF⟩ := hI
  have hFl := hF.len i1
  simp only [YN.l0, atR, rdQ, Q.ask]
  refine Tm.ite (fun h1 => ?_) (fun h1 => ?_)
  ·try simp only [bz0, bz1, bz2, bz3, bz4, bz5, bz6, bz7, bz8, bz9, bza] at h1
   refine Tm.atRow (by first | assumption | omega) (by first | assumption | omega) (fun x2 hx3 hm4 => ?_)
   obtain ⟨c5, c6, c7, c8, rfl, g9, g10, g11, g12, _⟩ := (ga0.2 x2 hm4).open
   refine Tm.uncons ?_
   refine Tm.dStr ?_
   refine Tm.uncons ?_
   refine Tm.dSl ?_
   refine Tm.uncons ?_
   refine Tm.dSl ?_
   refine Tm.uncons ?_
   refine Tm.dInt ?_
   refine Tm.atEnd ?_
   refine YaM.tm (fun i hi => hi.1) (YaM.T (by first | assumption | omega) (by first | assumption | omega) (by first | assumption | omega)) (fun y14 y15 y16 y17 hy13 => ?_)
   try simp only [] at hy13
   obtain ⟨rfl, rfl, rfl, rfl, _⟩ := hy13
   try simp only [ZO]
   refine Tm.guard (by first | omega | (simp only [lim, Zy, ZN] at *; omega) | (simp only [lim, ZN] at *; refine ⟨?_, ?_, ?_, ?_⟩ <;> omega)) ?_
   refine Tm.guard (by first | omega | (simp only [lim, Zy, ZN] at *; omega) | (simp only [lim, ZN] at *; refine ⟨?_, ?_, ?_, ?_⟩ <;> omega)) ?_
   try rw [Zj (x := i + 1) (by omega) (by omega)]
   refine hL (_, _) ⟨by omega, by omega, hF.next i0 hx3 rfl (by simp [ZZ, ZbW])⟩ (by (try simp only []); omega)
  ·try simp only [bz0, bz1, bz2, bz3, bz4, bz5, bz6, bz7, bz8, bz9, bza] at h1
   exact Tm.ret (by exact ⟨hF.all (by omega), trivial⟩)
theorem Yaj.f_of {β : Type} {k a0 a1 a2 z0} (h : Yaj.t k a0 a1 a2 = some z0) (K : Bool → Option β) : Yaj.f k a0 a1 a2 K = K z0 := by unfold Yaj.f; rw [h]; rfl
theorem Yaj.tm {ι α : Type} {ok : ι → Prop} {ψ : α → Prop} {p : ι → Nat} {B : Nat} (hp : ∀ i, ok i → B ≤ p i) {a0 a1 a2 φ} (h : Tm (fun k => B ≤ k) (fun k => Yaj.t k a0 a1 a2) φ) {G : ι → Bool → Option α} (hG : ∀ z0, φ z0 → Tm ok (fun i => G i z0) ψ) : Tm ok (fun i => Yaj.f (p i) a0 a1 a2 (G i)) ψ := ZK (t := fun k => Yaj.t k a0 a1 a2) hp h hG
theorem Yaj.T {a0 a1 a2 : Int} : Tm Z3 (fun k => Yaj.t k a0 a1 a2) (fun r => r = true → a1 ≤ a0 ∧ a0 ≤ a2) := by
 unfold Yaj.t Yaj.g
 have hm := Zy
 have hlim : lim = 1048576 := rfl
 refine Tm.ite (fun h1 => ?_) (fun h1 => ?_)
 ·try simp only [bz0, bz1, bz2, bz3, bz4, bz5, bz6, bz7, bz8, bz9, bza] at h1
  exact Tm.ret (by first | (intro h; simp at h; omega) | (intro h; cases h))
 ·try simp only [bz0, bz1, bz2, bz3, bz4, bz5, bz6, bz7, bz8, bz9, bza] at h1
  exact Tm.ret (by first | (intro h; simp at h; omega) | (intro h; cases h))
theorem l1In_f {β : Type} {k : Nat} {a b c : Int} (K : Bool → Option β) : Yaj.f k a b c K = K (decide (b ≤ a) && decide (a ≤ c)) := by
 refine Yaj.f_of ?_ K
 unfold Yaj.t Yaj.g
 by_cases h : b ≤ a <;> simp [h]
def inB (a b c : Int) : Bool := decide (b ≤ a) && decide (a ≤ c)
theorem l1In_fv {β : Type} {k : Nat} {a b c : Int} (K : Bool → Option β) : Yaj.f k a b c K = K (inB a b c) := l1In_f K
theorem Yn.f_of {β : Type} {k a0 z0} (h : Yn.t k a0 = some z0) (K : Bool → Option β) : Yn.f k a0 K = K z0 := by unfold Yn.f; rw [h]; rfl
theorem Yn.tm {ι α : Type} {ok : ι → Prop} {ψ : α → Prop} {p : ι → Nat} {B : Nat} (hp : ∀ i, ok i → B ≤ p i) {a0 φ} (h : Tm (fun k => B ≤ k) (fun k => Yn.t k a0) φ) {G : ι → Bool → Option α} (hG : ∀ z0, φ z0 → Tm ok (fun i => G i z0) ψ) : Tm ok (fun i => Yn.f (p i) a0 (G i)) ψ := ZK (t := fun k => Yn.t k a0) hp h hG
theorem Yn.T {a0 : BA} (ga0 : a0.size ≤ lim) : Tm Z3 (fun k => Yn.t k a0) (fun _ => True) := by
 unfold Yn.t Yn.g
 have hm := Zy
 have hlim : lim = 1048576 := rfl
 refine Tm.loop (okk := Z3) (p := fun k => k) (fun i hi => hi) (b := fun k => Yn.l0 k a0 (fun z0 => some z0)) (fun i => (((a0.size : Int)) - i).toNat) (fun i => 0 ≤ i ∧ i ≤ (a0.size : Int)) ?_ ?_ ?_
 ·rintro i hI
  try simp only [] at hI ⊢
  have : big = 2 ^ 64 := rfl
  omega
 ·((try simp only []); omega)
 ·rintro i hI L hL
  try simp only [] at hI
  obtain ⟨i0, i1⟩ := hI
  simp only [Yn.l0]
  refine Tm.ite (fun h1 => ?_) (fun h1 => ?_)
  ·try simp only [bz0, bz1, bz2, bz3, bz4, bz5, bz6, bz7, bz8, bz9, bza] at h1
   refine Tm.atStr (by first | assumption | omega) (by first | assumption | omega) (fun b2 hb3 => ?_)
   try rw [Zj (x := (b2.toNat : Int)) (by omega) (by omega)]
   refine Yaj.tm (fun i hi => hi.1) (Yaj.T) (fun y5 hy4 => ?_)
   refine Tm.ite (fun h6 => ?_) (fun h6 => ?_)
   ·try simp only [bz0, bz1, bz2, bz3, bz4, bz5, bz6, bz7, bz8, bz9, bza] at h6
    refine Tm.atStr (by first | assumption | omega) (by first | assumption | omega) (fun b7 hb8 => ?_)
    try rw [Zj (x := (b7.toNat : Int)) (by omega) (by omega)]
    refine Yaj.tm (fun i hi => hi.1) (Yaj.T) (fun y10 hy9 => ?_)
    refine Tm.ite (fun h11 => ?_) (fun h11 => ?_)
    ·try simp only [bz0, bz1, bz2, bz3, bz4, bz5, bz6, bz7, bz8, bz9, bza] at h11
     refine Tm.atStr (by first | assumption | omega) (by first | assumption | omega) (fun b12 hb13 => ?_)
     refine Tm.ite (fun h14 => ?_) (fun h14 => ?_)
     ·try simp only [bz0, bz1, bz2, bz3, bz4, bz5, bz6, bz7, bz8, bz9, bza] at h14
      exact Tm.ret (by trivial)
     ·try simp only [bz0, bz1, bz2, bz3, bz4, bz5, bz6, bz7, bz8, bz9, bza] at h14
      try rw [Zj (x := i + 1) (by omega) (by omega)]
      exact hL _ (by (try simp only []); omega) (by (try simp only []); omega)
    ·try simp only [bz0, bz1, bz2, bz3, bz4, bz5, bz6, bz7, bz8, bz9, bza] at h11
     have z15 := hy9 h11
     try rw [Zj (x := i + 1) (by omega) (by omega)]
     exact hL _ (by (try simp only []); omega) (by (try simp only []); omega)
   ·try simp only [bz0, bz1, bz2, bz3, bz4, bz5, bz6, bz7, bz8, bz9, bza] at h6
    have z16 := hy4 h6
    try rw [Zj (x := i + 1) (by omega) (by omega)]
    exact hL _ (by (try simp only []); omega) (by (try simp only []); omega)
  ·try simp only [bz0, bz1, bz2, bz3, bz4, bz5, bz6, bz7, bz8, bz9, bza] at h1
   refine Yaj.tm (fun i hi => hi.1) (Yaj.T) (fun y18 hy17 => ?_)
   refine Tm.ite (fun h19 => ?_) (fun h19 => ?_)
   ·try simp only [bz0, bz1, bz2, bz3, bz4, bz5, bz6, bz7, bz8, bz9, bza] at h19
    have z20 := hy17 h19
    refine Tm.atStr (by first | assumption | omega) (by first | assumption | omega) (fun b21 hb22 => ?_)
    refine Tm.ite (fun h23 => ?_) (fun h23 => ?_)
    ·try simp only [bz0, bz1, bz2, bz3, bz4, bz5, bz6, bz7, bz8, bz9, bza] at h23
     try rw [Zj (x := (a0.size : Int) - 1) (by omega) (by omega)]
     refine Tm.atStr (by first | assumption | omega) (by first | assumption | omega) (fun b24 hb25 => ?_)
     exact Tm.ret (by trivial)
    ·try simp only [bz0, bz1, bz2, bz3, bz4, bz5, bz6, bz7, bz8, bz9, bza] at h23
     exact Tm.ret (by trivial)
   ·try simp only [bz0, bz1, bz2, bz3, bz4, bz5, bz6, bz7, bz8, bz9, bza] at h19
    exact Tm.ret (by trivial)
noncomputable def Yn.v (a0 : BA) : Bool := (Yn.t big a0).getD default
theorem Yn.tv {a0 : BA} (ga0 : a0.size ≤ lim) {k : Nat} (hk : Z3 k) : Yn.t k a0 = some (Yn.v a0) := (Yn.T ga0).val hk
theorem Yn.fv {a0 : BA} (ga0 : a0.size ≤ lim) {k : Nat} (hk : Z3 k) {β : Type} (K : Bool → Option β) : Yn.f k a0 K = K (Yn.v a0) := Yn.f_of (Yn.tv ga0 hk) K
noncomputable def namesB (xs : LD) : Bool := (List.range xs.length).all fun i => Yn.v (gS xs (i : Int) 0) && (!decide ((i : Int) > 0) || ZbO (gS xs ((i : Int) - 1) 0) (gS xs (i : Int) 0))
theorem Yad.f_of {β : Type} {k aC aD aF z0} (h : Yad.t k aC aD aF = some z0) (K : Bool → Option β) : Yad.f k aC aD aF K = K z0 := by unfold Yad.f; rw [h]; rfl
theorem Yad.tm {ι α : Type} {ok : ι → Prop} {ψ : α → Prop} {p : ι → Nat} {B : Nat} (hp : ∀ i, ok i → B ≤ p i) {aC aD aF φ} (h : Tm (fun k => B ≤ k) (fun k => Yad.t k aC aD aF) φ) {G : ι → Bool → Option α} (hG : ∀ z0, φ z0 → Tm ok (fun i => G i z0) ψ) : Tm ok (fun i => Yad.f (p i) aC aD aF (G i)) ψ := ZK (t := fun k => Yad.t k aC aD aF) hp h hG
set_option maxRecDepth 100000 in
theorem Yad.T {aC : Int} {aD : BA} {aF : LD} (ga0_1 : aD.size ≤ lim) (ga0_2 : Zi RS lim aF) : Tm Z3 (fun k => Yad.t k aC aD aF) (fun _ => True) := by
 unfold Yad.t Yad.g
 have hm := Zy
 have hlim : lim = 1048576 := rfl
 have la0_2 := ga0_2.1
 refine Tm.loop (okk := Z3) (p := fun k => k) (fun i hi => hi) (b := fun k => Yad.l0 k (aF.length : Int) aC aD aF (fun z0 => some z0)) (fun i => (((aF.length : Int)) - i).toNat) (fun i => 0 ≤ i ∧ i ≤ (aF.length : Int)) ?_ ?_ ?_
 ·rintro i hI
  try simp only [] at hI ⊢
  have : big = 2 ^ 64 := rfl
  omega
 ·((try simp only []); omega)
 ·rintro i hI L hL
  try simp only [] at hI
  obtain ⟨i0, i1⟩ := hI
  simp only [Yad.l0, atR, rdQ, Q.ask]
  refine Tm.ite (fun h1 => ?_) (fun h1 => ?_)
  ·try simp only [bz0, bz1, bz2, bz3, bz4, bz5, bz6, bz7, bz8, bz9, bza] at h1
   refine Tm.atRow (by first | assumption | omega) (by first | assumption | omega) (fun x2 hx3 hm4 => ?_)
   obtain ⟨c5, rfl, g6, _⟩ := (ga0_2.2 x2 hm4).open
   refine Tm.uncons ?_
   refine Tm.dStr ?_
   refine Tm.atEnd ?_
   refine Yn.tm (fun i hi => hi.1) (Yn.T (by first | assumption | omega)) (fun y8 hy7 => ?_)
   refine Tm.ite (fun h9 => ?_) (fun h9 => ?_)
   ·try simp only [bz0, bz1, bz2, bz3, bz4, bz5, bz6, bz7, bz8, bz9, bza] at h9
    exact Tm.ret (by trivial)
   ·try simp only [bz0, bz1, bz2, bz3, bz4, bz5, bz6, bz7, bz8, bz9, bza] at h9
    refine Tm.ite (fun h10 => ?_) (fun h10 => ?_)
    ·try simp only [bz0, bz1, bz2, bz3, bz4, bz5, bz6, bz7, bz8, bz9, bza] at h10
     try rw [Zj (x := i - 1) (by omega) (by omega)]
     refine Tm.atRow (by first | assumption | omega) (by first | assumption | omega) (fun x11 hx12 hm13 => ?_)
     obtain ⟨c14, rfl, g15, _⟩ := (ga0_2.2 x11 hm13).open
     refine Tm.uncons ?_
     refine Tm.dStr ?_
     refine Tm.atEnd ?_
     refine Tm.atRow (by first | assumption | omega) (by first | assumption | omega) (fun x16 hx17 hm18 => ?_)
     rw [hx3] at hx17
     injection hx17 with hx17
     subst hx17
     refine Tm.uncons ?_
     refine Tm.dStr ?_
     refine Tm.atEnd ?_
     refine Tm.ite (fun h20 => ?_) (fun h20 => ?_)
     ·try simp only [bz0, bz1, bz2, bz3, bz4, bz5, bz6, bz7, bz8, bz9, bza] at h20
      exact Tm.ret (by trivial)
     ·try simp only [bz0, bz1, bz2, bz3, bz4, bz5, bz6, bz7, bz8, bz9, bza] at h20
      try rw [Zj (x := i + 1) (by omega) (by omega)]
      exact hL _ (by (try simp only []); omega) (by (try simp only []); omega)
    ·try simp only [bz0, bz1, bz2, bz3, bz4, bz5, bz6, bz7, bz8, bz9, bza] at h10
     try rw [Zj (x := i + 1) (by omega) (by omega)]
     exact hL _ (by (try simp only []); omega) (by (try simp only []); omega)
  ·try simp only [bz0, bz1, bz2, bz3, bz4, bz5, bz6, bz7, bz8, bz9, bza] at h1
   refine Yn.tm (fun i hi => hi.1) (Yn.T (by first | assumption | omega)) (fun y22 hy21 => ?_)
   refine Tm.ite (fun h23 => ?_) (fun h23 => ?_)
   ·try simp only [bz0, bz1, bz2, bz3, bz4, bz5, bz6, bz7, bz8, bz9, bza] at h23
    exact Tm.ret (by trivial)
   ·try simp only [bz0, bz1, bz2, bz3, bz4, bz5, bz6, bz7, bz8, bz9, bza] at h23
    refine Tm.ite (fun h24 => ?_) (fun h24 => ?_)
    ·try simp only [bz0, bz1, bz2, bz3, bz4, bz5, bz6, bz7, bz8, bz9, bza] at h24
     refine Tm.ite (fun h25 => ?_) (fun h25 => ?_)
     ·try simp only [bz0, bz1, bz2, bz3, bz4, bz5, bz6, bz7, bz8, bz9, bza] at h25
      exact Tm.ret (by trivial)
     ·try simp only [bz0, bz1, bz2, bz3, bz4, bz5, bz6, bz7, bz8, bz9, bza] at h25
      refine Tm.ite (fun h26 => ?_) (fun h26 => ?_)
      ·try simp only [bz0, bz1, bz2, bz3, bz4, bz5, bz6, bz7, bz8, bz9, bza] at h26
       refine Yaj.tm (fun i hi => hi.1) (Yaj.T) (fun y28 hy27 => ?_)
       exact Tm.ret (by trivial)
      ·try simp only [bz0, bz1, bz2, bz3, bz4, bz5, bz6, bz7, bz8, bz9, bza] at h26
       refine Tm.ite (fun h29 => ?_) (fun h29 => ?_)
       ·try simp only [bz0, bz1, bz2, bz3, bz4, bz5, bz6, bz7, bz8, bz9, bza] at h29
        refine Tm.ite (fun h30 => ?_) (fun h30 => ?_)
        ·try simp only [bz0, bz1, bz2, bz3, bz4, bz5, bz6, bz7, bz8, bz9, bza] at h30
         exact Tm.ret (by trivial)
        ·try simp only [bz0, bz1, bz2, bz3, bz4, bz5, bz6, bz7, bz8, bz9, bza] at h30
         exact Tm.ret (by trivial)
       ·try simp only [bz0, bz1, bz2, bz3, bz4, bz5, bz6, bz7, bz8, bz9, bza] at h29
        refine Tm.ite (fun h31 => ?_) (fun h31 => ?_)
        ·try simp only [bz0, bz1, bz2, bz3, bz4, bz5, bz6, bz7, bz8, bz9, bza] at h31
         exact Tm.ret (by trivial)
        ·try simp only [bz0, bz1, bz2, bz3, bz4, bz5, bz6, bz7, bz8, bz9, bza] at h31
         exact Tm.ret (by trivial)
    ·try simp only [bz0, bz1, bz2, bz3, bz4, bz5, bz6, bz7, bz8, bz9, bza] at h24
     refine Tm.ite (fun h32 => ?_) (fun h32 => ?_)
     ·try simp only [bz0, bz1, bz2, bz3, bz4, bz5, bz6, bz7, bz8, bz9, bza] at h32
      exact Tm.ret (by trivial)
     ·try simp only [bz0, bz1, bz2, bz3, bz4, bz5, bz6, bz7, bz8, bz9, bza] at h32
      refine Tm.ite (fun h33 => ?_) (fun h33 => ?_)
      ·try simp only [bz0, bz1, bz2, bz3, bz4, bz5, bz6, bz7, bz8, bz9, bza] at h33
       refine Yaj.tm (fun i hi => hi.1) (Yaj.T) (fun y35 hy34 => ?_)
       exact Tm.ret (by trivial)
      ·try simp only [bz0, bz1, bz2, bz3, bz4, bz5, bz6, bz7, bz8, bz9, bza] at h33
       refine Tm.ite (fun h36 => ?_) (fun h36 => ?_)
       ·try simp only [bz0, bz1, bz2, bz3, bz4, bz5, bz6, bz7, bz8, bz9, bza] at h36
        refine Tm.ite (fun h37 => ?_) (fun h37 => ?_)
        ·try simp only [bz0, bz1, bz2, bz3, bz4, bz5, bz6, bz7, bz8, bz9, bza] at h37
         exact Tm.ret (by trivial)
        ·try simp only [bz0, bz1, bz2, bz3, bz4, bz5, bz6, bz7, bz8, bz9, bza] at h37
         exact Tm.ret (by trivial)
       ·try simp only [bz0, bz1, bz2, bz3, bz4, bz5, bz6, bz7, bz8, bz9, bza] at h36
        refine Tm.ite (fun h38 => ?_) (fun h38 => ?_)
        ·try simp only [bz0, bz1, bz2, bz3, bz4, bz5, bz6, bz7, bz8, bz9, bza] at h38
         exact Tm.ret (by trivial)
        ·try simp only [bz0, bz1, bz2, bz3, bz4, bz5, bz6, bz7, bz8, bz9, bza] at h38
         exact Tm.ret (by trivial)
theorem Yr.f_of {β : Type} {k a0 z0} (h : Yr.t k a0 = some z0) (K : Bool → Option β) : Yr.f k a0 K = K z0 := by unfold Yr.f; rw [h]; rfl
theorem Yr.tm {ι α : Type} {ok : ι → Prop} {ψ : α → Prop} {p : ι → Nat} {B : Nat} (hp : ∀ i, ok i → B ≤ p i) {a0 φ} (h : Tm (fun k => B ≤ k) (fun k => Yr.t k a0) φ) {G : ι → Bool → Option α} (hG : ∀ z0, φ z0 → Tm ok (fun i => G i z0) ψ) : Tm ok (fun i => Yr.f (p i) a0 (G i)) ψ := ZK (t := fun k => Yr.t k a0) hp h hG
set_option maxRecDepth 100000 in
theorem Yr.T {a0 : LD} (ga0 : Zi YaC lim a0) : Tm Z3 (fun k => Yr.t k a0) (fun _ => True) := by
 unfold Yr.t Yr.g
 have hm := Zy
 have hlim : lim = 1048576 := rfl
 have la0 := ga0.1
 refine Tm.loop (okk := Z3) (p := fun k => k) (fun i hi => hi) (b := fun k => Yr.l0 k a0 (fun z0 => some z0)) (fun i => (((a0.length : Int)) - i).toNat) (fun i => 0 ≤ i ∧ i ≤ (a0.length : Int)) ?_ ?_ ?_
 ·rintro i hI
  try simp only [] at hI ⊢
  have : big = 2 ^ 64 := rfl
  omega
 ·((try simp only []); omega)
 ·rintro i hI L hL
  try simp only [] at hI
  obtain ⟨i0, i1⟩ := hI
  simp only [Yr.l0, atR, rdQ, Q.ask]
  refine Tm.ite (fun h1 => ?_) (fun h1 => ?_)
  ·try simp only [bz0, bz1, bz2, bz3, bz4, bz5, bz6, bz7, bz8, bz9, bza] at h1
   refine Tm.atRow (by first | assumption | omega) (by first | assumption | omega) (fun x2 hx3 hm4 => ?_)
   obtain ⟨c5, c6, c7, rfl, g8, g9, g10, _⟩ := (ga0.2 x2 hm4).open
   refine Tm.uncons ?_
   refine Tm.dInt ?_
   refine Tm.uncons ?_
   refine Tm.dStr ?_
   refine Tm.uncons ?_
   refine Tm.dSl ?_
   refine Tm.atEnd ?_
   refine Yad.tm (fun i hi => hi.1) (Yad.T (by first | assumption | omega) (by first | assumption | omega)) (fun y12 hy11 => ?_)
   refine Tm.ite (fun h13 => ?_) (fun h13 => ?_)
   ·try simp only [bz0, bz1, bz2, bz3, bz4, bz5, bz6, bz7, bz8, bz9, bza] at h13
    exact Tm.ret (by trivial)
   ·try simp only [bz0, bz1, bz2, bz3, bz4, bz5, bz6, bz7, bz8, bz9, bza] at h13
    try rw [Zj (x := i + 1) (by omega) (by omega)]
    exact hL _ (by (try simp only []); omega) (by (try simp only []); omega)
  ·try simp only [bz0, bz1, bz2, bz3, bz4, bz5, bz6, bz7, bz8, bz9, bza] at h1
   exact Tm.ret (by trivial)
noncomputable def Yr.v (a0 : LD) : Bool := (Yr.t big a0).getD default
theorem Yr.tv {a0 : LD} (ga0 : Zi YaC lim a0) {k : Nat} (hk : Z3 k) : Yr.t k a0 = some (Yr.v a0) := (Yr.T ga0).val hk
theorem Yr.fv {a0 : LD} (ga0 : Zi YaC lim a0) {k : Nat} (hk : Z3 k) {β : Type} (K : Bool → Option β) : Yr.f k a0 K = K (Yr.v a0) := Yr.f_of (Yr.tv ga0 hk) K
theorem YM.tm {ι α : Type} {ok : ι → Prop} {ψ : α → Prop} {p : ι → Nat} {B : Nat} (hp : ∀ i, ok i → B ≤ p i) {a0 a1 φ} (h : Tm (fun k => B ≤ k) (fun k => YM.t k a0 a1) φ) {G : ι → Bool → Option α} (hG : ∀ z0, φ z0 → Tm ok (fun i => G i z0) ψ) : Tm ok (fun i => YM.f (p i) a0 a1 (G i)) ψ := ZK (t := fun k => YM.t k a0 a1) hp h hG
set_option maxRecDepth 100000 in
theorem YM.T {a0 : LD} {a1 : Int} (ga0 : Zi RS lim a0) : Tm Z3 (fun k => YM.t k a0 a1) (fun _ => True) := by
 unfold YM.t YM.g
 have hm := Zy
 have hlim : lim = 1048576 := rfl
 have la0 := ga0.1
 refine Tm.loop (okk := Z3) (p := fun k => k) (fun i hi => hi) (b := fun k => YM.l0 k a0 a1 (fun z0 => some z0)) (fun i => (((a0.length : Int)) - i).toNat) (fun i => 0 ≤ i ∧ i ≤ (a0.length : Int)) ?_ ?_ ?_
 ·rintro i hI
  try simp only [] at hI ⊢
  have : big = 2 ^ 64 := rfl
  omega
 ·((try simp only []); omega)
 ·rintro i hI L hL
  try simp only [] at hI
  obtain ⟨i0, i1⟩ := hI
  simp only [YM.l0, atR, rdQ, Q.ask]
  refine Tm.ite (fun h1 => ?_) (fun h1 => ?_)
  ·try simp only [bz0, bz1, bz2, bz3, bz4, bz5, bz6, bz7, bz8, bz9, bza] at h1
   refine Tm.atRow (by first | assumption | omega) (by first | assumption | omega) (fun x2 hx3 hm4 => ?_)
   obtain ⟨c5, rfl, g6, _⟩ := (ga0.2 x2 hm4).open
   refine Tm.uncons ?_
   refine Tm.dStr ?_
   refine Tm.atEnd ?_
   refine Yn.tm (fun i hi => hi.1) (Yn.T (by first | assumption | omega)) (fun y8 hy7 => ?_)
   refine Tm.ite (fun h9 => ?_) (fun h9 => ?_)
   ·try simp only [bz0, bz1, bz2, bz3, bz4, bz5, bz6, bz7, bz8, bz9, bza] at h9
    exact Tm.ret (by trivial)
   ·try simp only [bz0, bz1, bz2, bz3, bz4, bz5, bz6, bz7, bz8, bz9, bza] at h9
    refine Tm.ite (fun h10 => ?_) (fun h10 => ?_)
    ·try simp only [bz0, bz1, bz2, bz3, bz4, bz5, bz6, bz7, bz8, bz9, bza] at h10
     try rw [Zj (x := i - 1) (by omega) (by omega)]
     refine Tm.atRow (by first | assumption | omega) (by first | assumption | omega) (fun x11 hx12 hm13 => ?_)
     obtain ⟨c14, rfl, g15, _⟩ := (ga0.2 x11 hm13).open
     refine Tm.uncons ?_
     refine Tm.dStr ?_
     refine Tm.atEnd ?_
     refine Tm.atRow (by first | assumption | omega) (by first | assumption | omega) (fun x16 hx17 hm18 => ?_)
     rw [hx3] at hx17
     injection hx17 with hx17
     subst hx17
     refine Tm.uncons ?_
     refine Tm.dStr ?_
     refine Tm.atEnd ?_
     refine Tm.ite (fun h20 => ?_) (fun h20 => ?_)
     ·try simp only [bz0, bz1, bz2, bz3, bz4, bz5, bz6, bz7, bz8, bz9, bza] at h20
      exact Tm.ret (by trivial)
     ·try simp only [bz0, bz1, bz2, bz3, bz4, bz5, bz6, bz7, bz8, bz9, bza] at h20
      try rw [Zj (x := i + 1) (by omega) (by omega)]
      exact hL _ (by (try simp only []); omega) (by (try simp only []); omega)
    ·try simp only [bz0, bz1, bz2, bz3, bz4, bz5, bz6, bz7, bz8, bz9, bza] at h10
     try rw [Zj (x := i + 1) (by omega) (by omega)]
     exact hL _ (by (try simp only []); omega) (by (try simp only []); omega)
  ·try simp only [bz0, bz1, bz2, bz3, bz4, bz5, bz6, bz7, bz8, bz9, bza] at h1
   exact Tm.ret (by trivial)
set_option maxRecDepth 100000 in
theorem l10Names_v {a : LD} {n : Int} (g : Zi RS lim a) {k : Nat} (hk : Z3 k) : YM.t k a n = some (namesB a && decide ((a.length : Int) ≤ n)) := by
 have hl := g.1
 have hlim : lim = 1048576 := rfl
 have hb : big = 2 ^ 64 := rfl
 unfold YM.t YM.g
 rw [Zb6 (n := a.length) (fun i => Yn.v (gS a (i : Int) 0) && (!decide ((i : Int) > 0) || ZbO (gS a ((i : Int) - 1) 0) (gS a (i : Int) 0))) (r1 := some false) (r2 := some (decide ((a.length : Int) ≤ n))) (by unfold Z3 at hk; omega)]
 ·unfold namesB
  generalize List.all _ _ = x
  cases x <;> rfl
 ·intro L i hi
  have k0 := (RS.get g (v := (i : Int)) (by omega) (by omega)).2.1
  simp (disch := omega) only [YM.l0, atR, rdQ, Q.ask, ZQ (show (i : Int) < a.length by omega), cond_true, RS.row g, ZY, Zaj, Z6, Yn.fv k0 hk, Zj]
  by_cases h0 : (i : Int) > 0
  ·simp (disch := omega) only [ZQ h0, cond_true, RS.row g, ZY, Zaj, Z6]
   cases Yn.v (gS a (i : Int) 0) <;> cases ZbO (gS a ((i : Int) - 1) 0) (gS a (i : Int) 0) <;> rfl
  ·simp only [ZV h0, cond_false]
   cases Yn.v (gS a (i : Int) 0) <;> rfl
 ·intro L
  simp [YM.l0, atR, rdQ, Q.ask]
theorem Yz.f_of {β : Type} {k aC aD aF aG z0} (h : Yz.t k aC aD aF aG = some z0) (K : Bool → Option β) : Yz.f k aC aD aF aG K = K z0 := by unfold Yz.f; rw [h]; rfl
theorem Yz.tm {ι α : Type} {ok : ι → Prop} {ψ : α → Prop} {p : ι → Nat} {B : Nat} (hp : ∀ i, ok i → B ≤ p i) {aC aD aF aG φ} (h : Tm (fun k => B ≤ k) (fun k => Yz.t k aC aD aF aG) φ) {G : ι → Bool → Option α} (hG : ∀ z0, φ z0 → Tm ok (fun i => G i z0) ψ) : Tm ok (fun i => Yz.f (p i) aC aD aF aG (G i)) ψ := ZK (t := fun k => Yz.t k aC aD aF aG) hp h hG
set_option maxRecDepth 100000 in
theorem Yz.T {aC : Int} {aD aF aG : LD} (ga0_1 : Zi YaC lim aD) (ga0_2 : Zi RS lim aF) (ga0_3 : Zi RSI lim aG) : Tm Z3 (fun k => Yz.t k aC aD aF aG) (fun _ => True) := by
 unfold Yz.t Yz.g
 have hm := Zy
 have hlim : lim = 1048576 := rfl
 have la0_1 := ga0_1.1
 have la0_2 := ga0_2.1
 have la0_3 := ga0_3.1
 refine Tm.loop (okk := Z3) (p := fun k => k) (fun i hi => hi) (b := fun k => Yz.l0 k aC aD aF aG (fun z0 => some z0)) (fun i => (((aG.length : Int)) - i).toNat) (fun i => 0 ≤ i ∧ i ≤ (aG.length : Int)) ?_ ?_ ?_
 ·rintro i hI
  try simp only [] at hI ⊢
  have : big = 2 ^ 64 := rfl
  omega
 ·((try simp only []); omega)
 ·rintro i hI L hL
  try simp only [] at hI
  obtain ⟨i0, i1⟩ := hI
  simp only [Yz.l0, atR, rdQ, Q.ask]
  refine Tm.ite (fun h1 => ?_) (fun h1 => ?_)
  ·try simp only [bz0, bz1, bz2, bz3, bz4, bz5, bz6, bz7, bz8, bz9, bza] at h1
   refine Tm.atRow (by first | assumption | omega) (by first | assumption | omega) (fun x2 hx3 hm4 => ?_)
   obtain ⟨c5, c6, rfl, g7, g8, _⟩ := (ga0_3.2 x2 hm4).open
   refine Tm.uncons ?_
   refine Tm.dStr ?_
   refine Tm.uncons ?_
   refine Tm.dInt ?_
   refine Tm.atEnd ?_
   refine Yn.tm (fun i hi => hi.1) (Yn.T (by first | assumption | omega)) (fun y10 hy9 => ?_)
   refine Tm.ite (fun h11 => ?_) (fun h11 => ?_)
   ·try simp only [bz0, bz1, bz2, bz3, bz4, bz5, bz6, bz7, bz8, bz9, bza] at h11
    exact Tm.ret (by trivial)
   ·try simp only [bz0, bz1, bz2, bz3, bz4, bz5, bz6, bz7, bz8, bz9, bza] at h11
    refine Tm.atRow (by first | assumption | omega) (by first | assumption | omega) (fun x12 hx13 hm14 => ?_)
    rw [hx3] at hx13
    injection hx13 with hx13
    subst hx13
    refine Tm.uncons ?_
    refine Tm.dStr ?_
    refine Tm.uncons ?_
    refine Tm.dInt ?_
    refine Tm.atEnd ?_
    refine Yaj.tm (fun i hi => hi.1) (Yaj.T) (fun y18 hy17 => ?_)
    refine Tm.ite (fun h19 => ?_) (fun h19 => ?_)
    ·try simp only [bz0, bz1, bz2, bz3, bz4, bz5, bz6, bz7, bz8, bz9, bza] at h19
     exact Tm.ret (by trivial)
    ·try simp only [bz0, bz1, bz2, bz3, bz4, bz5, bz6, bz7, bz8, bz9, bza] at h19
     have z20 := hy17 h19
     refine Tm.ite (fun h21 => ?_) (fun h21 => ?_)
     ·try simp only [bz0, bz1, bz2, bz3, bz4, bz5, bz6, bz7, bz8, bz9, bza] at h21
      try rw [Zj (x := i - 1) (by omega) (by omega)]
      refine Tm.atRow (by first | assumption | omega) (by first | assumption | omega) (fun x22 hx23 hm24 => ?_)
      obtain ⟨c25, c26, rfl, g27, g28, _⟩ := (ga0_3.2 x22 hm24).open
      refine Tm.uncons ?_
      refine Tm.dStr ?_
      refine Tm.uncons ?_
      refine Tm.dInt ?_
      refine Tm.atEnd ?_
      refine Tm.atRow (by first | assumption | omega) (by first | assumption | omega) (fun x29 hx30 hm31 => ?_)
      rw [hx3] at hx30
      injection hx30 with hx30
      subst hx30
      refine Tm.uncons ?_
      refine Tm.dStr ?_
      refine Tm.uncons ?_
      refine Tm.dInt ?_
      refine Tm.atEnd ?_
      refine Tm.ite (fun h34 => ?_) (fun h34 => ?_)
      ·try simp only [bz0, bz1, bz2, bz3, bz4, bz5, bz6, bz7, bz8, bz9, bza] at h34
       exact Tm.ret (by trivial)
      ·try simp only [bz0, bz1, bz2, bz3, bz4, bz5, bz6, bz7, bz8, bz9, bza] at h34
       try rw [Zj (x := i + 1) (by omega) (by omega)]
       exact hL _ (by (try simp only []); omega) (by (try simp only []); omega)
     ·try simp only [bz0, bz1, bz2, bz3, bz4, bz5, bz6, bz7, bz8, bz9, bza] at h21
      try rw [Zj (x := i + 1) (by omega) (by omega)]
      exact hL _ (by (try simp only []); omega) (by (try simp only []); omega)
  ·try simp only [bz0, bz1, bz2, bz3, bz4, bz5, bz6, bz7, bz8, bz9, bza] at h1
   refine Yaj.tm (fun i hi => hi.1) (Yaj.T) (fun y36 hy35 => ?_)
   refine Tm.ite (fun h37 => ?_) (fun h37 => ?_)
   ·try simp only [bz0, bz1, bz2, bz3, bz4, bz5, bz6, bz7, bz8, bz9, bza] at h37
    have z38 := hy35 h37
    refine Yr.tm (fun i hi => hi.1) (Yr.T (by first | assumption | omega)) (fun y40 hy39 => ?_)
    refine Tm.ite (fun h41 => ?_) (fun h41 => ?_)
    ·try simp only [bz0, bz1, bz2, bz3, bz4, bz5, bz6, bz7, bz8, bz9, bza] at h41
     refine YM.tm (fun i hi => hi.1) (YM.T (by first | assumption | omega)) (fun y43 hy42 => ?_)
     refine Tm.ite (fun h44 => ?_) (fun h44 => ?_)
     ·try simp only [bz0, bz1, bz2, bz3, bz4, bz5, bz6, bz7, bz8, bz9, bza] at h44
      exact Tm.ret (by trivial)
     ·try simp only [bz0, bz1, bz2, bz3, bz4, bz5, bz6, bz7, bz8, bz9, bza] at h44
      exact Tm.ret (by trivial)
    ·try simp only [bz0, bz1, bz2, bz3, bz4, bz5, bz6, bz7, bz8, bz9, bza] at h41
     exact Tm.ret (by trivial)
   ·try simp only [bz0, bz1, bz2, bz3, bz4, bz5, bz6, bz7, bz8, bz9, bza] at h37
    exact Tm.ret (by trivial)
noncomputable def Yz.v (aC : Int) (aD aF aG : LD) : Bool := (Yz.t big aC aD aF aG).getD default
theorem Yz.tv {aC : Int} {aD aF aG : LD} (ga0_1 : Zi YaC lim aD) (ga0_2 : Zi RS lim aF) (ga0_3 : Zi RSI lim aG) {k : Nat} (hk : Z3 k) : Yz.t k aC aD aF aG = some (Yz.v aC aD aF aG) := (Yz.T ga0_1 ga0_2 ga0_3).val hk
theorem Yz.fv {aC : Int} {aD aF aG : LD} (ga0_1 : Zi YaC lim aD) (ga0_2 : Zi RS lim aF) (ga0_3 : Zi RSI lim aG) {k : Nat} (hk : Z3 k) {β : Type} (K : Bool → Option β) : Yz.f k aC aD aF aG K = K (Yz.v aC aD aF aG) := Yz.f_of (Yz.tv ga0_1 ga0_2 ga0_3 hk) K
theorem YF.f_of {β : Type} {k a0 z0} (h : YF.t k a0 = some z0) (K : Bool → Option β) : YF.f k a0 K = K z0 := by unfold YF.f; rw [h]; rfl
theorem YF.tm {ι α : Type} {ok : ι → Prop} {ψ : α → Prop} {p : ι → Nat} {B : Nat} (hp : ∀ i, ok i → B ≤ p i) {a0 φ} (h : Tm (fun k => B ≤ k) (fun k => YF.t k a0) φ) {G : ι → Bool → Option α} (hG : ∀ z0, φ z0 → Tm ok (fun i => G i z0) ψ) : Tm ok (fun i => YF.f (p i) a0 (G i)) ψ := ZK (t := fun k => YF.t k a0) hp h hG
set_option maxRecDepth 100000 in
theorem YF.T {a0 : LD} (ga0 : Zi RSS lim a0) : Tm Z3 (fun k => YF.t k a0) (fun _ => True) := by
 unfold YF.t YF.g
 have hm := Zy
 have hlim : lim = 1048576 := rfl
 have la0 := ga0.1
 refine Tm.loop (okk := Z3) (p := fun k => k) (fun i hi => hi) (b := fun k => YF.l0 k a0 (fun z0 => some z0)) (fun i => (((a0.length : Int)) - i).toNat) (fun i => 0 ≤ i ∧ i ≤ (a0.length : Int)) ?_ ?_ ?_
 ·rintro i hI
  try simp only [] at hI ⊢
  have : big = 2 ^ 64 := rfl
  omega
 ·((try simp only []); omega)
 ·rintro i hI L hL
  try simp only [] at hI
  obtain ⟨i0, i1⟩ := hI
  simp only [YF.l0, atR, rdQ, Q.ask]
  refine Tm.ite (fun h1 => ?_) (fun h1 => ?_)
  ·try simp only [bz0, bz1, bz2, bz3, bz4, bz5, bz6, bz7, bz8, bz9, bza] at h1
   refine Tm.atRow (by first | assumption | omega) (by first | assumption | omega) (fun x2 hx3 hm4 => ?_)
   obtain ⟨c5, c6, rfl, g7, g8, _⟩ := (ga0.2 x2 hm4).open
   refine Tm.uncons ?_
   refine Tm.dStr ?_
   refine Tm.uncons ?_
   refine Tm.dStr ?_
   refine Tm.atEnd ?_
   refine Yn.tm (fun i hi => hi.1) (Yn.T (by first | assumption | omega)) (fun y10 hy9 => ?_)
   refine Tm.ite (fun h11 => ?_) (fun h11 => ?_)
   ·try simp only [bz0, bz1, bz2, bz3, bz4, bz5, bz6, bz7, bz8, bz9, bza] at h11
    exact Tm.ret (by trivial)
   ·try simp only [bz0, bz1, bz2, bz3, bz4, bz5, bz6, bz7, bz8, bz9, bza] at h11
    refine Tm.atRow (by first | assumption | omega) (by first | assumption | omega) (fun x12 hx13 hm14 => ?_)
    rw [hx3] at hx13
    injection hx13 with hx13
    subst hx13
    refine Tm.uncons ?_
    refine Tm.dStr ?_
    refine Tm.uncons ?_
    refine Tm.dStr ?_
    refine Tm.atEnd ?_
    refine Yn.tm (fun i hi => hi.1) (Yn.T (by first | assumption | omega)) (fun y18 hy17 => ?_)
    refine Tm.ite (fun h19 => ?_) (fun h19 => ?_)
    ·try simp only [bz0, bz1, bz2, bz3, bz4, bz5, bz6, bz7, bz8, bz9, bza] at h19
     exact Tm.ret (by trivial)
    ·try simp only [bz0, bz1, bz2, bz3, bz4, bz5, bz6, bz7, bz8, bz9, bza] at h19
     refine Tm.ite (fun h20 => ?_) (fun h20 => ?_)
     ·try simp only [bz0, bz1, bz2, bz3, bz4, bz5, bz6, bz7, bz8, bz9, bza] at h20
      try rw [Zj (x := i - 1) (by omega) (by omega)]
      refine Tm.atRow (by first | assumption | omega) (by first | assumption | omega) (fun x21 hx22 hm23 => ?_)
      obtain ⟨c24, c25, rfl, g26, g27, _⟩ := (ga0.2 x21 hm23).open
      refine Tm.uncons ?_
      refine Tm.dStr ?_
      refine Tm.uncons ?_
      refine Tm.dStr ?_
      refine Tm.atEnd ?_
      refine Tm.atRow (by first | assumption | omega) (by first | assumption | omega) (fun x28 hx29 hm30 => ?_)
      rw [hx3] at hx29
      injection hx29 with hx29
      subst hx29
      refine Tm.uncons ?_
      refine Tm.dStr ?_
      refine Tm.uncons ?_
      refine Tm.dStr ?_
      refine Tm.atEnd ?_
      refine Tm.ite (fun h33 => ?_) (fun h33 => ?_)
      ·try simp only [bz0, bz1, bz2, bz3, bz4, bz5, bz6, bz7, bz8, bz9, bza] at h33
       exact Tm.ret (by trivial)
      ·try simp only [bz0, bz1, bz2, bz3, bz4, bz5, bz6, bz7, bz8, bz9, bza] at h33
       try rw [Zj (x := i + 1) (by omega) (by omega)]
       exact hL _ (by (try simp only []); omega) (by (try simp only []); omega)
     ·try simp only [bz0, bz1, bz2, bz3, bz4, bz5, bz6, bz7, bz8, bz9, bza] at h20
      try rw [Zj (x := i + 1) (by omega) (by omega)]
      exact hL _ (by (try simp only []); omega) (by (try simp only []); omega)
  ·try simp only [bz0, bz1, bz2, bz3, bz4, bz5, bz6, bz7, bz8, bz9, bza] at h1
   exact Tm.ret (by trivial)
noncomputable def YF.v (a0 : LD) : Bool := (YF.t big a0).getD default
theorem YF.tv {a0 : LD} (ga0 : Zi RSS lim a0) {k : Nat} (hk : Z3 k) : YF.t k a0 = some (YF.v a0) := (YF.T ga0).val hk
theorem YF.fv {a0 : LD} (ga0 : Zi RSS lim a0) {k : Nat} (hk : Z3 k) {β : Type} (K : Bool → Option β) : YF.f k a0 K = K (YF.v a0) := YF.f_of (YF.tv ga0 hk) K
theorem YO.f_of {β : Type} {k aC aD aF aG z0} (h : YO.t k aC aD aF aG = some z0) (K : Bool → Option β) : YO.f k aC aD aF aG K = K z0 := by unfold YO.f; rw [h]; rfl
theorem YO.tm {ι α : Type} {ok : ι → Prop} {ψ : α → Prop} {p : ι → Nat} {B : Nat} (hp : ∀ i, ok i → B ≤ p i) {aC aD aF aG φ} (h : Tm (fun k => B ≤ k) (fun k => YO.t k aC aD aF aG) φ) {G : ι → Bool → Option α} (hG : ∀ z0, φ z0 → Tm ok (fun i => G i z0) ψ) : Tm ok (fun i => YO.f (p i) aC aD aF aG (G i)) ψ := ZK (t := fun k => YO.t k aC aD aF aG) hp h hG
theorem YO.T {aC : BA} {aD aF : LD} {aG : Int} (ga0_0 : aC.size ≤ lim) (ga0_1 : Zi RSS lim aD) (ga0_2 : Zi RS lim aF) : Tm Z3 (fun k => YO.t k aC aD aF aG) (fun _ => True) := by
 unfold YO.t YO.g
 have hm := Zy
 have hlim : lim = 1048576 := rfl
 have la0_1 := ga0_1.1
 have la0_2 := ga0_2.1
 refine Yn.tm (fun i hi => hi) (Yn.T (by first | assumption | omega)) (fun y2 hy1 => ?_)
 refine Tm.ite (fun h3 => ?_) (fun h3 => ?_)
 ·try simp only [bz0, bz1, bz2, bz3, bz4, bz5, bz6, bz7, bz8, bz9, bza] at h3
  refine YF.tm (fun i hi => hi) (YF.T (by first | assumption | omega)) (fun y5 hy4 => ?_)
  refine Tm.ite (fun h6 => ?_) (fun h6 => ?_)
  ·try simp only [bz0, bz1, bz2, bz3, bz4, bz5, bz6, bz7, bz8, bz9, bza] at h6
   refine YM.tm (fun i hi => hi) (YM.T (by first | assumption | omega)) (fun y8 hy7 => ?_)
   refine Tm.ite (fun h9 => ?_) (fun h9 => ?_)
   ·try simp only [bz0, bz1, bz2, bz3, bz4, bz5, bz6, bz7, bz8, bz9, bza] at h9
    refine Yaj.tm (fun i hi => hi) (Yaj.T) (fun y11 hy10 => ?_)
    exact Tm.ret (by trivial)
   ·try simp only [bz0, bz1, bz2, bz3, bz4, bz5, bz6, bz7, bz8, bz9, bza] at h9
    exact Tm.ret (by trivial)
  ·try simp only [bz0, bz1, bz2, bz3, bz4, bz5, bz6, bz7, bz8, bz9, bza] at h6
   exact Tm.ret (by trivial)
 ·try simp only [bz0, bz1, bz2, bz3, bz4, bz5, bz6, bz7, bz8, bz9, bza] at h3
  exact Tm.ret (by trivial)
noncomputable def YO.v (aC : BA) (aD aF : LD) (aG : Int) : Bool := (YO.t big aC aD aF aG).getD default
theorem YO.tv {aC : BA} {aD aF : LD} {aG : Int} (ga0_0 : aC.size ≤ lim) (ga0_1 : Zi RSS lim aD) (ga0_2 : Zi RS lim aF) {k : Nat} (hk : Z3 k) : YO.t k aC aD aF aG = some (YO.v aC aD aF aG) := (YO.T ga0_0 ga0_1 ga0_2).val hk
theorem YO.fv {aC : BA} {aD aF : LD} {aG : Int} (ga0_0 : aC.size ≤ lim) (ga0_1 : Zi RSS lim aD) (ga0_2 : Zi RS lim aF) {k : Nat} (hk : Z3 k) {β : Type} (K : Bool → Option β) : YO.f k aC aD aF aG K = K (YO.v aC aD aF aG) := YO.f_of (YO.tv ga0_0 ga0_1 ga0_2 hk) K
theorem Yx.f_of {β : Type} {k a0 a1 z0 z1} (h : Yx.t k a0 a1 = some (z0, z1)) (K : BA → Bool → Option β) : Yx.f k a0 a1 K = K z0 z1 := by unfold Yx.f; rw [h]; rfl
theorem Yx.tm {ι α : Type} {ok : ι → Prop} {ψ : α → Prop} {p : ι → Nat} {B : Nat} (hp : ∀ i, ok i → B ≤ p i) {a0 a1 φ} (h : Tm (fun k => B ≤ k) (fun k => Yx.t k a0 a1) φ) {G : ι → BA → Bool → Option α} (hG : ∀ z0 z1, φ (z0, z1) → Tm ok (fun i => G i z0 z1) ψ) : Tm ok (fun i => Yx.f (p i) a0 a1 (G i)) ψ := bd2_tm (t := fun k => Yx.t k a0 a1) hp h hG
set_option maxRecDepth 100000 in
theorem Yx.T {a0 : LD} {a1 : BA} (ga0 : Zi RSS lim a0) (ga1 : a1.size ≤ lim) : Tm Z3 (fun k => Yx.t k a0 a1) (fun z => z.1.size ≤ lim) := by
 unfold Yx.t Yx.g
 have hm := Zy
 have hlim : lim = 1048576 := rfl
 have la0 := ga0.1
 refine Tm.loop (okk := Z3) (p := fun k => k) (fun i hi => hi) (b := fun k => Yx.l0 k a0 a1 (fun z0 z1 => some (z0, z1))) (fun i => (((a0.length : Int)) - i).toNat) (fun i => 0 ≤ i ∧ i ≤ (a0.length : Int)) ?_ ?_ ?_
 ·rintro i hI
  try simp only [] at hI ⊢
  have : big = 2 ^ 64 := rfl
  omega
 ·((try simp only []); omega)
 ·rintro i hI L hL
  try simp only [] at hI
  obtain ⟨i0, i1⟩ := hI
  simp only [Yx.l0, atR, rdQ, Q.ask]
  refine Tm.ite (fun h1 => ?_) (fun h1 => ?_)
  ·try simp only [bz0, bz1, bz2, bz3, bz4, bz5, bz6, bz7, bz8, bz9, bza] at h1
   refine Tm.atRow (by first | assumption | omega) (by first | assumption | omega) (fun x2 hx3 hm4 => ?_)
   obtain ⟨c5, c6, rfl, g7, g8, _⟩ := (ga0.2 x2 hm4).open
   refine Tm.uncons ?_
   refine Tm.dStr ?_
   refine Tm.uncons ?_
   refine Tm.dStr ?_
   refine Tm.atEnd ?_
   refine Tm.ite (fun h9 => ?_) (fun h9 => ?_)
   ·try simp only [bz0, bz1, bz2, bz3, bz4, bz5, bz6, bz7, bz8, bz9, bza] at h9
    refine Tm.atRow (by first | assumption | omega) (by first | assumption | omega) (fun x10 hx11 hm12 => ?_)
    rw [hx3] at hx11
    injection hx11 with hx11
    subst hx11
    refine Tm.uncons ?_
    refine Tm.dStr ?_
    refine Tm.uncons ?_
    refine Tm.dStr ?_
    refine Tm.atEnd ?_
    exact Tm.ret (by first | assumption | (simp only [lim]; decide))
   ·try simp only [bz0, bz1, bz2, bz3, bz4, bz5, bz6, bz7, bz8, bz9, bza] at h9
    try rw [Zj (x := i + 1) (by omega) (by omega)]
    exact hL _ (by (try simp only []); omega) (by (try simp only []); omega)
  ·try simp only [bz0, bz1, bz2, bz3, bz4, bz5, bz6, bz7, bz8, bz9, bza] at h1
   exact Tm.ret (by first | assumption | (simp only [lim]; decide))
noncomputable def Yx.v (a0 : LD) (a1 : BA) : BA × Bool := (Yx.t big a0 a1).getD default
theorem Yx.tv {a0 : LD} {a1 : BA} (ga0 : Zi RSS lim a0) (ga1 : a1.size ≤ lim) {k : Nat} (hk : Z3 k) : Yx.t k a0 a1 = some (Yx.v a0 a1) := (Yx.T ga0 ga1).val hk
theorem Yx.fv {a0 : LD} {a1 : BA} (ga0 : Zi RSS lim a0) (ga1 : a1.size ≤ lim) {k : Nat} (hk : Z3 k) {β : Type} (K : BA → Bool → Option β) : Yx.f k a0 a1 K = K ((Yx.v a0 a1).1) ((Yx.v a0 a1).2) := Yx.f_of (Yx.tv ga0 ga1 hk) K
theorem YL.f_of {β : Type} {k a0 a1 z0} (h : YL.t k a0 a1 = some z0) (K : Bool → Option β) : YL.f k a0 a1 K = K z0 := by unfold YL.f; rw [h]; rfl
theorem YL.tm {ι α : Type} {ok : ι → Prop} {ψ : α → Prop} {p : ι → Nat} {B : Nat} (hp : ∀ i, ok i → B ≤ p i) {a0 a1 φ} (h : Tm (fun k => B ≤ k) (fun k => YL.t k a0 a1) φ) {G : ι → Bool → Option α} (hG : ∀ z0, φ z0 → Tm ok (fun i => G i z0) ψ) : Tm ok (fun i => YL.f (p i) a0 a1 (G i)) ψ := ZK (t := fun k => YL.t k a0 a1) hp h hG
set_option maxRecDepth 100000 in
theorem YL.T {a0 : LD} {a1 : BA} (ga0 : Zi RS lim a0) (ga1 : a1.size ≤ lim) : Tm Z3 (fun k => YL.t k a0 a1) (fun _ => True) := by
 unfold YL.t YL.g
 have hm := Zy
 have hlim : lim = 1048576 := rfl
 have la0 := ga0.1
 refine Tm.loop (okk := Z3) (p := fun k => k) (fun i hi => hi) (b := fun k => YL.l0 k a0 a1 (fun z0 => some z0)) (fun i => (((a0.length : Int)) - i).toNat) (fun i => 0 ≤ i ∧ i ≤ (a0.length : Int)) ?_ ?_ ?_
 ·rintro i hI
  try simp only [] at hI ⊢
  have : big = 2 ^ 64 := rfl
  omega
 ·((try simp only []); omega)
 ·rintro i hI L hL
  try simp only [] at hI
  obtain ⟨i0, i1⟩ := hI
  simp only [YL.l0, atR, rdQ, Q.ask]
  refine Tm.ite (fun h1 => ?_) (fun h1 => ?_)
  ·try simp only [bz0, bz1, bz2, bz3, bz4, bz5, bz6, bz7, bz8, bz9, bza] at h1
   refine Tm.atRow (by first | assumption | omega) (by first | assumption | omega) (fun x2 hx3 hm4 => ?_)
   obtain ⟨c5, rfl, g6, _⟩ := (ga0.2 x2 hm4).open
   refine Tm.uncons ?_
   refine Tm.dStr ?_
   refine Tm.atEnd ?_
   refine Tm.ite (fun h7 => ?_) (fun h7 => ?_)
   ·try simp only [bz0, bz1, bz2, bz3, bz4, bz5, bz6, bz7, bz8, bz9, bza] at h7
    exact Tm.ret (by trivial)
   ·try simp only [bz0, bz1, bz2, bz3, bz4, bz5, bz6, bz7, bz8, bz9, bza] at h7
    try rw [Zj (x := i + 1) (by omega) (by omega)]
    exact hL _ (by (try simp only []); omega) (by (try simp only []); omega)
  ·try simp only [bz0, bz1, bz2, bz3, bz4, bz5, bz6, bz7, bz8, bz9, bza] at h1
   exact Tm.ret (by trivial)
theorem Yaz.f_of {β : Type} {k aC aD aF a1 a2 z0} (h : Yaz.t k aC aD aF a1 a2 = some z0) (K : Bool → Option β) : Yaz.f k aC aD aF a1 a2 K = K z0 := by unfold Yaz.f; rw [h]; rfl
theorem Yaz.tm {ι α : Type} {ok : ι → Prop} {ψ : α → Prop} {p : ι → Nat} {B : Nat} (hp : ∀ i, ok i → B ≤ p i) {aC aD aF a1 a2 φ} (h : Tm (fun k => B ≤ k) (fun k => Yaz.t k aC aD aF a1 a2) φ) {G : ι → Bool → Option α} (hG : ∀ z0, φ z0 → Tm ok (fun i => G i z0) ψ) : Tm ok (fun i => Yaz.f (p i) aC aD aF a1 a2 (G i)) ψ := ZK (t := fun k => Yaz.t k aC aD aF a1 a2) hp h hG
theorem Yaz.T {aC : Int} {aD : BA} {aF : LD} {a1 : BA} {a2 : Bool} (ga0_1 : aD.size ≤ lim) (ga0_2 : Zi RS lim aF) (ga1 : a1.size ≤ lim) : Tm Z3 (fun k => Yaz.t k aC aD aF a1 a2) (fun _ => True) := by
 unfold Yaz.t Yaz.g
 have hm := Zy
 have hlim : lim = 1048576 := rfl
 have la0_2 := ga0_2.1
 refine Tm.ite (fun h1 => ?_) (fun h1 => ?_)
 ·try simp only [bz0, bz1, bz2, bz3, bz4, bz5, bz6, bz7, bz8, bz9, bza] at h1
  refine Tm.ite (fun h2 => ?_) (fun h2 => ?_)
  ·try simp only [bz0, bz1, bz2, bz3, bz4, bz5, bz6, bz7, bz8, bz9, bza] at h2
   refine Tm.ite (fun h3 => ?_) (fun h3 => ?_)
   ·try simp only [bz0, bz1, bz2, bz3, bz4, bz5, bz6, bz7, bz8, bz9, bza] at h3
    refine YL.tm (fun i hi => hi) (YL.T (by first | assumption | omega) (by first | assumption | omega)) (fun y5 hy4 => ?_)
    exact Tm.ret (by trivial)
   ·try simp only [bz0, bz1, bz2, bz3, bz4, bz5, bz6, bz7, bz8, bz9, bza] at h3
    exact Tm.ret (by trivial)
  ·try simp only [bz0, bz1, bz2, bz3, bz4, bz5, bz6, bz7, bz8, bz9, bza] at h2
   refine Tm.ite (fun h6 => ?_) (fun h6 => ?_)
   ·try simp only [bz0, bz1, bz2, bz3, bz4, bz5, bz6, bz7, bz8, bz9, bza] at h6
    refine Tm.ite (fun h7 => ?_) (fun h7 => ?_)
    ·try simp only [bz0, bz1, bz2, bz3, bz4, bz5, bz6, bz7, bz8, bz9, bza] at h7
     exact Tm.ret (by trivial)
    ·try simp only [bz0, bz1, bz2, bz3, bz4, bz5, bz6, bz7, bz8, bz9, bza] at h7
     refine YL.tm (fun i hi => hi) (YL.T (by first | assumption | omega) (by first | assumption | omega)) (fun y9 hy8 => ?_)
     exact Tm.ret (by trivial)
   ·try simp only [bz0, bz1, bz2, bz3, bz4, bz5, bz6, bz7, bz8, bz9, bza] at h6
    refine Tm.ite (fun h10 => ?_) (fun h10 => ?_)
    ·try simp only [bz0, bz1, bz2, bz3, bz4, bz5, bz6, bz7, bz8, bz9, bza] at h10
     exact Tm.ret (by trivial)
    ·try simp only [bz0, bz1, bz2, bz3, bz4, bz5, bz6, bz7, bz8, bz9, bza] at h10
     exact Tm.ret (by trivial)
 ·try simp only [bz0, bz1, bz2, bz3, bz4, bz5, bz6, bz7, bz8, bz9, bza] at h1
  refine Tm.ite (fun h11 => ?_) (fun h11 => ?_)
  ·try simp only [bz0, bz1, bz2, bz3, bz4, bz5, bz6, bz7, bz8, bz9, bza] at h11
   refine Tm.ite (fun h12 => ?_) (fun h12 => ?_)
   ·try simp only [bz0, bz1, bz2, bz3, bz4, bz5, bz6, bz7, bz8, bz9, bza] at h12
    refine YL.tm (fun i hi => hi) (YL.T (by first | assumption | omega) (by first | assumption | omega)) (fun y14 hy13 => ?_)
    exact Tm.ret (by trivial)
   ·try simp only [bz0, bz1, bz2, bz3, bz4, bz5, bz6, bz7, bz8, bz9, bza] at h12
    exact Tm.ret (by trivial)
  ·try simp only [bz0, bz1, bz2, bz3, bz4, bz5, bz6, bz7, bz8, bz9, bza] at h11
   refine Tm.ite (fun h15 => ?_) (fun h15 => ?_)
   ·try simp only [bz0, bz1, bz2, bz3, bz4, bz5, bz6, bz7, bz8, bz9, bza] at h15
    refine Tm.ite (fun h16 => ?_) (fun h16 => ?_)
    ·try simp only [bz0, bz1, bz2, bz3, bz4, bz5, bz6, bz7, bz8, bz9, bza] at h16
     exact Tm.ret (by trivial)
    ·try simp only [bz0, bz1, bz2, bz3, bz4, bz5, bz6, bz7, bz8, bz9, bza] at h16
     refine YL.tm (fun i hi => hi) (YL.T (by first | assumption | omega) (by first | assumption | omega)) (fun y18 hy17 => ?_)
     exact Tm.ret (by trivial)
   ·try simp only [bz0, bz1, bz2, bz3, bz4, bz5, bz6, bz7, bz8, bz9, bza] at h15
    refine Tm.ite (fun h19 => ?_) (fun h19 => ?_)
    ·try simp only [bz0, bz1, bz2, bz3, bz4, bz5, bz6, bz7, bz8, bz9, bza] at h19
     exact Tm.ret (by trivial)
    ·try simp only [bz0, bz1, bz2, bz3, bz4, bz5, bz6, bz7, bz8, bz9, bza] at h19
     exact Tm.ret (by trivial)
theorem YK.f_of {β : Type} {k a0 a1 z0} (h : YK.t k a0 a1 = some z0) (K : Bool → Option β) : YK.f k a0 a1 K = K z0 := by unfold YK.f; rw [h]; rfl
theorem YK.tm {ι α : Type} {ok : ι → Prop} {ψ : α → Prop} {p : ι → Nat} {B : Nat} (hp : ∀ i, ok i → B ≤ p i) {a0 a1 φ} (h : Tm (fun k => B ≤ k) (fun k => YK.t k a0 a1) φ) {G : ι → Bool → Option α} (hG : ∀ z0, φ z0 → Tm ok (fun i => G i z0) ψ) : Tm ok (fun i => YK.f (p i) a0 a1 (G i)) ψ := ZK (t := fun k => YK.t k a0 a1) hp h hG
set_option maxRecDepth 100000 in
theorem YK.T {a0 a1 : LD} (ga0 : Zi YaC lim a0) (ga1 : Zi RSS lim a1) : Tm Z3 (fun k => YK.t k a0 a1) (fun _ => True) := by
 unfold YK.t YK.g
 have hm := Zy
 have hlim : lim = 1048576 := rfl
 have la0 := ga0.1
 have la1 := ga1.1
 refine Yr.tm (fun i hi => hi) (Yr.T (by first | assumption | omega)) (fun y2 hy1 => ?_)
 refine Tm.ite (fun h3 => ?_) (fun h3 => ?_)
 ·try simp only [bz0, bz1, bz2, bz3, bz4, bz5, bz6, bz7, bz8, bz9, bza] at h3
  exact Tm.ret (by trivial)
 ·try simp only [bz0, bz1, bz2, bz3, bz4, bz5, bz6, bz7, bz8, bz9, bza] at h3
  refine YF.tm (fun i hi => hi) (YF.T (by first | assumption | omega)) (fun y5 hy4 => ?_)
  refine Tm.ite (fun h6 => ?_) (fun h6 => ?_)
  ·try simp only [bz0, bz1, bz2, bz3, bz4, bz5, bz6, bz7, bz8, bz9, bza] at h6
   exact Tm.ret (by trivial)
  ·try simp only [bz0, bz1, bz2, bz3, bz4, bz5, bz6, bz7, bz8, bz9, bza] at h6
   refine Tm.loop (okk := Z3) (p := fun k => k) (fun i hi => hi) (b := fun k => YK.l0 k a0 a1 (fun z0 => some z0)) (fun i => (((a0.length : Int)) - i).toNat) (fun i => 0 ≤ i ∧ i ≤ (a0.length : Int)) ?_ ?_ ?_
   ·rintro i hI
    try simp only [] at hI ⊢
    have : big = 2 ^ 64 := rfl
    omega
   ·((try simp only []); omega)
   ·rintro i hI L hL
    try simp only [] at hI
    obtain ⟨i0, i1⟩ := hI
    simp only [YK.l0, atR, rdQ, Q.ask]
    refine Tm.ite (fun h7 => ?_) (fun h7 => ?_)
    ·try simp only [bz0, bz1, bz2, bz3, bz4, bz5, bz6, bz7, bz8, bz9, bza] at h7
     refine Tm.atRow (by first | assumption | omega) (by first | assumption | omega) (fun x8 hx9 hm10 => ?_)
     obtain ⟨c11, c12, c13, rfl, g14, g15, g16, _⟩ := (ga0.2 x8 hm10).open
     refine Tm.uncons ?_
     refine Tm.dInt ?_
     refine Tm.uncons ?_
     refine Tm.dStr ?_
     refine Tm.uncons ?_
     refine Tm.dSl ?_
     refine Tm.atEnd ?_
     refine Yx.tm (fun i hi => hi.1) (Yx.T (by first | assumption | omega) (by first | assumption | omega)) (fun y18 y19 hy17 => ?_)
     try simp only [] at hy17
     refine Tm.atRow (by first | assumption | omega) (by first | assumption | omega) (fun x20 hx21 hm22 => ?_)
     rw [hx9] at hx21
     injection hx21 with hx21
     subst hx21
     refine Tm.uncons ?_
     refine Tm.dInt ?_
     refine Tm.uncons ?_
     refine Tm.dStr ?_
     refine Tm.uncons ?_
     refine Tm.dSl ?_
     refine Tm.atEnd ?_
     refine Yaz.tm (fun i hi => hi.1) (Yaz.T (by first | assumption | omega) (by first | assumption | omega) (by first | assumption | omega)) (fun y27 hy26 => ?_)
     refine Tm.ite (fun h28 => ?_) (fun h28 => ?_)
     ·try simp only [bz0, bz1, bz2, bz3, bz4, bz5, bz6, bz7, bz8, bz9, bza] at h28
      exact Tm.ret (by trivial)
     ·try simp only [bz0, bz1, bz2, bz3, bz4, bz5, bz6, bz7, bz8, bz9, bza] at h28
      try rw [Zj (x := i + 1) (by omega) (by omega)]
      exact hL _ (by (try simp only []); omega) (by (try simp only []); omega)
    ·try simp only [bz0, bz1, bz2, bz3, bz4, bz5, bz6, bz7, bz8, bz9, bza] at h7
     exact Tm.ret (by trivial)
noncomputable def YK.v (a0 a1 : LD) : Bool := (YK.t big a0 a1).getD default
theorem YK.tv {a0 a1 : LD} (ga0 : Zi YaC lim a0) (ga1 : Zi RSS lim a1) {k : Nat} (hk : Z3 k) : YK.t k a0 a1 = some (YK.v a0 a1) := (YK.T ga0 ga1).val hk
theorem YK.fv {a0 a1 : LD} (ga0 : Zi YaC lim a0) (ga1 : Zi RSS lim a1) {k : Nat} (hk : Z3 k) {β : Type} (K : Bool → Option β) : YK.f k a0 a1 K = K (YK.v a0 a1) := YK.f_of (YK.tv ga0 ga1 hk) K
theorem YH.f_of {β : Type} {k aC aD aF aG aX aW aZ bE z0} (h : YH.t k aC aD aF aG aX aW aZ bE = some z0) (K : Bool → Option β) : YH.f k aC aD aF aG aX aW aZ bE K = K z0 := by unfold YH.f; rw [h]; rfl
set_option maxRecDepth 100000 in
theorem YH.T {aC : Int} {aD aF aG : LD} {aX : BA} {aW aZ : LD} {bE : Int} (ga0_1 : Zi YaC lim aD) (ga0_2 : Zi RS lim aF) (ga0_3 : Zi RSI lim aG) (ga1_0 : aX.size ≤ lim) (ga1_1 : Zi RSS lim aW) (ga1_2 : Zi RS lim aZ) : Tm Z3 (fun k => YH.t k aC aD aF aG aX aW aZ bE) (fun _ => True) := by
 unfold YH.t YH.g YH.m
 have hm := Zy
 have hlim : lim = 1048576 := rfl
 have la0_1 := ga0_1.1
 have la0_2 := ga0_2.1
 have la0_3 := ga0_3.1
 have la1_1 := ga1_1.1
 have la1_2 := ga1_2.1
 refine Yz.tm (fun i hi => hi) (Yz.T (by first | assumption | omega) (by first | assumption | omega) (by first | assumption | omega)) (fun y2 hy1 => ?_)
 refine Tm.ite (fun h3 => ?_) (fun h3 => ?_)
 ·try simp only [bz0, bz1, bz2, bz3, bz4, bz5, bz6, bz7, bz8, bz9, bza] at h3
  exact Tm.ret (by trivial)
 ·try simp only [bz0, bz1, bz2, bz3, bz4, bz5, bz6, bz7, bz8, bz9, bza] at h3
  refine YO.tm (fun i hi => hi) (YO.T (by first | assumption | omega) (by first | assumption | omega) (by first | assumption | omega)) (fun y5 hy4 => ?_)
  refine Tm.ite (fun h6 => ?_) (fun h6 => ?_)
  ·try simp only [bz0, bz1, bz2, bz3, bz4, bz5, bz6, bz7, bz8, bz9, bza] at h6
   exact Tm.ret (by trivial)
  ·try simp only [bz0, bz1, bz2, bz3, bz4, bz5, bz6, bz7, bz8, bz9, bza] at h6
   refine YK.tm (fun i hi => hi) (YK.T (by first | assumption | omega) (by first | assumption | omega)) (fun y8 hy7 => ?_)
   refine Tm.ite (fun h9 => ?_) (fun h9 => ?_)
   ·try simp only [bz0, bz1, bz2, bz3, bz4, bz5, bz6, bz7, bz8, bz9, bza] at h9
    exact Tm.ret (by trivial)
   ·try simp only [bz0, bz1, bz2, bz3, bz4, bz5, bz6, bz7, bz8, bz9, bza] at h9
    refine Tm.loop (okk := Z3) (p := fun k => k) (fun i hi => hi) (b := fun k => YH.l0 k aC aD aF aG aX aW aZ bE (fun z0 => some z0)) (fun i => (((aZ.length : Int)) - i).toNat) (fun i => 0 ≤ i ∧ i ≤ (aZ.length : Int)) ?_ ?_ ?_
    ·rintro i hI
     try simp only [] at hI ⊢
     have : big = 2 ^ 64 := rfl
     omega
    ·((try simp only []); omega)
    ·rintro i hI L hL
     try simp only [] at hI
     obtain ⟨i0, i1⟩ := hI
     simp only [YH.l0, atR, rdQ, Q.ask]
     refine Tm.ite (fun h10 => ?_) (fun h10 => ?_)
     ·try simp only [bz0, bz1, bz2, bz3, bz4, bz5, bz6, bz7, bz8, bz9, bza] at h10
      refine Tm.atRow (by first | assumption | omega) (by first | assumption | omega) (fun x11 hx12 hm13 => ?_)
      obtain ⟨c14, rfl, g15, _⟩ := (ga1_2.2 x11 hm13).open
      refine Tm.uncons ?_
      refine Tm.dStr ?_
      refine Tm.atEnd ?_
      refine YL.tm (fun i hi => hi.1) (YL.T (by first | assumption | omega) (by first | assumption | omega)) (fun y17 hy16 => ?_)
      refine Tm.ite (fun h18 => ?_) (fun h18 => ?_)
      ·try simp only [bz0, bz1, bz2, bz3, bz4, bz5, bz6, bz7, bz8, bz9, bza] at h18
       exact Tm.ret (by trivial)
      ·try simp only [bz0, bz1, bz2, bz3, bz4, bz5, bz6, bz7, bz8, bz9, bza] at h18
       try rw [Zj (x := i + 1) (by omega) (by omega)]
       exact hL _ (by (try simp only []); omega) (by (try simp only []); omega)
     ·try simp only [bz0, bz1, bz2, bz3, bz4, bz5, bz6, bz7, bz8, bz9, bza] at h10
      exact Tm.ret (by trivial)
noncomputable def YH.v (aC : Int) (aD aF aG : LD) (aX : BA) (aW aZ : LD) (bE : Int) : Bool := (YH.t big aC aD aF aG aX aW aZ bE).getD default
theorem YH.tv {aC : Int} {aD aF aG : LD} {aX : BA} {aW aZ : LD} {bE : Int} (ga0_1 : Zi YaC lim aD) (ga0_2 : Zi RS lim aF) (ga0_3 : Zi RSI lim aG) (ga1_0 : aX.size ≤ lim) (ga1_1 : Zi RSS lim aW) (ga1_2 : Zi RS lim aZ) {k : Nat} (hk : Z3 k) : YH.t k aC aD aF aG aX aW aZ bE = some (YH.v aC aD aF aG aX aW aZ bE) := (YH.T ga0_1 ga0_2 ga0_3 ga1_0 ga1_1 ga1_2).val hk
theorem YH.fv {aC : Int} {aD aF aG : LD} {aX : BA} {aW aZ : LD} {bE : Int} (ga0_1 : Zi YaC lim aD) (ga0_2 : Zi RS lim aF) (ga0_3 : Zi RSI lim aG) (ga1_0 : aX.size ≤ lim) (ga1_1 : Zi RSS lim aW) (ga1_2 : Zi RS lim aZ) {k : Nat} (hk : Z3 k) {β : Type} (K : Bool → Option β) : YH.f k aC aD aF aG aX aW aZ bE K = K (YH.v aC aD aF aG aX aW aZ bE) := YH.f_of (YH.tv ga0_1 ga0_2 ga0_3 ga1_0 ga1_1 ga1_2 hk) K
theorem YG.f_of {β : Type} {k aC aD aF aG a1 z0} (h : YG.t k aC aD aF aG a1 = some z0) (K : Int → Option β) : YG.f k aC aD aF aG a1 K = K z0 := by unfold YG.f; rw [h]; rfl
set_option maxRecDepth 100000 in
theorem YG.T {aC : Int} {aD aF aG : LD} {a1 : BA} (ga0_1 : Zi YaC lim aD) (ga0_2 : Zi RS lim aF) (ga0_3 : Zi RSI lim aG) (ga1 : a1.size ≤ lim) : Tm Z3 (fun k => YG.t k aC aD aF aG a1) (fun _ => True) := by
 unfold YG.t YG.g
 have hm := Zy
 have hlim : lim = 1048576 := rfl
 have la0_1 := ga0_1.1
 have la0_2 := ga0_2.1
 have la0_3 := ga0_3.1
 refine Tm.loop (okk := Z3) (p := fun k => k) (fun i hi => hi) (b := fun k => YG.l0 k a1 aC aD aF aG (fun z0 => some z0)) (fun i => (((aG.length : Int)) - i).toNat) (fun i => 0 ≤ i ∧ i ≤ (aG.length : Int)) ?_ ?_ ?_
 ·rintro i hI
  try simp only [] at hI ⊢
  have : big = 2 ^ 64 := rfl
  omega
 ·((try simp only []); omega)
 ·rintro i hI L hL
  try simp only [] at hI
  obtain ⟨i0, i1⟩ := hI
  simp only [YG.l0, atR, rdQ, Q.ask]
  refine Tm.ite (fun h1 => ?_) (fun h1 => ?_)
  ·try simp only [bz0, bz1, bz2, bz3, bz4, bz5, bz6, bz7, bz8, bz9, bza] at h1
   refine Tm.atRow (by first | assumption | omega) (by first | assumption | omega) (fun x2 hx3 hm4 => ?_)
   obtain ⟨c5, c6, rfl, g7, g8, _⟩ := (ga0_3.2 x2 hm4).open
   refine Tm.uncons ?_
   refine Tm.dStr ?_
   refine Tm.uncons ?_
   refine Tm.dInt ?_
   refine Tm.atEnd ?_
   refine Tm.ite (fun h9 => ?_) (fun h9 => ?_)
   ·try simp only [bz0, bz1, bz2, bz3, bz4, bz5, bz6, bz7, bz8, bz9, bza] at h9
    refine Tm.atRow (by first | assumption | omega) (by first | assumption | omega) (fun x10 hx11 hm12 => ?_)
    rw [hx3] at hx11
    injection hx11 with hx11
    subst hx11
    refine Tm.uncons ?_
    refine Tm.dStr ?_
    refine Tm.uncons ?_
    refine Tm.dInt ?_
    refine Tm.atEnd ?_
    exact Tm.ret (by trivial)
   ·try simp only [bz0, bz1, bz2, bz3, bz4, bz5, bz6, bz7, bz8, bz9, bza] at h9
    try rw [Zj (x := i + 1) (by omega) (by omega)]
    exact hL _ (by (try simp only []); omega) (by (try simp only []); omega)
  ·try simp only [bz0, bz1, bz2, bz3, bz4, bz5, bz6, bz7, bz8, bz9, bza] at h1
   exact Tm.ret (by trivial)
noncomputable def YG.v (aC : Int) (aD aF aG : LD) (a1 : BA) : Int := (YG.t big aC aD aF aG a1).getD default
theorem YG.tv {aC : Int} {aD aF aG : LD} {a1 : BA} (ga0_1 : Zi YaC lim aD) (ga0_2 : Zi RS lim aF) (ga0_3 : Zi RSI lim aG) (ga1 : a1.size ≤ lim) {k : Nat} (hk : Z3 k) : YG.t k aC aD aF aG a1 = some (YG.v aC aD aF aG a1) := (YG.T ga0_1 ga0_2 ga0_3 ga1).val hk
theorem YG.fv {aC : Int} {aD aF aG : LD} {a1 : BA} (ga0_1 : Zi YaC lim aD) (ga0_2 : Zi RS lim aF) (ga0_3 : Zi RSI lim aG) (ga1 : a1.size ≤ lim) {k : Nat} (hk : Z3 k) {β : Type} (K : Int → Option β) : YG.f k aC aD aF aG a1 K = K (YG.v aC aD aF aG a1) := YG.f_of (YG.tv ga0_1 ga0_2 ga0_3 ga1 hk) K
theorem Yas.f_of {β : Type} {k a0 a1 a2 z0} (h : Yas.t k a0 a1 a2 = some z0) (K : Bool → Option β) : Yas.f k a0 a1 a2 K = K z0 := by unfold Yas.f; rw [h]; rfl
def RI (B : Nat) (r : List D) : Prop := ∃ (c0 : Int), r = [.int .i64 c0] ∧ (Lit.int .i64 c0).wf = true ∧ True
theorem RI.open {B : Nat} {r : List D} (h : RI B r) : ∃ (c0 : Int), r = [.int .i64 c0] ∧ (Lit.int .i64 c0).wf = true ∧ True := h
theorem RI.mono {B B' : Nat} (hb : B ≤ B') {r : List D} (h : RI B r) : RI B' r := by
 obtain ⟨c0, rfl, k0, _⟩ := h
 exact ⟨_, rfl, k0, trivial⟩
theorem RI.wide {xs : LD} (h : Zi RI lim xs) : Zi RI 2097152 xs := ⟨Nat.le_trans h.1 (by decide), fun r hr => (h.2 r hr).mono (by decide)⟩
theorem RI.len {B : Nat} {r : List D} (h : RI B r) : r.length = 1 := by
 obtain ⟨c0, rfl, _⟩ := h.open
 rfl
theorem RI.flat {B : Nat} {xs : LD} (h : ∀ r ∈ xs, RI B r) : ZaZ 1 xs := fun r hr => by
 obtain ⟨c0, rfl, _⟩ := (h r hr).open
 exact ⟨rfl, by simp [Zau]⟩
theorem RI.wt {B : Nat} {xs : LD} (h : ∀ r ∈ xs, RI B r) : Zp xs = 1 * xs.length := wt_flat (R := RI B) (fun r h => by obtain ⟨c0, rfl, _⟩ := h; rfl) xs h
theorem RI.deep {B : Nat} {xs : LD} (h : ∀ r ∈ xs, RI B r) : Zb xs = xs.map (·.map C.d) := deep_flat (R := RI B) (fun r h => by obtain ⟨c0, rfl, _⟩ := h; rfl) xs h
theorem RI.gets {B : Nat} {xs : LD} (h : ∀ r ∈ xs, RI B r) {v : Int} (h0 : 0 ≤ v) (h1 : v < xs.length) : gR xs v = [.int .i64 (gI xs v 0)] ∧ (Lit.int .i64 (gI xs v 0)).wf = true ∧ True := by
 obtain ⟨c0, e, k0, _⟩ := (h (gR xs v) (gR_mem h0 h1)).open
 unfold gI
 rw [e]
 exact ⟨rfl, k0, trivial⟩
theorem RI.rows {B : Nat} {xs : LD} (h : ∀ r ∈ xs, RI B r) {v : Int} (h0 : 0 ≤ v) (h1 : v < xs.length) {β : Type} (F : List D → Option β) : Zbw xs v F = F [.int .i64 (gI xs v 0)] := by
 rw [← (RI.gets h h0 h1).1]
 exact Zbp h0 h1 F
theorem RI.get {B : Nat} {xs : LD} (h : Zi RI B xs) {v : Int} (h0 : 0 ≤ v) (h1 : v < xs.length) : gR xs v = [.int .i64 (gI xs v 0)] ∧ (Lit.int .i64 (gI xs v 0)).wf = true ∧ True := RI.gets h.2 h0 h1
theorem RI.row {B : Nat} {xs : LD} (h : Zi RI B xs) {v : Int} (h0 : 0 ≤ v) (h1 : v < xs.length) {β : Type} (F : List D → Option β) : Zbw xs v F = F [.int .i64 (gI xs v 0)] := RI.rows h.2 h0 h1 F
theorem Ys.f_of {β : Type} {k a0 a1 a2 a3 z0} (h : Ys.t k a0 a1 a2 a3 = some z0) (K : LC → Option β) : Ys.f k a0 a1 a2 a3 K = K z0 := by unfold Ys.f; rw [h]; rfl
def RB (B : Nat) (r : List D) : Prop := ∃ (c0 : Bool), r = [.bool c0] ∧ True
theorem RB.open {B : Nat} {r : List D} (h : RB B r) : ∃ (c0 : Bool), r = [.bool c0] ∧ True := h
theorem RB.mono {B B' : Nat} (hb : B ≤ B') {r : List D} (h : RB B r) : RB B' r := by
 obtain ⟨c0, rfl, _⟩ := h
 exact ⟨_, rfl, trivial⟩
theorem RB.wide {xs : LD} (h : Zi RB lim xs) : Zi RB 2097152 xs := ⟨Nat.le_trans h.1 (by decide), fun r hr => (h.2 r hr).mono (by decide)⟩
theorem RB.len {B : Nat} {r : List D} (h : RB B r) : r.length = 1 := by
 obtain ⟨c0, rfl, _⟩ := h.open
 rfl
theorem RB.flat {B : Nat} {xs : LD} (h : ∀ r ∈ xs, RB B r) : ZaZ 1 xs := fun r hr => by
 obtain ⟨c0, rfl, _⟩ := (h r hr).open
 exact ⟨rfl, by simp [Zau]⟩
theorem RB.wt {B : Nat} {xs : LD} (h : ∀ r ∈ xs, RB B r) : Zp xs = 1 * xs.length := wt_flat (R := RB B) (fun r h => by obtain ⟨c0, rfl, _⟩ := h; rfl) xs h
theorem RB.deep {B : Nat} {xs : LD} (h : ∀ r ∈ xs, RB B r) : Zb xs = xs.map (·.map C.d) := deep_flat (R := RB B) (fun r h => by obtain ⟨c0, rfl, _⟩ := h; rfl) xs h
theorem RB.gets {B : Nat} {xs : LD} (h : ∀ r ∈ xs, RB B r) {v : Int} (h0 : 0 ≤ v) (h1 : v < xs.length) : gR xs v = [.bool (gB xs v 0)] ∧ True := by
 obtain ⟨c0, e, _⟩ := (h (gR xs v) (gR_mem h0 h1)).open
 unfold gB
 rw [e]
 exact ⟨rfl, trivial⟩
theorem RB.rows {B : Nat} {xs : LD} (h : ∀ r ∈ xs, RB B r) {v : Int} (h0 : 0 ≤ v) (h1 : v < xs.length) {β : Type} (F : List D → Option β) : Zbw xs v F = F [.bool (gB xs v 0)] := by
 rw [← (RB.gets h h0 h1).1]
 exact Zbp h0 h1 F
theorem RB.get {B : Nat} {xs : LD} (h : Zi RB B xs) {v : Int} (h0 : 0 ≤ v) (h1 : v < xs.length) : gR xs v = [.bool (gB xs v 0)] ∧ True := RB.gets h.2 h0 h1
theorem RB.row {B : Nat} {xs : LD} (h : Zi RB B xs) {v : Int} (h0 : 0 ≤ v) (h1 : v < xs.length) {β : Type} (F : List D → Option β) : Zbw xs v F = F [.bool (gB xs v 0)] := RB.rows h.2 h0 h1 F
theorem Yu.f_of {β : Type} {k a0 a1 a2 z0} (h : Yu.t k a0 a1 a2 = some z0) (K : LC → Option β) : Yu.f k a0 a1 a2 K = K z0 := by unfold Yu.f; rw [h]; rfl
theorem Yaa.f_of {β : Type} {k aC aD aF aG a1 a2 z0} (h : Yaa.t k aC aD aF aG a1 a2 = some z0) (K : LC → Option β) : Yaa.f k aC aD aF aG a1 a2 K = K z0 := by unfold Yaa.f; rw [h]; rfl
theorem YA.tm {ι α : Type} {ok : ι → Prop} {ψ : α → Prop} {p : ι → Nat} {B : Nat} (hp : ∀ i, ok i → B ≤ p i) {a0 a1 φ} (h : Tm (fun k => B ≤ k) (fun k => YA.t k a0 a1) φ) {G : ι → LC → Option α} (hG : ∀ z0, φ z0 → Tm ok (fun i => G i z0) ψ) : Tm ok (fun i => YA.f (p i) a0 a1 (G i)) ψ := ZK (t := fun k => YA.t k a0 a1) hp h hG
theorem Yaw.f_of {β : Type} {k a0 a1 a2 z0} (h : Yaw.t k a0 a1 a2 = some z0) (K : Bool → Option β) : Yaw.f k a0 a1 a2 K = K z0 := by unfold Yaw.f; rw [h]; rfl
theorem within_f {β : Type} {k : Nat} {a b c : Int} (K : Bool → Option β) : Yaw.f k a b c K = K (decide (b ≤ a) && decide (a ≤ c)) := by
 refine Yaw.f_of ?_ K
 unfold Yaw.t Yaw.g
 by_cases h : b ≤ a <;> simp [h]
theorem Y2.same {k : Nat} {a : BA} : Y2.t k a = Yn.t k a := by
 unfold Y2.t Yn.t Y2.g Yn.g
 congr 1
 funext L v
 simp only [Y2.l0, Yn.l0, l1In_f, within_f]
 refine bif_congr (fun _ => ?_) (fun _ => rfl)
 unfold Za0
 split
 ·split
  ·rename_i b _
   have hb : b.toNat < 256 := b.toNat_lt
   simp only []
   rw [Zj (x := (b.toNat : Int)) (by omega) (by omega)]
   generalize (b.toNat : Int) = x
   by_cases h1 : x < 97 <;> by_cases h2 : x < 48 <;> by_cases h3 : x > 57 <;> by_cases h4 : x > 122 <;> simp [h1, h2, h3, h4] <;> (try omega) <;> grind
  ·rfl
 ·rfl
theorem Ybc {β : Type} {k : Nat} {a : BA} (K : Bool → Option β) : Y2.f k a K = Yn.f k a K := by
 unfold Y2.f Yn.f
 rw [Y2.same]
theorem within_fv {β : Type} {k : Nat} {a b c : Int} (K : Bool → Option β) : Yaw.f k a b c K = K (inB a b c) := within_f K
theorem YaB.f_of {β : Type} {k a0 z0} (h : YaB.t k a0 = some z0) (K : Bool → Option β) : YaB.f k a0 K = K z0 := by unfold YaB.f; rw [h]; rfl
theorem isCopies_f {β : Type} {k : Nat} {a : Int} (K : Bool → Option β) : YaB.f k a K = K (decide (0 ≤ a) && decide (a ≤ 10000)) := by
 refine YaB.f_of ?_ K
 unfold YaB.t YaB.g
 rw [within_f]
theorem YS.f_of {β : Type} {k a0 a1 z0} (h : YS.t k a0 a1 = some z0) (K : Bool → Option β) : YS.f k a0 a1 K = K z0 := by unfold YS.f; rw [h]; rfl
set_option maxRecDepth 100000 in
theorem YS.same {k : Nat} {a : LD} {n : Int} (g : Zi RS lim a) : YS.t k a n = YM.t k a n := by
 unfold YS.t YM.t YS.g YM.g
 congr 1
 funext L v
 simp only [YS.l0, atR, rdQ, Q.ask, YM.l0, atR, rdQ, Q.ask, Ybc]
 refine bif_congr (fun h => ?_) (fun _ => rfl)
 by_cases h0 : 0 ≤ v ∧ v < a.length
 ·have hl : v.toNat < a.length := by omega
  obtain ⟨s0, hs, _⟩ := g.2 _ (List.getElem_mem hl)
  have hr := fun F => atRow_get (β := Bool) h0.1 (by rw [← hs]; simp [hl] : a[v.toNat]? = some [.str s0]) F
  simp only [hr, Zas, dStr, atEnd]
 ·simp only [atRow_none h0]
set_option maxRecDepth 100000 in
theorem namesOk_fv {a : LD} {n : Int} (g : Zi RS lim a) {k : Nat} (hk : Z3 k) {β : Type} (K : Bool → Option β) : YS.f k a n K = K (namesB a && decide ((a.length : Int) ≤ n)) := YS.f_of (by
 have hl := g.1
 have hlim : lim = 1048576 := rfl
 have hb : big = 2 ^ 64 := rfl
 unfold YS.t YS.g
 rw [Zb6 (n := a.length) (fun i => Yn.v (gS a (i : Int) 0) && (!decide ((i : Int) > 0) || ZbO (gS a ((i : Int) - 1) 0) (gS a (i : Int) 0))) (r1 := some false) (r2 := some (decide ((a.length : Int) ≤ n))) (by unfold Z3 at hk; omega)]
 ·unfold namesB
  generalize List.all _ _ = x
  cases x <;> rfl
 ·intro L i hi
  have k0 := (RS.get g (v := (i : Int)) (by omega) (by omega)).2.1
  simp (disch := omega) only [YS.l0, atR, rdQ, Q.ask, ZQ (show (i : Int) < a.length by omega), cond_true, RS.row g, ZY, Zaj, Z6, Ybc, Yn.fv k0 hk, Zj]
  by_cases h0 : (i : Int) > 0
  ·simp (disch := omega) only [ZQ h0, cond_true, RS.row g, ZY, Zaj, Z6]
   cases Yn.v (gS a (i : Int) 0) <;> cases ZbO (gS a ((i : Int) - 1) 0) (gS a (i : Int) 0) <;> rfl
  ·simp only [ZV h0, cond_false]
   cases Yn.v (gS a (i : Int) 0) <;> rfl
 ·intro L
  simp [YS.l0, atR, rdQ, Q.ask]) K
theorem Ya5.f_of {β : Type} {k aC aD aF z0} (h : Ya5.t k aC aD aF = some z0) (K : Bool → Option β) : Ya5.f k aC aD aF K = K z0 := by unfold Ya5.f; rw [h]; rfl
theorem Yay.f_of {β : Type} {k aC aD aF z0} (h : Yay.t k aC aD aF = some z0) (K : Bool → Option β) : Yay.f k aC aD aF K = K z0 := by unfold Yay.f; rw [h]; rfl
theorem Yd.f_of {β : Type} {k a0 z0} (h : Yd.t k a0 = some z0) (K : Int → Option β) : Yd.f k a0 K = K z0 := by unfold Yd.f; rw [h]; rfl
theorem Yo.f_of {β : Type} {k a0 z0} (h : Yo.t k a0 = some z0) (K : Bool → Option β) : Yo.f k a0 K = K z0 := by unfold Yo.f; rw [h]; rfl
theorem Yax.f_of {β : Type} {k a0 z0} (h : Yax.t k a0 = some z0) (K : Bool → Option β) : Yax.f k a0 K = K z0 := by unfold Yax.f; rw [h]; rfl
theorem lens (n : Int) (h : 0 ≤ n) : n = 0 ∨ n = 1 ∨ ((n == 0) = false ∧ (n == 1) = false ∧ 1 ≤ n) := by
 simp only [beq_eq_false_iff_ne]
 omega
noncomputable def termB (kind : Int) (key : BA) (vals : LD) : Bool :=
 namesB vals && Yn.v key && ((kind == 1 || kind == 2) && (vals.length : Int) == 1 || kind == 3 && (decide ((vals.length : Int) ≥ 1) && decide ((vals.length : Int) ≤ 6)) || (kind == 4 || kind == 5) && (vals.length : Int) == 0)
set_option maxRecDepth 100000 in
theorem l2Term_v {kind : Int} {key : BA} {vals : LD} (gk : key.size ≤ lim) (g : Zi RS lim vals) {k : Nat} (hk : Z3 k) : Yad.t k kind key vals = some (termB kind key vals) := by
 have hl := g.1
 have hlim : lim = 1048576 := rfl
 have hb : big = 2 ^ 64 := rfl
 unfold Yad.t Yad.g
 rw [Zb6 (n := vals.length) (fun i => Yn.v (gS vals (i : Int) 0) && (!decide ((i : Int) > 0) || ZbO (gS vals ((i : Int) - 1) 0) (gS vals (i : Int) 0))) (r1 := some false)
  (r2 := some (Yn.v key && ((kind == 1 || kind == 2) && (vals.length : Int) == 1 || kind == 3 && (decide ((vals.length : Int) ≥ 1) && decide ((vals.length : Int) ≤ 6)) || (kind == 4 || kind == 5) && (vals.length : Int) == 0))) (by unfold Z3 at hk; omega)]
 ·unfold termB namesB
  generalize List.all _ _ = x
  cases x
  ·rfl
  ·simp
 ·intro L i hi
  have k0 := (RS.get g (v := (i : Int)) (by omega) (by omega)).2.1
  simp (disch := omega) only [Yad.l0, atR, rdQ, Q.ask, ZQ (show (i : Int) < vals.length by omega), cond_true, RS.row g, ZY, Zaj, Z6, Yn.fv k0 hk, Zj]
  by_cases h0 : (i : Int) > 0
  ·simp (disch := omega) only [ZQ h0, cond_true, RS.row g, ZY, Zaj, Z6]
   cases Yn.v (gS vals (i : Int) 0) <;> cases ZbO (gS vals ((i : Int) - 1) 0) (gS vals (i : Int) 0) <;> rfl
  ·simp only [ZV h0, cond_false]
   cases Yn.v (gS vals (i : Int) 0) <;> rfl
 ·intro L
  simp only [Yad.l0, atR, rdQ, Q.ask, ZV (show ¬ (vals.length : Int) < vals.length by omega), cond_false, Yn.fv gk hk, l1In_f, ge_iff_le]
  cases Yn.v key
  ·rfl
  ·rcases ZaA kind with rfl | rfl | rfl | rfl | rfl | ⟨e1, e2, e3, e4, e5⟩
   all_goals first | (simp only [e1, e2, e3, e4, e5]; simp; done) | (by_cases h7 : 1 ≤ (vals.length : Int) <;> simp [h7]; done)
theorem termOk_v {kind : Int} {key : BA} {vals : LD} (gk : key.size ≤ lim) (g : Zi RS lim vals) {k : Nat} (hk : Z3 k) : Ya5.t k kind key vals = some (termB kind key vals) := by
 unfold Ya5.t Ya5.g termB
 simp only [Ybc, Yn.fv gk hk, namesOk_fv g hk]
 rcases ZaA kind with rfl | rfl | rfl | rfl | rfl | ⟨e1, e2, e3, e4, e5⟩
 all_goals cases Yn.v key <;> cases namesB vals <;> rcases lens (vals.length : Int) (by omega) with h7 | h7 | ⟨h7, h8, h9⟩ <;> (try simp only [e1, e2, e3, e4, e5]) <;> (first | (simp [h7]; done) | simp [h7, h8, h9])
noncomputable def termsB (a : LD) : Bool := (List.range a.length).all fun i => termB (gI a (i : Int) 0) (gS a (i : Int) 1) (gL a (i : Int) 2)
set_option maxRecDepth 100000 in
theorem SelectorOk_v {a : LD} (g : Zi YaC lim a) {k : Nat} (hk : Z3 k) : Yr.t k a = some (termsB a && decide ((a.length : Int) ≤ 8)) := by
 have hl := g.1
 have hlim : lim = 1048576 := rfl
 have hb : big = 2 ^ 64 := rfl
 unfold Yr.t Yr.g
 rw [Zb6 (n := a.length) (fun i => termB (gI a (i : Int) 0) (gS a (i : Int) 1) (gL a (i : Int) 2)) (r1 := some false) (r2 := some (decide ((a.length : Int) ≤ 8))) (by unfold Z3 at hk; omega)]
 ·unfold termsB
  generalize List.all _ _ = x
  cases x <;> rfl
 ·intro L i hi
  obtain ⟨-, k0, k1, k2, -⟩ := YaC.get g (v := (i : Int)) (by omega) (by omega)
  simp (disch := omega) only [Yr.l0, atR, rdQ, Q.ask, ZQ (show (i : Int) < a.length by omega), cond_true, YaC.row g, ZY, Zaj, Zad, Za7, Z6, Yad.f_of (l2Term_v k1 k2 hk), Zj]
  cases termB (gI a (i : Int) 0) (gS a (i : Int) 1) (gL a (i : Int) 2) <;> rfl
 ·intro L
  simp [Yr.l0, atR, rdQ, Q.ask]
set_option maxRecDepth 100000 in
theorem SelectorOk_impl {a : LD} (g : Zi YaC lim a) {k : Nat} (hk : Z3 k) : Yax.t k a = some (termsB a && decide ((a.length : Int) ≤ 8)) := by
 have hl := g.1
 have hlim : lim = 1048576 := rfl
 have hb : big = 2 ^ 64 := rfl
 have hf : ∀ {β : Type} (K : Int → Option β), Yd.f k a K = K (Zbo (fun i => !termB (gI a (i : Int) 0) (gS a (i : Int) 1) (gL a (i : Int) 2)) a.length) := fun K => Yd.f_of (by
  unfold Yd.t Yd.g
  refine iter_findI (n := a.length) _ some (by unfold Z3 at hk; omega) (fun L i hi => ?_) (fun L => by simp [Yd.l0, atR, rdQ, Q.ask])
  obtain ⟨-, k0, k1, k2, -⟩ := YaC.get g (v := (i : Int)) (by omega) (by omega)
  have hs : ∀ {β : Type} (K : Bool → Option β), Yay.f k (gI a (i : Int) 0) (gS a (i : Int) 1) (gL a (i : Int) 2) K = K (!termB (gI a (i : Int) 0) (gS a (i : Int) 1) (gL a (i : Int) 2)) := fun K => Yay.f_of (by unfold Yay.t Yay.g; rw [Ya5.f_of (termOk_v k1 k2 hk)]) K
  simp (disch := omega) only [Yd.l0, atR, rdQ, Q.ask, ZQ (show (i : Int) < a.length by omega), cond_true, YaC.row g, ZY, Zaj, Zad, Za7, Z6, hs, Zj]) K
 unfold Yax.t Yax.g
 have hc : ∀ {β : Type} (K : Bool → Option β), Yo.f k a K = K (!termsB a) := fun K => Yo.f_of (by
  unfold Yo.t Yo.g
  rw [hf, findI_all]
  simp only [Bool.not_not, termsB]) K
 rw [hc]
 by_cases h8 : (a.length : Int) ≤ 8 <;> simp [h8]
theorem Ybq {a : LD} (g : Zi YaC lim a) {k : Nat} (hk : Z3 k) {β : Type} (K : Bool → Option β) : Yax.f k a K = Yr.f k a K := by
 rw [Yax.f_of (SelectorOk_impl g hk), Yr.f_of (SelectorOk_v g hk)]
set_option maxRecDepth 100000 in
theorem Yat.same {aC : Int} {aD aF aG : LD} (g0 : Zi YaC lim aD) (g1 : Zi RS lim aF) (g2 : Zi RSI lim aG) {k : Nat} (hk : Z3 k) : Yat.t k aC aD aF aG = Yz.t k aC aD aF aG := by
 have hl := g2.1
 have hlim : lim = 1048576 := rfl
 unfold Yat.t Yz.t Yat.g Yz.g
 congr 1
 funext L v
 simp only [Yat.l0, atR, rdQ, Q.ask, Yz.l0, atR, rdQ, Q.ask, Ybc, within_f, l1In_f, isCopies_f, Ybq g0 hk]
 refine bif_congr (fun h => ?_) (fun _ => ?_)
 ·by_cases h0 : 0 ≤ v ∧ v < aG.length
  ·obtain ⟨h0, h1⟩ := h0
   simp (disch := omega) only [RSI.row g2, ZY, Zaj, Zad, Z6]
  ·simp only [atRow_none h0]
 ·unfold YS.f YM.f
  simp only [YS.same g1]
set_option maxRecDepth 100000 in
theorem Yac.same {k : Nat} {a : LD} (g : Zi RSS lim a) : Yac.t k a = YF.t k a := by
 unfold Yac.t YF.t Yac.g YF.g
 congr 1
 funext L v
 simp only [Yac.l0, atR, rdQ, Q.ask, YF.l0, atR, rdQ, Q.ask, Ybc]
 refine bif_congr (fun h => ?_) (fun _ => rfl)
 by_cases h0 : 0 ≤ v ∧ v < a.length
 ·have hl : v.toNat < a.length := by omega
  obtain ⟨s0, s1, hs, _⟩ := g.2 _ (List.getElem_mem hl)
  have hr := fun F => atRow_get (β := Bool) h0.1 (by rw [← hs]; simp [hl] : a[v.toNat]? = some [.str s0, .str s1]) F
  simp only [hr, Zas, dStr, atEnd]
 ·simp only [atRow_none h0]
theorem YaI.same {aC : BA} {aD aF : LD} {aG : Int} (g0 : aC.size ≤ lim) (g1 : Zi RSS lim aD) (g2 : Zi RS lim aF) {k : Nat} (hk : Z3 k) : YaI.t k aC aD aF aG = YO.t k aC aD aF aG := by
 unfold YaI.t YO.t YaI.g YO.g Yac.f YF.f YS.f YM.f
 simp only [Ybc, Yac.same g1, YS.same g2, isCopies_f, l1In_f]
theorem YaG.f_of {β : Type} {k aC aD aF aG z0} (h : YaG.t k aC aD aF aG = some z0) (K : Bool → Option β) : YaG.f k aC aD aF aG K = K z0 := by unfold YaG.f; rw [h]; rfl
theorem Ye.f_of {β : Type} {k a0 z0} (h : Ye.t k a0 = some z0) (K : Int → Option β) : Ye.f k a0 K = K z0 := by unfold Ye.f; rw [h]; rfl
theorem Yp.f_of {β : Type} {k a0 z0} (h : Yp.t k a0 = some z0) (K : Bool → Option β) : Yp.f k a0 K = K z0 := by unfold Yp.f; rw [h]; rfl
theorem YaF.f_of {β : Type} {k a0 z0} (h : YaF.t k a0 = some z0) (K : Bool → Option β) : YaF.f k a0 K = K z0 := by unfold YaF.f; rw [h]; rfl
theorem Yj.f_of {β : Type} {k a0 z0} (h : Yj.t k a0 = some z0) (K : Int → Option β) : Yj.f k a0 K = K z0 := by unfold Yj.f; rw [h]; rfl
theorem YE.f_of {β : Type} {k a0 z0} (h : YE.t k a0 = some z0) (K : Bool → Option β) : YE.f k a0 K = K z0 := by unfold YE.f; rw [h]; rfl
theorem YaH.f_of {β : Type} {k aC aD aF aG a1 a2 z0} (h : YaH.t k aC aD aF aG a1 a2 = some z0) (K : Bool → Option β) : YaH.f k aC aD aF aG a1 a2 K = K z0 := by unfold YaH.f; rw [h]; rfl
theorem YJ.f_of {β : Type} {k a0 a1 z0} (h : YJ.t k a0 a1 = some z0) (K : Int → Option β) : YJ.f k a0 a1 K = K z0 := by unfold YJ.f; rw [h]; rfl
theorem Y8.f_of {β : Type} {k a0 a1 z0} (h : Y8.t k a0 a1 = some z0) (K : Bool → Option β) : Y8.f k a0 a1 K = K z0 := by unfold Y8.f; rw [h]; rfl
theorem strEq_comm (a b : BA) : Zae a b = Zae b a := by
 unfold Zae
 rw [Bool.eq_iff_iff]
 simp only [beq_iff_eq]
 exact ⟨Eq.symm, Eq.symm⟩
def Ybj (xs : LD) (s : BA) : Bool := !(List.range xs.length).all fun i => !Zae (gS xs (i : Int) 0) s
set_option maxRecDepth 100000 in
theorem contains_fv {a : LD} {s : BA} (g : Zi RS lim a) {k : Nat} (hk : Z3 k) {β : Type} (K : Bool → Option β) : Y8.f k a s K = K (Ybj a s) := by
 have hl := g.1
 have hlim : lim = 1048576 := rfl
 have hb : big = 2 ^ 64 := rfl
 have hf : ∀ {β : Type} (K : Int → Option β), YJ.f k a s K = K (Zbo (fun i => Zae (gS a (i : Int) 0) s) a.length) := fun K => YJ.f_of (by
  unfold YJ.t YJ.g
  refine iter_findI (n := a.length) _ some (by unfold Z3 at hk; omega) (fun L i hi => ?_) (fun L => by simp [YJ.l0, atR, rdQ, Q.ask])
  simp (disch := omega) only [YJ.l0, atR, rdQ, Q.ask, ZQ (show (i : Int) < a.length by omega), cond_true, RS.row g, ZY, Zaj, Z6, Zj]
  rw [strEq_comm]) K
 refine Y8.f_of ?_ K
 unfold Y8.t Y8.g
 rw [hf, findI_all]
 rfl
set_option maxRecDepth 100000 in
theorem l2Among_fv {a : LD} {s : BA} (g : Zi RS lim a) {k : Nat} (hk : Z3 k) {β : Type} (K : Bool → Option β) : YL.f k a s K = K (Ybj a s) := YL.f_of (by
 have hl := g.1
 have hlim : lim = 1048576 := rfl
 have hb : big = 2 ^ 64 := rfl
 unfold YL.t YL.g Ybj
 rw [Zb6 (n := a.length) (fun i => !Zae (gS a (i : Int) 0) s) (r1 := some true) (r2 := some false) (by unfold Z3 at hk; omega)]
 ·generalize List.all _ _ = x
  cases x <;> rfl
 ·intro L i hi
  simp (disch := omega) only [YL.l0, atR, rdQ, Q.ask, ZQ (show (i : Int) < a.length by omega), cond_true, RS.row g, ZY, Zaj, Z6, Zj]
  cases Zae (gS a (i : Int) 0) s <;> rfl
 ·intro L
  simp [YL.l0, atR, rdQ, Q.ask]) K
theorem Ya6.f_of {β : Type} {k aC aD aF a1 z0} (h : Ya6.t k aC aD aF a1 = some z0) (K : Bool → Option β) : Ya6.f k aC aD aF a1 K = K z0 := by unfold Ya6.f; rw [h]; rfl
theorem YaP.f_of {β : Type} {k aC aD aF bU z0} (h : YaP.t k aC aD aF bU = some z0) (K : Bool → Option β) : YaP.f k aC aD aF bU K = K z0 := by unfold YaP.f; rw [h]; rfl
theorem Yf.f_of {β : Type} {k a0 a1_0_0 z0} (h : Yf.t k a0 a1_0_0 = some z0) (K : Int → Option β) : Yf.f k a0 a1_0_0 K = K z0 := by unfold Yf.f; rw [h]; rfl
theorem Yt.f_of {β : Type} {k a0 a1_0_0 z0} (h : Yt.t k a0 a1_0_0 = some z0) (K : Bool → Option β) : Yt.f k a0 a1_0_0 K = K z0 := by unfold Yt.f; rw [h]; rfl
set_option maxRecDepth 100000 in
theorem Yaq.same {k : Nat} {a : LD} {s : BA} (g : Zi RSS lim a) : Yaq.t k a s = Yx.t k a s := by
 unfold Yaq.t Yx.t Yaq.g Yx.g
 congr 1
 funext L v
 simp only [Yaq.l0, atR, rdQ, Q.ask, Yx.l0, atR, rdQ, Q.ask]
 refine bif_congr (fun h => ?_) (fun _ => rfl)
 by_cases h0 : 0 ≤ v ∧ v < a.length
 ·obtain ⟨h0, h1⟩ := h0
  simp (disch := omega) only [RSS.row g, ZY, Zaj, Z6]
 ·simp only [atRow_none h0]
theorem impl_LabelGet_fv {a : LD} {s : BA} (g : Zi RSS lim a) (gs : s.size ≤ lim) {k : Nat} (hk : Z3 k) {β : Type} (K : BA → Bool → Option β) : Yaq.f k a s K = K (Yx.v a s).1 (Yx.v a s).2 := by
 rw [← Yx.fv g gs hk K]
 unfold Yaq.f Yx.f
 rw [Yaq.same g]
def holdsB (kind : Int) (vals : LD) (v : BA) (has : Bool) : Bool :=
 bif kind == 1 || kind == 3 then has && Ybj vals v else bif kind == 2 then !(has && Ybj vals v) else bif kind == 4 then has else !has
theorem l2Holds_fv {kind : Int} {key : BA} {vals : LD} {v : BA} {has : Bool} (g : Zi RS lim vals) {k : Nat} (hk : Z3 k) {β : Type} (K : Bool → Option β) : Yaz.f k kind key vals v has K = K (holdsB kind vals v has) := Yaz.f_of (by
 unfold Yaz.t Yaz.g holdsB
 simp only [l2Among_fv g hk]
 rcases ZaA kind with rfl | rfl | rfl | rfl | rfl | ⟨e1, e2, e3, e4, e5⟩
 all_goals cases has <;> cases Ybj vals v <;> (try simp only [e1, e2, e3, e4, e5]) <;> rfl) K
theorem holds_fv {kind : Int} {key : BA} {vals labels : LD} (gk : key.size ≤ lim) (g : Zi RS lim vals) (gl : Zi RSS lim labels) {k : Nat} (hk : Z3 k) {β : Type} (K : Bool → Option β) : Ya6.f k kind key vals labels K = K (holdsB kind vals (Yx.v labels key).1 (Yx.v labels key).2) := Ya6.f_of (by
 unfold Ya6.t Ya6.g holdsB
 simp only [contains_fv g hk, impl_LabelGet_fv gl gk hk]
 generalize Yx.v labels key = y
 obtain ⟨v, has⟩ := y
 rcases ZaA kind with rfl | rfl | rfl | rfl | rfl | ⟨e1, e2, e3, e4, e5⟩
 all_goals cases has <;> cases Ybj vals v <;> (try simp only [e1, e2, e3, e4, e5]) <;> rfl) K
noncomputable def matchB (sel labels : LD) : Bool := (List.range sel.length).all fun i => holdsB (gI sel (i : Int) 0) (gL sel (i : Int) 2) (Yx.v labels (gS sel (i : Int) 1)).1 (Yx.v labels (gS sel (i : Int) 1)).2
theorem LabelsOk_impl_f {a : LD} (g : Zi RSS lim a) {k : Nat} {β : Type} (K : Bool → Option β) : Yac.f k a K = YF.f k a K := by
 unfold Yac.f YF.f
 rw [Yac.same g]
set_option maxRecDepth 100000 in
theorem Ya4.same {sel labels : LD} (g : Zi YaC lim sel) (gl : Zi RSS lim labels) {k : Nat} (hk : Z3 k) : Ya4.t k sel labels = YK.t k sel labels := by
 have hl := g.1
 have hlim : lim = 1048576 := rfl
 have hb : big = 2 ^ 64 := rfl
 have hf : ∀ {β : Type} (K : Int → Option β), Yf.f k sel labels K = K (Zbo (fun i => !holdsB (gI sel (i : Int) 0) (gL sel (i : Int) 2) (Yx.v labels (gS sel (i : Int) 1)).1 (Yx.v labels (gS sel (i : Int) 1)).2) sel.length) := fun K => Yf.f_of (by
  unfold Yf.t Yf.g
  refine iter_findI (n := sel.length) _ some (by unfold Z3 at hk; omega) (fun L i hi => ?_) (fun L => by simp [Yf.l0, atR, rdQ, Q.ask])
  obtain ⟨-, k0, k1, k2, -⟩ := YaC.get g (v := (i : Int)) (by omega) (by omega)
  have hs : ∀ {β : Type} (K : Bool → Option β), YaP.f k (gI sel (i : Int) 0) (gS sel (i : Int) 1) (gL sel (i : Int) 2) labels K = K (!holdsB (gI sel (i : Int) 0) (gL sel (i : Int) 2) (Yx.v labels (gS sel (i : Int) 1)).1 (Yx.v labels (gS sel (i : Int) 1)).2) := fun K => YaP.f_of (by unfold YaP.t YaP.g; rw [holds_fv k1 k2 gl hk]) K
  simp (disch := omega) only [Yf.l0, atR, rdQ, Q.ask, ZQ (show (i : Int) < sel.length by omega), cond_true, YaC.row g, ZY, Zaj, Zad, Za7, Z6, hs, Zj]) K
 have hc : ∀ {β : Type} (K : Bool → Option β), Yt.f k sel labels K = K (!matchB sel labels) := fun K => Yt.f_of (by
  unfold Yt.t Yt.g
  rw [hf, findI_all]
  simp only [Bool.not_not, matchB]) K
 have hi : ∀ {β : Type} (K : Bool → Option β), Zo (YK.l0 k sel labels K) k 0 = K (matchB sel labels) := fun K => by
  rw [Zb6 (n := sel.length) (fun i => holdsB (gI sel (i : Int) 0) (gL sel (i : Int) 2) (Yx.v labels (gS sel (i : Int) 1)).1 (Yx.v labels (gS sel (i : Int) 1)).2) (r1 := K false) (r2 := K true) (by unfold Z3 at hk; omega)]
  ·unfold matchB
   generalize List.all _ _ = x
   cases x <;> rfl
  ·intro L i hi
   obtain ⟨-, k0, k1, k2, -⟩ := YaC.get g (v := (i : Int)) (by omega) (by omega)
   simp (disch := omega) only [YK.l0, atR, rdQ, Q.ask, ZQ (show (i : Int) < sel.length by omega), cond_true, YaC.row g, ZY, Zaj, Zad, Za7, Z6, Yx.fv gl k1 hk, l2Holds_fv k2 hk, Zj]
   generalize holdsB _ _ _ _ = x
   cases x <;> rfl
  ·intro L
   simp [YK.l0, atR, rdQ, Q.ask]
 unfold Ya4.t YK.t Ya4.g YK.g
 simp only [Ybq g hk, LabelsOk_impl_f gl, hc, hi]
 rw [Yr.fv g hk, Yr.fv g hk]
 cases Yr.v sel
 ·rfl
 ·simp only [cond_true, Bool.not_true, cond_false]
  rw [YF.fv gl hk, YF.fv gl hk]
  cases YF.v labels <;> simp
theorem impl_Matches_f {sel labels : LD} (g : Zi YaC lim sel) (gl : Zi RSS lim labels) {k : Nat} (hk : Z3 k) {β : Type} (K : Bool → Option β) : Ya4.f k sel labels K = K (YK.v sel labels) := by
 rw [← YK.fv g gl hk K]
 unfold Ya4.f YK.f
 rw [Ya4.same g gl hk]
theorem YaJ.f_of {β : Type} {k a0 bU f0_1 f0_2 f0_3 z0} (h : YaJ.t k a0 bU f0_1 f0_2 f0_3 = some z0) (K : Bool → Option β) : YaJ.f k a0 bU f0_1 f0_2 f0_3 K = K z0 := by unfold YaJ.f; rw [h]; rfl
theorem Yg.f_of {β : Type} {k a0 a1_0_0 a1_0_1 a1_0_2 a1_0_3 z0} (h : Yg.t k a0 a1_0_0 a1_0_1 a1_0_2 a1_0_3 = some z0) (K : Int → Option β) : Yg.f k a0 a1_0_0 a1_0_1 a1_0_2 a1_0_3 K = K z0 := by unfold Yg.f; rw [h]; rfl
theorem Yw.f_of {β : Type} {k a0 a1_0_0 a1_0_1 a1_0_2 a1_0_3 z0} (h : Yw.t k a0 a1_0_0 a1_0_1 a1_0_2 a1_0_3 = some z0) (K : Bool → Option β) : Yw.f k a0 a1_0_0 a1_0_1 a1_0_2 a1_0_3 K = K z0 := by unfold Yw.f; rw [h]; rfl
theorem YaK.f_of {β : Type} {k aC aD aF aG aX aW aZ bE z0} (h : YaK.t k aC aD aF aG aX aW aZ bE = some z0) (K : Bool → Option β) : YaK.f k aC aD aF aG aX aW aZ bE K = K z0 := by unfold YaK.f; rw [h]; rfl
set_option maxRecDepth 100000 in
theorem YaK.same {aC : Int} {aD aF aG : LD} {aX : BA} {aW aZ : LD} {bE : Int} (g0 : Zi YaC lim aD) (g1 : Zi RS lim aF) (g2 : Zi RSI lim aG) (g3 : aX.size ≤ lim) (g4 : Zi RSS lim aW) (g5 : Zi RS lim aZ) {k : Nat} (hk : Z3 k) : YaK.t k aC aD aF aG aX aW aZ bE = YH.t k aC aD aF aG aX aW aZ bE := by
 have hl := g5.1
 have hlim : lim = 1048576 := rfl
 have hb : big = 2 ^ 64 := rfl
 have hf : ∀ {β : Type} (K : Int → Option β), Yg.f k aZ aC aD aF aG K = K (Zbo (fun i => !Ybj aF (gS aZ (i : Int) 0)) aZ.length) := fun K => Yg.f_of (by
  unfold Yg.t Yg.g
  refine iter_findI (n := aZ.length) _ some (by unfold Z3 at hk; omega) (fun L i hi => ?_) (fun L => by simp [Yg.l0, atR, rdQ, Q.ask])
  have hs : ∀ {β : Type} (K : Bool → Option β), YaJ.f k (gS aZ (i : Int) 0) aC aD aF aG K = K (!Ybj aF (gS aZ (i : Int) 0)) := fun K => YaJ.f_of (by unfold YaJ.t YaJ.g; rw [contains_fv g1 hk]) K
  simp (disch := omega) only [Yg.l0, atR, rdQ, Q.ask, ZQ (show (i : Int) < aZ.length by omega), cond_true, RS.row g5, ZY, Zaj, Z6, hs, Zj]) K
 have hc : ∀ {β : Type} (K : Bool → Option β), Yw.f k aZ aC aD aF aG K = K (!(List.range aZ.length).all fun i => Ybj aF (gS aZ (i : Int) 0)) := fun K => Yw.f_of (by
  unfold Yw.t Yw.g
  rw [hf, findI_all]
  simp only [Bool.not_not]) K
 have hi : ∀ {β : Type} (K : Bool → Option β), Zo (YH.l0 k aC aD aF aG aX aW aZ bE K) k 0 = K ((List.range aZ.length).all fun i => Ybj aF (gS aZ (i : Int) 0)) := fun K => by
  rw [Zb6 (n := aZ.length) (fun i => Ybj aF (gS aZ (i : Int) 0)) (r1 := K false) (r2 := K true) (by unfold Z3 at hk; omega)]
  ·generalize List.all _ _ = x
   cases x <;> rfl
  ·intro L i hi
   simp (disch := omega) only [YH.l0, atR, rdQ, Q.ask, ZQ (show (i : Int) < aZ.length by omega), cond_true, RS.row g5, ZY, Zaj, Z6, l2Among_fv g1 hk, Zj]
   generalize Ybj _ _ = x
   cases x <;> rfl
  ·intro L
   simp [YH.l0, atR, rdQ, Q.ask]
 have hw : ∀ {β : Type} (K : Bool → Option β), Yat.f k aC aD aF aG K = Yz.f k aC aD aF aG K := fun K => by
  unfold Yat.f Yz.f
  rw [Yat.same g0 g1 g2 hk]
 have hn : ∀ {β : Type} (K : Bool → Option β), YaI.f k aX aW aZ bE K = YO.f k aX aW aZ bE K := fun K => by
  unfold YaI.f YO.f
  rw [YaI.same g3 g4 g5 hk]
 unfold YaK.t YH.t YaK.g YH.g YH.m
 simp only [hw, hn, hc, hi, Yz.fv g0 g1 g2 hk, YO.fv g3 g4 g5 hk, impl_Matches_f g0 g4 hk, YK.fv g0 g4 hk]
 cases Yz.v aC aD aF aG <;> cases YO.v aX aW aZ bE <;> cases YK.v aD aW <;> simp
theorem Yai.f_of {β : Type} {k aC aD aF aG a1 z0} (h : Yai.t k aC aD aF aG a1 = some z0) (K : Int → Option β) : Yai.f k aC aD aF aG a1 K = K z0 := by unfold Yai.f; rw [h]; rfl
set_option maxRecDepth 100000 in
theorem Yai.same {aC : Int} {aD aF aG : LD} {a1 : BA} (g0 : Zi YaC lim aD) (g1 : Zi RS lim aF) (g2 : Zi RSI lim aG) (g3 : a1.size ≤ lim) {k : Nat} (hk : Z3 k) : Yai.t k aC aD aF aG a1 = YG.t k aC aD aF aG a1 := by
 unfold Yai.t YG.t Yai.g YG.g
 congr 1
 funext L v
 simp only [Yai.l0, atR, rdQ, Q.ask, YG.l0, atR, rdQ, Q.ask]
 refine bif_congr (fun h => ?_) (fun _ => rfl)
 by_cases h0 : 0 ≤ v ∧ v < aG.length
 ·have hl : v.toNat < aG.length := by omega
  obtain ⟨s0, n1, hs, _⟩ := g2.2 _ (List.getElem_mem hl)
  have hr := fun F => atRow_get (β := Int) h0.1 (by rw [← hs]; simp [hl] : aG[v.toNat]? = some [.str s0, .int .i64 n1]) F
  simp only [hr, Zas, dStr, dInt, atEnd, if_true]
 ·simp only [atRow_none h0]
theorem YaE.f_of {β : Type} {k a0 z0} (h : YaE.t k a0 = some z0) (K : Bool → Option β) : YaE.f k a0 K = K z0 := by unfold YaE.f; rw [h]; rfl
theorem Yi.f_of {β : Type} {k a0 z0} (h : Yi.t k a0 = some z0) (K : Int → Option β) : Yi.f k a0 K = K z0 := by unfold Yi.f; rw [h]; rfl
theorem YD.f_of {β : Type} {k a0 z0} (h : YD.t k a0 = some z0) (K : Bool → Option β) : YD.f k a0 K = K z0 := by unfold YD.f; rw [h]; rfl
theorem YaD.f_of {β : Type} {k a0 z0} (h : YaD.t k a0 = some z0) (K : Bool → Option β) : YaD.f k a0 K = K z0 := by unfold YaD.f; rw [h]; rfl
theorem Yh.f_of {β : Type} {k a0 z0} (h : Yh.t k a0 = some z0) (K : Int → Option β) : Yh.f k a0 K = K z0 := by unfold Yh.f; rw [h]; rfl
theorem YC.f_of {β : Type} {k a0 z0} (h : YC.t k a0 = some z0) (K : Bool → Option β) : YC.f k a0 K = K z0 := by unfold YC.f; rw [h]; rfl
theorem YaQ.f_of {β : Type} {k a0 a1 a2 z0} (h : YaQ.t k a0 a1 a2 = some z0) (K : Bool → Option β) : YaQ.f k a0 a1 a2 K = K z0 := by unfold YaQ.f; rw [h]; rfl
theorem YaA.f_of {β : Type} {k a0 a1 bU f1_0 f2_0 f3_0 z0} (h : YaA.t k a0 a1 bU f1_0 f2_0 f3_0 = some z0) (K : Int → Option β) : YaA.f k a0 a1 bU f1_0 f2_0 f3_0 K = K z0 := by unfold YaA.f; rw [h]; rfl
theorem Yc.f_of {β : Type} {k a0 a1 a2 a3_0_0 a3_1_0 a3_2_0 a3_3_0 z0} (h : Yc.t k a0 a1 a2 a3_0_0 a3_1_0 a3_2_0 a3_3_0 = some z0) (K : LC → Option β) : Yc.f k a0 a1 a2 a3_0_0 a3_1_0 a3_2_0 a3_3_0 K = K z0 := by unfold Yc.f; rw [h]; rfl
theorem Yb.f_of {β : Type} {k a0 a1 a2_0_0 a2_1_0 a2_2_0 a2_3_0 z0} (h : Yb.t k a0 a1 a2_0_0 a2_1_0 a2_2_0 a2_3_0 = some z0) (K : LC → Option β) : Yb.f k a0 a1 a2_0_0 a2_1_0 a2_2_0 a2_3_0 K = K z0 := by unfold Yb.f; rw [h]; rfl
theorem Yy.f_of {β : Type} {k a0 a1_0_0 a1_1_0 a1_2_0 a1_3_0 z0} (h : Yy.t k a0 a1_0_0 a1_1_0 a1_2_0 a1_3_0 = some z0) (K : LC → Option β) : Yy.f k a0 a1_0_0 a1_1_0 a1_2_0 a1_3_0 K = K z0 := by unfold Yy.f; rw [h]; rfl
theorem insD_split {r : Nat → Int} {x : Nat} : ∀ {A B : List Nat}, (∀ y ∈ A, r x ≤ r y) → (∀ y ∈ B, r y < r x) → insD r x (A ++ B) = A ++ x :: B
 | [], [], _, _ => rfl
 | [], y :: B, _, h => by
  simp only [List.nil_append, insD]
  rw [if_pos (h y (by simp))]
 | y :: A, B, h, h' => by
  simp only [List.cons_append, insD]
  have := h y (by simp)
  rw [if_neg (by omega), insD_split (fun z hz => h z (by simp [hz])) h']
def restQ (n : Int) (w : Nat → Int) (op : List Nat) (s : Int) (p : Nat) : Int := rsD w n s (op.getD p 0)
set_option maxRecDepth 100000 in
theorem cmpQ_fv {n s : Int} {a1 : LD} {op : List Nat} (g1 : Zi RI lim a1) (hop : ∀ i ∈ op, i < a1.length) (hw : ∀ i, i < a1.length → 0 ≤ gI a1 (i : Int) 0 ∧ gI a1 (i : Int) 0 ≤ 1000) (hn : 0 ≤ n) (hn2 : n ≤ 10000) (hs : 0 < s) {p q : Nat} (hp : p < op.length) (hq : q < op.length) {k : Nat} {β : Type} (K : Int → Option β) :
  YaA.f k (p : Int) (q : Int) n a1 (ofN op) s K = K (restQ n (fun i => gI a1 (i : Int) 0) op s q - restQ n (fun i => gI a1 (i : Int) 0) op s p) := YaA.f_of (by
 have hP := hop op[p] (List.getElem_mem hp)
 have hQ := hop op[q] (List.getElem_mem hq)
 have hwP := hw _ hP
 have hwQ := hw _ hQ
 have hl := g1.1
 have mP : 0 ≤ n * gI a1 (op[p] : Int) 0 ∧ n * gI a1 (op[p] : Int) 0 ≤ 10000000 := ⟨Int.mul_nonneg hn hwP.1, by have := Int.mul_le_mul hn2 hwP.2 hwP.1 (by decide : (0 : Int) ≤ 10000); omega⟩
 have mQ : 0 ≤ n * gI a1 (op[q] : Int) 0 ∧ n * gI a1 (op[q] : Int) 0 ≤ 10000000 := ⟨Int.mul_nonneg hn hwQ.1, by have := Int.mul_le_mul hn2 hwQ.2 hwQ.1 (by decide : (0 : Int) ≤ 10000); omega⟩
 unfold YaA.t YaA.g; simp only [atR, rdQ, Q.ask]
 simp (disch := omega) only [ofN_at hq, ofN_at hp, ZY, Zad, Z6, RI.row g1]
 rw [ZaP (by omega), ZaP (by omega), Zj (x := n * _) (by omega) (by omega), Zj (x := n * gI a1 (op[p] : Int) 0) (by omega) (by omega)]
 have b1 : 0 ≤ Int.tmod (n * gI a1 (op[q] : Int) 0) s ∧ Int.tmod (n * gI a1 (op[q] : Int) 0) s ≤ 10000000 := ⟨Int.tmod_nonneg _ mQ.1, by
  rw [Int.tmod_eq_emod_of_nonneg mQ.1]
  have h2 : n * gI a1 (op[q] : Int) 0 % s ≤ n * gI a1 (op[q] : Int) 0 := by
   have h3 := Int.emod_add_mul_ediv (n * gI a1 (op[q] : Int) 0) s
   have h4 : 0 ≤ s * (n * gI a1 (op[q] : Int) 0 / s) := Int.mul_nonneg (by omega) (Int.ediv_nonneg mQ.1 (by omega))
   omega
  omega⟩
 have b2 : 0 ≤ Int.tmod (n * gI a1 (op[p] : Int) 0) s ∧ Int.tmod (n * gI a1 (op[p] : Int) 0) s ≤ 10000000 := ⟨Int.tmod_nonneg _ mP.1, by
  rw [Int.tmod_eq_emod_of_nonneg mP.1]
  have h2 : n * gI a1 (op[p] : Int) 0 % s ≤ n * gI a1 (op[p] : Int) 0 := by
   have h3 := Int.emod_add_mul_ediv (n * gI a1 (op[p] : Int) 0) s
   have h4 : 0 ≤ s * (n * gI a1 (op[p] : Int) 0 / s) := Int.mul_nonneg (by omega) (Int.ediv_nonneg mP.1 (by omega))
   omega
  omega⟩
 rw [Zj (by omega) (by omega)]
 unfold restQ rsD
 simp [List.getD, hp, hq]) K
theorem upN_mid {A B : List Nat} {x i : Nat} (h : A.length = i) {β : Type} (F : List C → Option β) : ZaG (upN (A ++ x :: B)) i F = F [.d (.int .i64 (x : Int))] := by
 rw [upN_at (by simp; omega)]
 simp [← h]
theorem upN_set {A B : List Nat} {x y i : Nat} (h : A.length = i) : ((upN (A ++ x :: B)).modify i fun c => Zq c 0 [.d (.int .i64 (y : Int))]) = upN (A ++ y :: B) := by
 have e : ∀ z, upN (A ++ z :: B) = upN A ++ [.d (.int .i64 (z : Int))] :: upN B := fun z => by simp [upN]
 rw [e, e, Zaf (by rw [Ybd]; exact h)]
 simp [Zq]
theorem insQ_fv {n s : Int} {a1 : LD} {op : List Nat} (g1 : Zi RI lim a1) (hop : ∀ i ∈ op, i < a1.length) (hw : ∀ i, i < a1.length → 0 ≤ gI a1 (i : Int) 0 ∧ gI a1 (i : Int) 0 ≤ 1000) (hn : 0 ≤ n) (hn2 : n ≤ 10000) (hs : 0 < s) (h0 : 0 < op.length) (hl : op.length < 20) {k : Nat} (hk : Z3 k) {β : Type} (K : LC → Option β) :
  Yc.f k (upN (List.range op.length)) 0 (op.length : Int) n a1 (ofN op) s K = K (upN (Ya8 (restQ n (fun i => gI a1 (i : Int) 0) op s) (List.range op.length))) := Yc.f_of (by
 have hb : big = 2 ^ 64 := rfl
 unfold Yc.t Yc.g
 generalize hr : restQ n (fun i => gI a1 (i : Int) 0) op s = r
 have hw1 : IntKind.wrap .i64 ((0 : Int) + 1) = 1 := Zj (by decide) (by decide)
 rw [hw1]
 have hrange : ∀ i, i ≤ op.length → List.range op.length = List.range i ++ List.range' i (op.length - i) := fun i hi => by
  rw [List.range_eq_range', List.range_eq_range', show List.range' i (op.length - i) = List.range' (0 + 1 * i) (op.length - i) by simp, List.range'_append, show i + (op.length - i) = op.length by omega]
 have hst : (upN (List.range op.length)) = upN (Ya8 r (List.range 1) ++ List.range' 1 (op.length - 1)) := by
  rw [hrange 1 (by omega)]
  rfl
 rw [hst]
 refine iter_seq (f := fun t => ((0 : Int), (op.length : Int), n, a1, ofN op, s, ((t + 1 : Nat) : Int), upN (Ya8 r (List.range (t + 1)) ++ List.range' (t + 1) (op.length - (t + 1))))) (n := op.length - 1) (by unfold Z3 at hk; omega) (fun L t ht => ?_) (fun L => ?_)
 ·simp only [Yc.l0, Yc.m0]
  rw [ZQ (show ((t + 1 : Nat) : Int) < (op.length : Int) by omega)]
  simp only [cond_true]
  obtain ⟨s1, s2, s3⟩ := Ybb (r := r) (l := List.range (t + 1)) List.pairwise_lt_range
  rw [List.length_range] at s3
  have hrest : List.range' (t + 1) (op.length - (t + 1)) = (t + 1) :: List.range' (t + 1 + 1) (op.length - (t + 1 + 1)) := by
   rw [show op.length - (t + 1) = (op.length - (t + 1 + 1)) + 1 by omega, List.range'_succ]
  have hnext : Ya8 r (List.range (t + 1 + 1)) = insD r (t + 1) (Ya8 r (List.range (t + 1))) := by
   unfold Ya8
   rw [List.range_succ (n := t + 1), List.foldl_append]
   rfl
  rw [hrest, hnext]
  generalize Ya8 r (List.range (t + 1)) = S at s1 s2 s3 ⊢
  generalize List.range' (t + 1 + 1) (op.length - (t + 1 + 1)) = T
  refine iter_val (fun v : Int × LC => v.1.toNat) (fun v => ∃ A B, S = A ++ B ∧ v.1 = (A.length : Int) ∧ v.2 = upN (A ++ (t + 1) :: (B ++ T)) ∧ ∀ y ∈ B, r y < r (t + 1)) (fun _ => L ((0 : Int), (op.length : Int), n, a1, ofN op, s, ((t + 1 + 1 : Nat) : Int), upN (insD r (t + 1) S ++ T))) ?_ k _ ⟨S, [], by simp, by simp only []; omega, rfl, by simp⟩ (by unfold Z3 at hk; simp only []; omega)
  rintro ⟨j, rows⟩ ⟨A, B, hS, hj, hrow, hB⟩ L1 hL
  simp only [] at hj hrow hL
  subst hj hrow
  have hlt : ∀ y ∈ S, y < t + 1 := fun y hy => List.mem_range.mp ((s2 y).mp hy)
  have hlen : S.length = A.length + B.length := by rw [hS]; simp
  have hwt : IntKind.wrap .i64 (((t + 1 : Nat) : Int) + 1) = ((t + 1 + 1 : Nat) : Int) := by rw [Zj (by omega) (by omega)]; omega
  simp only [Yc.l1, hwt]
  have hdone : (∀ y ∈ A, r (t + 1) ≤ r y) → L ((0 : Int), (op.length : Int), n, a1, ofN op, s, ((t + 1 + 1 : Nat) : Int), upN (A ++ (t + 1) :: (B ++ T))) = L ((0 : Int), (op.length : Int), n, a1, ofN op, s, ((t + 1 + 1 : Nat) : Int), upN (insD r (t + 1) S ++ T)) := fun h => by
   rw [hS, insD_split h hB]
   simp
  rcases List.eq_nil_or_concat A with rfl | ⟨A', y, rfl⟩
  ·rw [ZV (by simp)]
   simp only [cond_false]
   exact hdone (by simp)
  ·simp only [List.concat_eq_append] at hS hlen hdone hL ⊢
   have hyS : y ∈ S := by rw [hS]; simp
   have hyl := hlt y hyS
   have hAl : (A' ++ [y]).length = A'.length + 1 := by simp
   have hw2 : IntKind.wrap .i64 (((A' ++ [y]).length : Int) - 1) = (A'.length : Int) := by rw [Zj (by omega) (by omega)]; omega
   rw [ZQ (show ((A' ++ [y]).length : Int) > 0 by omega)]
   simp only [cond_true, hw2]
   have e1 : A' ++ [y] ++ (t + 1) :: (B ++ T) = A' ++ y :: ((t + 1) :: (B ++ T)) := by simp
   have hlen2 : (upN (A' ++ [y] ++ (t + 1) :: (B ++ T))).length = A'.length + 2 + B.length + T.length := by rw [Ybd]; simp; omega
   rw [ZaP ⟨by omega, by rw [hlen2]; omega⟩, Int.toNat_natCast, upN_mid rfl]
   simp only [List.drop_zero, ZY, cD_at, Zad]
   rw [ZaP ⟨by omega, by rw [hlen2]; omega⟩, Int.toNat_natCast, e1, upN_mid rfl]
   simp only [List.drop_zero, ZY, cD_at, Zad]
   rw [cmpQ_fv g1 hop hw hn hn2 hs (by omega) (by omega), hr]
   by_cases hc : r y < r (t + 1)
   ·rw [ZQ (show r y - r (t + 1) < 0 by omega)]
    simp only [cond_true]
    rw [← e1, ZaP ⟨by omega, by rw [hlen2]; omega⟩, e1, upN_mid rfl]
    simp only [List.drop_zero, ZY, cD_at, Zad]
    rw [← e1, ZaP ⟨by omega, by rw [hlen2]; omega⟩, upN_mid rfl]
    simp only [List.drop_zero, ZY, cD_at, Zad]
    have e2 : ((upN (A' ++ [y] ++ (t + 1) :: (B ++ T))).modify (A' ++ [y]).length fun c => Zq c 0 [.d (.int .i64 (y : Int))]) = upN (A' ++ y :: (y :: (B ++ T))) := by rw [upN_set rfl]; simp
    have hlen3 : (upN (A' ++ y :: (y :: (B ++ T)))).length = A'.length + 2 + B.length + T.length := by rw [Ybd]; simp; omega
    simp only [e2]
    rw [ZaP ⟨by omega, by rw [hlen2]; omega⟩, ZaP (by rw [hlen2]; omega), ZaP ⟨by omega, by rw [hlen3]; omega⟩, ZaP (by rw [hlen3]; omega), upN_set rfl]
    exact hL _ ⟨A', y :: B, by rw [hS]; simp, rfl, rfl, fun z hz => by rcases List.mem_cons.mp hz with rfl | hz; exact hc; exact hB z hz⟩ (by simp only []; omega)
   ·rw [ZV (show ¬ r y - r (t + 1) < 0 by omega)]
    simp only [cond_false]
    rw [← e1]
    refine hdone fun z hz => ?_
    rcases List.mem_append.mp hz with hz | hz
    ·have hp := List.pairwise_append.mp (hS ▸ s1)
     have hp2 := (List.pairwise_append.mp hp.1).2.2 z hz y (by simp)
     rcases hp2 with q | q <;> omega
    ·simp at hz; subst hz; omega
 ·simp only [Yc.l0, Yc.m0]
  rw [ZV (by omega)]
  simp only [cond_false]
  rw [show op.length - 1 + 1 = op.length by omega]
  simp) K
theorem sortQ_fv {n s : Int} {a1 : LD} {op : List Nat} {w : Nat → Int} (hwd : w = fun i : Nat => gI a1 (i : Int) 0) (g1 : Zi RI lim a1) (hop : ∀ i ∈ op, i < a1.length) (hw : ∀ i, i < a1.length → 0 ≤ w i ∧ w i ≤ 1000) (hn : 0 ≤ n) (hn2 : n ≤ 10000) (hs : 0 < s) (h0 : 0 < op.length) (hl : op.length < 20) {k : Nat} (hk : Z3 k) {β : Type} (K : LC → Option β) :
  Yy.f k (upN (List.range op.length)) n a1 (ofN op) s K = K (upN (Ya8 (restQ n w op s) (List.range op.length))) := Yy.f_of (by
 subst hwd
 have hb : big = 2 ^ 64 := rfl
 have hins := fun {β : Type} (K : LC → Option β) => insQ_fv (K := K) g1 hop hw hn hn2 hs h0 hl hk
 obtain ⟨_, _, s3⟩ := Ybb (r := restQ n (fun i => gI a1 (i : Int) 0) op s) (l := List.range op.length) List.pairwise_lt_range
 have hlen2 : (upN (Ya8 (restQ n (fun i => gI a1 (i : Int) 0) op s) (List.range op.length))).length = (upN (List.range op.length)).length := by rw [Ybd, Ybd, s3]
 generalize Ya8 (restQ n (fun i => gI a1 (i : Int) 0) op s) (List.range op.length) = S at *
 unfold Yy.t Yy.g
 have hst : ∀ {β : Type} (K : LC → Option β), Yb.f k (upN (List.range op.length)) ((upN (List.range op.length)).length : Int) n a1 (ofN op) s K = K (upN S) := fun {β} K => Yb.f_of (by
  unfold Yb.t Yb.g
  rw [Ybd, List.length_range, iter_step (by unfold Z3 at hk; omega)]
  simp only [Yb.l0, Yb.m0]
  rw [ZV (show ¬ (20 : Int) ≤ (op.length : Int) by omega)]
  simp only [cond_false]
  rw [hins, ZaP hlen2, iter_step (by unfold Z3 at hk; omega)]
  simp only [Yb.l1, Yb.m1]
  rw [ZV (show ¬ (20 : Int) < (op.length : Int) by omega)]
  rfl) K
 rw [hst, ZaP hlen2]) K
theorem Yq.f_of {β : Type} {k a0 a1 a2 z0} (h : Yq.t k a0 a1 a2 = some z0) (K : LC → Option β) : Yq.f k a0 a1 a2 K = K z0 := by unfold Yq.f; rw [h]; rfl
theorem Ybr {f : Nat → Int} {l : List Nat} {i : Nat} (h : i < l.length) : ((l.take (i + 1)).map f).sum = ((l.take i).map f).sum + f l[i] := by
 rw [List.take_add_one, List.getElem?_eq_getElem h]
 simp only [Option.toList, List.map_append, List.sum_append, List.map_cons, List.map_nil, List.sum_cons, List.sum_nil]
 omega
theorem rowF_snoc (i : Nat) (g : Nat → C) : YaL i g ++ [[g i]] = YaL (i + 1) g := by simp [YaL, List.range_succ]
theorem flat_upN (l : List Nat) : flatC (upN l) = true := by simp [flatC, upN, scalC, Zau]
theorem bsD_le {w : Nat → Int} {n s : Int} {i : Nat} (hn : 0 ≤ n) (hn2 : n ≤ 10000) (hs : 0 < s) (hw : 0 ≤ w i ∧ w i ≤ 1000) : 0 ≤ n * w i ∧ n * w i ≤ 10000000 ∧ 0 ≤ bsD w n s i ∧ bsD w n s i ≤ 10000000 := by
 have h0 : 0 ≤ n * w i := Int.mul_nonneg hn hw.1
 have h1 : n * w i ≤ 10000000 := by have := Int.mul_le_mul hn2 hw.2 hw.1 (by decide : (0 : Int) ≤ 10000); omega
 refine ⟨h0, h1, Int.tdiv_nonneg h0 (by omega), ?_⟩
 unfold bsD
 rw [Int.tdiv_eq_ediv_of_nonneg h0]
 have := Int.ediv_le_self s h0
 omega
theorem getD_at {l : List Nat} {p : Nat} (h : p < l.length) : l.getD p 0 = l[p] := by simp [List.getD, h]
theorem map_getD (l : List Nat) : (List.range l.length).map (fun p => l.getD p 0) = l := by
 refine List.ext_getElem (by simp) fun j h1 h2 => ?_
 simp [List.getD, h2]
def chP (w : Nat → Int) (n s : Int) (op : List Nat) : List Nat := (Ya8 (restQ n w op s) (List.range op.length)).take (lfD w n s op).toNat
theorem chP_chD {w : Nat → Int} {n s : Int} {op : List Nat} : chD w n s op = (chP w n s op).map fun p => op.getD p 0 := by
 unfold chD chP
 conv => lhs; rw [← map_getD op, isortD_map]
 rw [map_getD, ← List.map_take]
 rfl
theorem chP_mem {w : Nat → Int} {n s : Int} {op : List Nat} (hnd : op.Nodup) {p : Nat} (hp : p < op.length) : op[p] ∈ chD w n s op ↔ p ∈ chP w n s op := by
 rw [chP_chD, List.mem_map]
 have hlt : ∀ q ∈ chP w n s op, q < op.length := fun q hq => List.mem_range.mp (((Ybb (r := restQ n w op s) List.pairwise_lt_range).2.1 q).mp (List.mem_of_mem_take hq))
 constructor
 ·rintro ⟨q, hq, e⟩
  have hql := hlt q hq
  rw [getD_at hql] at e
  have := (List.getElem_inj (h₀ := hql) (h₁ := hp) hnd).mp e
  exact this ▸ hq
 ·exact fun h => ⟨p, h, getD_at hp⟩
set_option maxRecDepth 100000 in
theorem quotas_fv {n : Int} {a1 : LD} {op : List Nat} {w : Nat → Int} (hwd : w = fun i : Nat => gI a1 (i : Int) 0) (g1 : Zi RI lim a1) (hp : op.Pairwise (· < ·)) (hop : ∀ i ∈ op, i < a1.length) (hw : ∀ i, i < a1.length → 0 ≤ w i ∧ w i ≤ 1000) (hw0 : ∀ i ∈ op, 0 < w i) (hn : 0 < n) (hn2 : n ≤ 10000) (h0 : op ≠ []) (hl : op.length < 20) {k : Nat} (hk : Z3 k) {β : Type} (K : LC → Option β) :
  Yq.f k n a1 (ofN op) K = K (YaL op.length (cI fun p => xD w n (smL w op) op (op.getD p 0))) := Yq.f_of (by
 have hb : big = 2 ^ 64 := rfl
 have hmost : ZN = 2 ^ 36 := rfl
 have hlen := g1.1
 have hkk : op.length < k := by unfold Z3 at hk; omega
 have hl0 : 0 < op.length := List.length_pos_iff.mpr h0
 obtain ⟨f1, f2, f3, f4⟩ := lfD_bound (Int.le_of_lt hn) hw0 h0
 have hsum : ∀ l : List Nat, (∀ i ∈ l, i ∈ op) → l.length < 20 → 0 ≤ (l.map w).sum ∧ (l.map w).sum ≤ 20000 := fun l h h2 => by
  have := sum_le (f := w) (b := 1000) (l := l) fun i hi => hw i (hop i (h i hi))
  omega
 have hbs : ∀ i, i < a1.length → 0 ≤ n * w i ∧ n * w i ≤ 10000000 ∧ 0 ≤ bsD w n (smL w op) i ∧ bsD w n (smL w op) i ≤ 10000000 := fun i hi => bsD_le (Int.le_of_lt hn) hn2 f1 (hw i hi)
 have hsumb : ∀ l : List Nat, (∀ i ∈ l, i ∈ op) → l.length < 20 → 0 ≤ (l.map (bsD w n (smL w op))).sum ∧ (l.map (bsD w n (smL w op))).sum ≤ 200000000 := fun l h h2 => by
  have := sum_le (f := bsD w n (smL w op)) (b := 10000000) (l := l) fun i hi => (hbs i (hop i (h i hi))).2.2
  omega
 have hgw : ∀ i : Nat, gI a1 (i : Int) 0 = w i := fun i => by rw [hwd]
 unfold Yq.t Yq.g
 refine iter_seq (f := fun i => ((i : Int), ((op.take i).map w).sum)) (n := op.length) hkk (fun L i hi => ?_) (fun L => ?_)
 ·have hi2 := hop op[i] (List.getElem_mem hi)
  simp only [Yq.l0, Yq.m0, atR, rdQ, Q.ask, ofN_len]
  rw [ZQ (show (i : Int) < (op.length : Int) by omega)]
  simp only [cond_true, ofN_at hi, ZY, Zad, Z6]
  simp (disch := omega) only [RI.row g1, ZY, Zad, Z6, hgw]
  have q1 := hsum (op.take i) (fun z hz => List.mem_of_mem_take hz) (by rw [List.length_take]; omega)
  have q2 := hw op[i] hi2
  rw [Zj (by omega) (by omega), Zj (by omega) (by omega), Ybr hi]
  rfl
 simp only [Yq.l0, Yq.m0, atR, rdQ, Q.ask, ofN_len]
 rw [ZV (show ¬ (op.length : Int) < (op.length : Int) by omega)]
 simp only [cond_false, List.take_length]
 change Zo _ k _ = _
 rw [show (op.map w).sum = smL w op from rfl]
 generalize hs : smL w op = s at *
 rw [show ((n, 0, []) : Int × Int × LC) = (n - ((op.take 0).map (bsD w n s)).sum, ((0 : Nat) : Int), YaL 0 (cI fun p => bsD w n s (op.getD p 0))) from by simp [YaL]]
 refine iter_seq (f := fun i => (n - ((op.take i).map (bsD w n s)).sum, (i : Int), YaL i (cI fun p => bsD w n s (op.getD p 0)))) (n := op.length) hkk (fun L i hi => ?_) (fun L => ?_)
 ·have hi2 := hop op[i] (List.getElem_mem hi)
  obtain ⟨m1, m2, m3, m4⟩ := hbs op[i] hi2
  simp only [Yq.l1, Yq.m1, atR, rdQ, Q.ask]
  rw [ZQ (show (i : Int) < (op.length : Int) by omega)]
  simp only [cond_true, ofN_at hi, ZY, Zad, Z6]
  simp (disch := omega) only [RI.row g1, ZY, Zad, Z6, hgw]
  have q1 := hsumb (op.take i) (fun z hz => List.mem_of_mem_take hz) (by rw [List.length_take]; omega)
  have e : Int.tdiv (n * w op[i]) s = bsD w n s op[i] := rfl
  rw [ZaP (show s ≠ 0 by omega), ZaP (by simp only [Yav, List.length_cons, List.length_nil]; omega), ZaP (show s ≠ 0 by omega)]
  rw [Zj (x := n * w op[i]) (by omega) (by omega), e, Zj (x := bsD w n s op[i]) (by omega) (by omega), Zj (x := (i : Int) + 1) (by omega) (by omega), Zj (by omega) (by omega), Ybr hi]
  have e2 : YaL (i + 1) (cI fun p => bsD w n s (op.getD p 0)) = YaL i (cI fun p => bsD w n s (op.getD p 0)) ++ [[.d (.int .i64 (bsD w n s op[i]))]] := by
   rw [← rowF_snoc]
   show _ ++ [[C.d (.int .i64 (bsD w n s (op.getD i 0)))]] = _
   rw [getD_at hi]
  rw [e2, Int.sub_sub]
  rfl
 simp only [Yq.l1, Yq.m1, atR, rdQ, Q.ask]
 rw [ZV (show ¬ (op.length : Int) < (op.length : Int) by omega)]
 simp only [cond_false, List.take_length, ofN_len]
 rw [show n - (op.map (bsD w n s)).sum = lfD w n s op from rfl]
 refine iter_seq (f := fun i => ((i : Int), upN (List.range i))) (n := op.length) hkk (fun L i hi => ?_) (fun L => ?_)
 ·simp only [Yq.l2, Yq.m2]
  rw [ZQ (show (i : Int) < (op.length : Int) by omega)]
  simp only [cond_true]
  rw [ZaP (by simp only [Ybd, List.length_range, List.length_cons, List.length_nil]; omega), Zj (by omega) (by omega), show [[C.d (.int .i64 (i : Int))]] = upN [i] from rfl, upN_app, ← List.range_succ]
  rfl
 simp only [Yq.l2, Yq.m2]
 rw [ZV (show ¬ (op.length : Int) < (op.length : Int) by omega)]
 simp only [cond_false]
 have hsort : ∀ (K : LC → Option LC), Yy.f k (upN (List.range op.length)) n a1 (ofN op) s K = K (upN (Ya8 (restQ n w op s) (List.range op.length))) := fun K => sortQ_fv hwd g1 hop hw (Int.le_of_lt hn) hn2 f1 hl0 hl hk K
 rw [hsort]
 obtain ⟨s1, s2, s3⟩ := Ybb (r := restQ n w op s) (l := List.range op.length) List.pairwise_lt_range
 rw [List.length_range] at s3
 have hnd0 : op.Nodup := hp.imp fun h e => by subst e; omega
 have hnd : (Ya8 (restQ n w op s) (List.range op.length)).Nodup := s1.imp fun {i j} h e => by subst e; rcases h with h | h <;> omega
 have hch : ∀ p, p < op.length → (op.getD p 0 ∈ chD w n s op ↔ p ∈ chP w n s op) := fun p hp => by rw [getD_at hp]; exact chP_mem hnd0 hp
 have htk : (upN (Ya8 (restQ n w op s) (List.range op.length))).take (lfD w n s op).toNat = upN (chP w n s op) := by unfold upN chP; rw [List.map_take]
 have hP1 : (chP w n s op).length = (lfD w n s op).toNat := by unfold chP; rw [List.length_take, s3]; omega
 have hP2 : ∀ p ∈ chP w n s op, p < op.length := fun p h => List.mem_range.mp ((s2 p).mp (List.mem_of_mem_take h))
 have hP3 : (chP w n s op).Nodup := hnd.sublist (List.take_sublist _ _)
 simp only [Ybd, s3, List.length_range]
 rw [ZaP ⟨trivial, flat_upN _⟩, ZaP ⟨f2, by omega⟩, htk]
 generalize hCe : chP w n s op = Z at *
 have hstart : YaL op.length (cI fun p => bsD w n s (op.getD p 0)) = YaL op.length (cI fun p => bsD w n s (op.getD p 0) + if p ∈ Z.take 0 then 1 else 0) := Ya7 fun j hj => by simp
 rw [hstart, Ybd]
 refine iter_seq (f := fun i => ((i : Int), YaL op.length (cI fun p => bsD w n s (op.getD p 0) + if p ∈ Z.take i then 1 else 0))) (n := Z.length) (by omega) (fun L i hi => ?_) (fun L => ?_)
 ·have hci := hP2 Z[i] (List.getElem_mem hi)
  have hbi := hbs op[Z[i]] (hop _ (List.getElem_mem hci))
  simp only [Yq.l3]
  rw [ZQ (show (i : Int) < (Z.length : Int) by omega)]
  simp only [cond_true]
  rw [ZaP ⟨by omega, by rw [Ybd]; omega⟩, Int.toNat_natCast, upN_at hi]
  simp only [List.drop_zero, ZY, cD_at, Zad]
  rw [ZaP ⟨by omega, by rw [Yav]; omega⟩, Int.toNat_natCast, Ya9 hci]
  simp only [List.drop_zero, ZY, cD_at, Zad]
  have hn1 : Z[i] ∉ Z.take i := fun h => by
   obtain ⟨j, hj, e⟩ := List.getElem_of_mem h
   rw [List.getElem_take] at e
   rw [List.length_take] at hj
   have := (List.getElem_inj (h₀ := by omega) (h₁ := hi) hP3).mp e
   omega
  rw [ZaP ⟨by omega, by rw [Yav]; omega⟩, ZaP (by rw [Yav]; exact hci), if_neg hn1, getD_at hci, Zj (x := (i : Int) + 1) (by omega) (by omega), Zj (by omega) (by omega), Ybf hci]
  congr 2
  refine Ya7 fun j hj => ?_
  have hm : j ∈ Z.take (i + 1) ↔ j ∈ Z.take i ∨ j = Z[i] := by rw [List.take_add_one, List.getElem?_eq_getElem hi]; simp only [Option.toList, List.mem_append, List.mem_singleton]
  by_cases hjc : j = Z[i]
  ·subst hjc
   rw [if_pos rfl]
   show C.d (.int .i64 (bsD w n s op[Z[i]] + 0 + 1)) = .d (.int .i64 (bsD w n s (op.getD Z[i] 0) + if Z[i] ∈ Z.take (i + 1) then 1 else 0))
   rw [if_pos (hm.mpr (Or.inr rfl)), getD_at hci, Int.add_zero]
  ·rw [if_neg hjc]
   show C.d (.int .i64 (bsD w n s (op.getD j 0) + if j ∈ Z.take i then 1 else 0)) = .d (.int .i64 (bsD w n s (op.getD j 0) + if j ∈ Z.take (i + 1) then 1 else 0))
   by_cases hm1 : j ∈ Z.take i
   ·rw [if_pos hm1, if_pos (hm.mpr (Or.inl hm1))]
   ·rw [if_neg hm1, if_neg fun h => (hm.mp h).elim hm1 hjc]
 ·simp only [Yq.l3]
  rw [ZV (show ¬ (Z.length : Int) < (Z.length : Int) by omega)]
  simp only [cond_false, List.take_length]
  congr 1
  refine Ya7 fun p hp' => ?_
  show C.d (.int .i64 (bsD w n s (op.getD p 0) + if p ∈ Z then 1 else 0)) = .d (.int .i64 (bsD w n s (op.getD p 0) + if op.getD p 0 ∈ chD w n s op then 1 else 0))
  simp only [hch p hp']) K
end Go.Proofs.YtppfencdbabmeaaGreat
