/- Printed, and by hand: the functions that FnPlans reaches come to their end; the program's answer as the reference's. -/
import Derived.Test.YtpgplbalenfgfaaXFnPlans1
import Derived.KernelRfl
set_option linter.unusedVariables false
set_option linter.unusedSimpArgs false
namespace Go.Proofs.Ytpgplbalenfgfaa
open Go Go.T Go.Proofs
theorem mem_modify {α : Type} {P : α → Prop} {f : α → α} (hf : ∀ x, P x → P (f x)) : ∀ {xs : List α} {j : Nat}, (∀ x ∈ xs, P x) → ∀ x ∈ xs.modify j f, P x
 | [], j, h, x, hx => by cases j <;> cases hx
 | y :: xs, 0, h, x, hx => by
  simp only [List.modify_zero_cons] at hx
  rcases List.mem_cons.mp hx with rfl | hx
  ·exact hf y (h y (by simp))
  ·exact h x (by simp [hx])
 | y :: xs, j + 1, h, x, hx => by
  simp only [List.modify_succ_cons] at hx
  rcases List.mem_cons.mp hx with rfl | hx
  ·exact h x (by simp)
  ·exact mem_modify hf (fun z hz => h z (by simp [hz])) x hx
theorem YaM {α : Type} {P : α → Prop} {xs : List α} {y : α} (h : ∀ x ∈ xs, P x) (hy : P y) : ∀ x ∈ xs ++ [y], P x := by
 intro x hx
 rcases List.mem_append.mp hx with q | q
 ·exact h x q
 ·simp at q; subst q; exact hy
theorem wf_of {x : Int} (h0 : -9223372036854775808 ≤ x) (h1 : x ≤ 9223372036854775807) : (Lit.int .i64 x).wf = true := by
 simp [Lit.wf, IntKind.min, IntKind.max, IntKind.signed, IntKind.bits]
 omega
theorem big_lv1 {n : Nat} (h : n ≤ 4398046511104) : big + n ≤ lv 1 := by
 have hb : big = 2 ^ 64 := rfl
 have : lv 1 = 2 ^ 65 := rfl
 omega
theorem ZaA (n : Int) : n = 1 ∨ n = 2 ∨ n = 3 ∨ n = 4 ∨ n = 5 ∨ ((n == 1) = false ∧ (n == 2) = false ∧ (n == 3) = false ∧ (n == 4) = false ∧ (n == 5) = false) := by
 simp only [beq_eq_false_iff_ne]
 omega
theorem delR_deep {pr : List D → Option Bool} {q : List D → Bool} : ∀ {e : LD}, (∀ r ∈ e, pr r = some (q r)) → delR pr (Zb e) = some (Zb (e.filter fun r => !q r))
 | [], _ => rfl
 | r :: e, h => by
  simp only [Zb, delR, ZcQ, h r (by simp), delR_deep (e := e) fun x hx => h x (by simp [hx])]
  rw [List.filter_cons]
  cases q r <;> rfl
theorem delK_deep {ix : LD → Option Int} {pr : List D → Option Bool} {q : List D → Bool} {d : LD} (hl : d.length ≤ 1048576) (hix : ix d = some (Zbo (fun i => q (gR d (i : Int))) d.length)) (h : ∀ r ∈ d, pr r = some (q r)) : delK ix pr (Zb d) = some (Zb (d.filter fun r => !q r)) := by
 unfold delK
 rw [ZO, hix]
 have hg : ∀ i (hi : i < d.length), gR d (i : Int) = d[i] := fun i hi => by
  have := gR_at (xs := d) (v := (i : Int)) (by omega) (by omega)
  rw [Int.toNat_natCast, List.getElem?_eq_getElem hi] at this
  injection this with this
  exact this.symm
 by_cases hz : Zbo (fun i => q (gR d (i : Int))) d.length < 0
 ·obtain ⟨h1, h2⟩ := findI_none hz
  simp only [h1, if_true]
  congr 2
  symm
  rw [List.filter_eq_self]
  intro x hx
  obtain ⟨i, hi, rfl⟩ := List.mem_iff_getElem.mp hx
  have := h2 i hi
  rw [hg i hi] at this
  rw [this]; rfl
 ·obtain ⟨h1, h2, h3, h4⟩ := findI_some (p := fun i => q (gR d (i : Int))) (n := d.length) (by omega)
  generalize Zbo (fun i => q (gR d (i : Int))) d.length = z at *
  simp only [show ¬ z = -1 by omega, if_false]
  rw [ZaP ⟨by omega, by rw [Zw]; omega, by rw [Zw]; omega⟩]
  have ht : ∀ m, m ≤ d.length → (Zb d).take m = Zb (d.take m) ∧ (Zb d).drop m = Zb (d.drop m) := fun m hm => by
   have e : Zb d = Zb (d.take m) ++ Zb (d.drop m) := by rw [← Zai, List.take_append_drop]
   have l : (Zb (d.take m)).length = m := by rw [Zw, List.length_take]; omega
   rw [e]
   exact ⟨List.take_left' l, List.drop_left' l⟩
  rw [(ht z.toNat (by omega)).1, (ht (z.toNat + 1) (by omega)).2, delR_deep fun r hr => h r (List.mem_of_mem_drop hr)]
  simp only []
  rw [← Zai]
  congr 2
  have h5 : d = d.take z.toNat ++ (d[z.toNat] :: d.drop (z.toNat + 1)) := by rw [List.getElem_cons_drop, List.take_append_drop]
  conv => rhs; rw [h5]
  rw [List.filter_append, List.filter_cons]
  have h7 : q d[z.toNat] = true := by have := h2; rwa [hg _ h1] at this
  rw [h7]
  simp only [Bool.not_true, Bool.false_eq_true, if_false]
  congr 1
  symm
  rw [List.filter_eq_self]
  intro x hx
  obtain ⟨i, hi, rfl⟩ := List.mem_iff_getElem.mp hx
  rw [List.length_take] at hi
  have := h4 i (by omega)
  rw [hg i (by omega)] at this
  rw [List.getElem_take, this]; rfl
def insD (r : Nat → Int) (x : Nat) : List Nat → List Nat
 | [] => [x]
 | y :: l => if r y < r x then x :: y :: l else y :: insD r x l
def YaI (r : Nat → Int) (l : List Nat) : List Nat := l.foldl (fun a x => insD r x a) []
def AheadD (r : Nat → Int) (i j : Nat) : Prop := r j < r i ∨ (r i = r j ∧ i < j)
theorem insD_mem {r : Nat → Int} {x z : Nat} : ∀ {l : List Nat}, z ∈ insD r x l ↔ z = x ∨ z ∈ l
 | [] => by simp [insD]
 | y :: l => by
  unfold insD
  split
  ·simp
  ·simp only [List.mem_cons, insD_mem (l := l)]
   constructor
   ·rintro (h | h | h) <;> simp [h]
   ·rintro (h | h | h) <;> simp [h]
theorem insD_len {r : Nat → Int} {x : Nat} : ∀ {l : List Nat}, (insD r x l).length = l.length + 1
 | [] => rfl
 | y :: l => by
  unfold insD
  split
  ·simp
  ·simp [insD_len (l := l)]
theorem insD_pair {r : Nat → Int} {x : Nat} : ∀ {l : List Nat}, l.Pairwise (AheadD r) → (∀ y ∈ l, y < x) → (insD r x l).Pairwise (AheadD r)
 | [], _, _ => by simp [insD]
 | y :: l, h, hx => by
  obtain ⟨h1, h2⟩ := List.pairwise_cons.mp h
  unfold insD
  split
  ·rename_i hr
   refine List.pairwise_cons.mpr ⟨fun z hz => ?_, h⟩
   rcases List.mem_cons.mp hz with rfl | hz
   ·exact .inl hr
   ·rcases h1 z hz with q | q
    ·exact .inl (by omega)
    ·exact .inl (by omega)
  ·rename_i hr
   refine List.pairwise_cons.mpr ⟨fun z hz => ?_, insD_pair h2 fun z hz => hx z (by simp [hz])⟩
   rcases insD_mem.mp hz with rfl | hz
   ·have := hx y (by simp)
    by_cases he : r y = r z
    ·exact .inr ⟨he, this⟩
    ·exact .inl (by omega)
   ·exact h1 z hz
theorem foldD {r : Nat → Int} : ∀ (l a : List Nat), a.Pairwise (AheadD r) → l.Pairwise (· < ·) → (∀ y ∈ a, ∀ x ∈ l, y < x) →
  (l.foldl (fun a x => insD r x a) a).Pairwise (AheadD r) ∧ (∀ z, z ∈ l.foldl (fun a x => insD r x a) a ↔ z ∈ a ∨ z ∈ l) ∧ (l.foldl (fun a x => insD r x a) a).length = a.length + l.length
 | [], a, h, _, _ => ⟨h, by simp, by simp⟩
 | x :: l, a, h, hl, hx => by
  obtain ⟨h1, h2⟩ := List.pairwise_cons.mp hl
  obtain ⟨q1, q2, q3⟩ := foldD l (insD r x a) (insD_pair h fun y hy => hx y hy x (by simp)) h2 (fun y hy z hz => by
   rcases insD_mem.mp hy with rfl | hy
   ·exact h1 z hz
   ·exact hx y hy z (by simp [hz]))
  refine ⟨q1, fun z => ?_, by rw [List.foldl_cons, q3, insD_len, List.length_cons]; omega⟩
  rw [List.foldl_cons, q2, insD_mem, List.mem_cons]
  constructor
  ·rintro ((h | h) | h) <;> simp [h]
  ·rintro (h | h | h) <;> simp [h]
theorem YaP {r : Nat → Int} {l : List Nat} (hl : l.Pairwise (· < ·)) : (YaI r l).Pairwise (AheadD r) ∧ (∀ z, z ∈ YaI r l ↔ z ∈ l) ∧ (YaI r l).length = l.length := by
 obtain ⟨h1, h2, h3⟩ := foldD (r := r) l [] (by simp) hl (by simp)
 exact ⟨h1, fun z => by rw [YaI, h2]; simp, by rw [YaI, h3]; simp⟩
theorem insD_map {r : Nat → Int} {f : Nat → Nat} {x : Nat} : ∀ {l : List Nat}, insD r (f x) (l.map f) = (insD (fun i => r (f i)) x l).map f
 | [] => rfl
 | y :: l => by
  simp only [List.map_cons, insD]
  split
  ·rfl
  ·rw [insD_map (l := l)]; rfl
theorem isortD_map {r : Nat → Int} {f : Nat → Nat} {l : List Nat} : YaI r (l.map f) = (YaI (fun i => r (f i)) l).map f := by
 have : ∀ (l a : List Nat), (l.map f).foldl (fun a x => insD r x a) (a.map f) = (l.foldl (fun a x => insD (fun i => r (f i)) x a) a).map f := by
  intro l
  induction l with
  | nil => intro a; rfl
  | cons x l ih => intro a; simp only [List.map_cons, List.foldl_cons, insD_map, ih]
 exact this l []
def bestD (r : Nat → Int) : List Nat → Option Nat → Option Nat
 | [], b => b
 | i :: l, none => bestD r l (some i)
 | i :: l, some b => if r b < r i then bestD r l (some i) else bestD r l (some b)
theorem bestD_some {r : Nat → Int} : ∀ {l : List Nat} {b : Nat}, (∀ i ∈ l, b < i) → l.Pairwise (· < ·) → ∃ c, bestD r l (some b) = some c ∧ (c = b ∨ c ∈ l) ∧ (c = b ∨ AheadD r c b) ∧ ∀ i ∈ l, i = c ∨ AheadD r c i
 | [], b, _, _ => ⟨b, rfl, .inl rfl, .inl rfl, by simp⟩
 | i :: l, b, h, hl => by
  obtain ⟨h1, h2⟩ := List.pairwise_cons.mp hl
  unfold bestD
  split
  ·rename_i hr
   obtain ⟨c, q1, q2, q3, q4⟩ := bestD_some (r := r) (b := i) h1 h2
   refine ⟨c, q1, .inr (by rcases q2 with h | h <;> simp [h]), .inr ?_, fun j hj => ?_⟩
   ·rcases q3 with rfl | q3
    ·exact .inl hr
    ·rcases q3 with q | q
     ·exact .inl (by omega)
     ·exact .inl (by omega)
   ·rcases List.mem_cons.mp hj with rfl | hj
    ·rcases q3 with rfl | q3
     ·exact .inl rfl
     ·exact .inr q3
    ·exact q4 j hj
  ·rename_i hr
   have hb := h i (by simp)
   obtain ⟨c, q1, q2, q3, q4⟩ := bestD_some (r := r) (b := b) (fun j hj => h j (by simp [hj])) h2
   refine ⟨c, q1, by rcases q2 with h | h <;> simp [h], q3, fun j hj => ?_⟩
   rcases List.mem_cons.mp hj with rfl | hj
   ·have hbi : AheadD r b j := by
     by_cases he : r b = r j
     ·exact .inr ⟨he, hb⟩
     ·exact .inl (by omega)
    rcases q3 with rfl | q3
    ·exact .inr hbi
    ·right
     rcases q3 with q | q <;> rcases hbi with p | p
     ·exact .inl (by omega)
     ·exact .inl (by omega)
     ·exact .inl (by omega)
     ·exact .inr ⟨by omega, by omega⟩
   ·exact q4 j hj
theorem best_next {r : Nat → Int} {l : List Nat} (hl : l.Pairwise (· < ·)) (h0 : ∀ i ∈ l, 0 ≤ r i) {t : Nat} (ht : t < l.length) {r' : Nat → Int}
  (hr : ∀ i ∈ l, r' i = if i ∈ (YaI r l).take t then -1 else r i) : bestD r' l none = (YaI r l)[t]? := by
 obtain ⟨s1, s2, s3⟩ := YaP (r := r) hl
 have hT : t < (YaI r l).length := by omega
 generalize YaI r l = S at s1 s2 s3 hr hT ⊢
 rw [List.getElem?_eq_getElem hT]
 cases l with
 | nil => simp at ht
 | cons a l =>
  obtain ⟨h1, h2⟩ := List.pairwise_cons.mp hl
  obtain ⟨c, q1, q2, q3, q4⟩ := bestD_some (r := r') h1 h2
  unfold bestD
  rw [q1]
  congr 1
  have hnd : S.Nodup := s1.imp fun {i j} h e => by subst e; rcases h with h | h <;> omega
  have hSt : S[t] ∉ S.take t := fun h => by
   obtain ⟨i, hi, he⟩ := List.mem_take_iff_getElem.mp h
   have := (List.getElem_inj hnd).mp he
   omega
  have hm : S[t] ∈ a :: l := (s2 _).mp (List.getElem_mem hT)
  have hrt : r' S[t] = r S[t] := by rw [hr _ hm, if_neg hSt]
  have h0t := h0 _ hm
  -- c is in the list, and nothing is ahead of it
  have hcm : c ∈ a :: l := by rcases q2 with h | h <;> simp [h]
  have hall : ∀ i ∈ a :: l, i = c ∨ AheadD r' c i := fun i hi => by
   rcases List.mem_cons.mp hi with rfl | hi
   ·rcases q3 with rfl | q
    ·exact .inl rfl
    ·exact .inr q
   ·exact q4 i hi
  rcases hall _ hm with h | h
  ·exact h.symm
  ·exfalso
   have hcn : c ∉ S.take t := fun hc => by
    have := hr c hcm
    rw [if_pos hc] at this
    rcases h with h | h <;> omega
   have hcr : r' c = r c := by rw [hr c hcm, if_neg hcn]
   obtain ⟨j, hj, rfl⟩ := List.mem_iff_getElem.mp ((s2 c).mpr hcm)
   have hjt : t < j := by
    rcases Nat.lt_trichotomy j t with q | q | q
    ·exact absurd (List.mem_take_iff_getElem.mpr ⟨j, by omega, rfl⟩) hcn
    ·subst q
     rcases h with h | h <;> omega
    ·exact q
   have := List.pairwise_iff_getElem.mp s1 t j hT hj hjt
   rw [AheadD, hrt, hcr] at h
   rcases this with p | p <;> rcases h with q | q <;> omega
section
variable (w c o : Nat → Int) (L : Nat) (n : Int)
def opB (i : Nat) : Bool := decide (0 < w i) && decide (o i < c i)
def opL : List Nat := (List.range L).filter (opB w c o)
def smL (l : List Nat) : Int := (l.map w).sum
abbrev smD : Int := smL w (opL w c o L)
def bsD (s : Int) (i : Nat) : Int := Int.tdiv (n * w i) s
def rsD (s : Int) (i : Nat) : Int := Int.tmod (n * w i) s
def lfD (s : Int) (l : List Nat) : Int := n - (l.map (bsD w n s)).sum
def chD (s : Int) (l : List Nat) : List Nat := (YaI (rsD w n s) l).take (lfD w n s l).toNat
def xD (s : Int) (l : List Nat) (i : Nat) : Int := bsD w n s i + if i ∈ chD w n s l then 1 else 0
def clD (s : Int) (l : List Nat) (i : Nat) : Int := if c i - o i < xD w n s l i then c i - o i else xD w n s l i
end
theorem sum_le {f : Nat → Int} {b : Int} : ∀ {l : List Nat}, (∀ i ∈ l, 0 ≤ f i ∧ f i ≤ b) → 0 ≤ (l.map f).sum ∧ (l.map f).sum ≤ b * l.length
 | [], _ => by simp
 | x :: l, h => by
  obtain ⟨q1, q2⟩ := sum_le (f := f) (b := b) (l := l) fun i hi => h i (by simp [hi])
  obtain ⟨p1, p2⟩ := h x (by simp)
  simp only [List.map_cons, List.sum_cons, List.length_cons]
  have : b * ((l.length + 1 : Nat) : Int) = b * (l.length : Int) + b := by rw [show ((l.length + 1 : Nat) : Int) = (l.length : Int) + 1 by omega, Int.mul_add, Int.mul_one]
  omega
theorem sum_split {w : Nat → Int} {n s : Int} (hs : 0 < s) (hn : 0 ≤ n) : ∀ {l : List Nat}, (∀ i ∈ l, 0 ≤ w i) → n * (l.map w).sum = s * (l.map (bsD w n s)).sum + (l.map (rsD w n s)).sum
 | [], _ => by simp
 | x :: l, h => by
  have ih := sum_split (w := w) hs hn (l := l) fun i hi => h i (by simp [hi])
  have h1 : s * bsD w n s x + rsD w n s x = n * w x := Int.mul_tdiv_add_tmod (n * w x) s
  simp only [List.map_cons, List.sum_cons]
  rw [Int.mul_add, Int.mul_add, ih, ← h1]
  omega
theorem rsD_bound {w : Nat → Int} {n s : Int} (hs : 0 < s) (hn : 0 ≤ n) {i : Nat} (h : 0 ≤ w i) : 0 ≤ rsD w n s i ∧ rsD w n s i < s ∧ 0 ≤ bsD w n s i := by
 have h0 : 0 ≤ n * w i := Int.mul_nonneg hn h
 exact ⟨Int.tmod_nonneg _ h0, Int.tmod_lt_of_pos _ hs, Int.tdiv_nonneg h0 (by omega)⟩
theorem lfD_bound {w : Nat → Int} {n : Int} {l : List Nat} (hn : 0 ≤ n) (hw : ∀ i ∈ l, 0 < w i) (hl : l ≠ []) : 0 < smL w l ∧ 0 ≤ lfD w n (smL w l) l ∧ lfD w n (smL w l) l < l.length ∧ 0 ≤ (l.map (bsD w n (smL w l))).sum := by
 have hs : 0 < smL w l := by
  cases l with
  | nil => exact absurd rfl hl
  | cons x l =>
   unfold smL
   have h1 := hw x (by simp)
   have h2 : 0 ≤ (l.map w).sum := by
    have : ∀ {l : List Nat}, (∀ i ∈ l, 0 < w i) → 0 ≤ (l.map w).sum := fun {l} => by
     induction l with
     | nil => simp
     | cons y l ih =>
      intro h
      have := h y (by simp)
      have := ih fun i hi => h i (by simp [hi])
      simp only [List.map_cons, List.sum_cons]
      omega
    exact this fun i hi => hw i (by simp [hi])
   simp only [List.map_cons, List.sum_cons]
   omega
 have hsp := sum_split (w := w) (n := n) hs hn (l := l) fun i hi => Int.le_of_lt (hw i hi)
 have hr := sum_le (f := rsD w n (smL w l)) (b := smL w l - 1) (l := l) fun i hi => by
  obtain ⟨p1, p2, _⟩ := rsD_bound (w := w) (n := n) hs hn (i := i) (Int.le_of_lt (hw i hi))
  omega
 change n * smL w l = _ at hsp
 have hb0 : 0 ≤ (l.map (bsD w n (smL w l))).sum := by
  have : ∀ {l' : List Nat} {s : Int}, 0 < s → (∀ i ∈ l', 0 < w i) → 0 ≤ (l'.map (bsD w n s)).sum := fun {l' s} hs => by
   induction l' with
   | nil => simp
   | cons y l ih =>
    intro h
    obtain ⟨_, _, p⟩ := rsD_bound (w := w) (n := n) hs hn (i := y) (Int.le_of_lt (h y (by simp)))
    have := ih fun i hi => h i (by simp [hi])
    simp only [List.map_cons, List.sum_cons]
    omega
  exact this hs hw
 generalize (l.map (rsD w n (smL w l))).sum = R at hsp hr
 have hlf : smL w l * lfD w n (smL w l) l = R := by
  unfold lfD
  rw [Int.mul_sub, Int.mul_comm _ n, hsp]
  omega
 refine ⟨hs, ?_, ?_, hb0⟩
 ·generalize lfD w n (smL w l) l = f at hlf
  apply Int.not_lt.mp
  intro h
  have := Int.mul_neg_of_pos_of_neg hs h
  omega
 ·generalize lfD w n (smL w l) l = f at hlf
  have h1 : smL w l * f < smL w l * l.length := by
   rw [hlf]
   have : (smL w l - 1) * (l.length : Int) = smL w l * l.length - l.length := by rw [Int.sub_mul, Int.one_mul]
   have h2 : 0 < l.length := List.length_pos_iff.mpr hl
   omega
  exact Int.lt_of_mul_lt_mul_left h1 (Int.le_of_lt hs)
theorem opL_facts {w c o : Nat → Int} {L : Nat} : (opL w c o L).Pairwise (· < ·) ∧ ∀ i, i ∈ opL w c o L ↔ i < L ∧ 0 < w i ∧ o i < c i := by
 refine ⟨List.Pairwise.filter _ List.pairwise_lt_range, fun i => ?_⟩
 simp [opL, opB]
theorem xD_sum {w : Nat → Int} {n : Int} {l : List Nat} (hp : l.Pairwise (· < ·)) (hn : 0 ≤ n) (hw : ∀ i ∈ l, 0 < w i) (hl : l ≠ []) : (l.map (xD w n (smL w l) l)).sum = n := by
 obtain ⟨h1, h2, h3, _⟩ := lfD_bound hn hw hl
 generalize hs : smL w l = s at h1 h2 h3
 obtain ⟨s1, s2, s3⟩ := YaP (r := rsD w n s) hp
 have hnd : (chD w n s l).Nodup := by
  have : (YaI (rsD w n s) l).Nodup := s1.imp fun {i j} h e => by subst e; rcases h with h | h <;> omega
  exact this.sublist (List.take_sublist _ _)
 have hlen : ((chD w n s l).length : Int) = lfD w n s l := by
  unfold chD
  rw [List.length_take, s3]
  omega
 have hsub : ∀ i ∈ chD w n s l, i ∈ l := fun i hi => (s2 i).mp (List.mem_of_mem_take hi)
 have hcount : ∀ (l : List Nat), l.Pairwise (· < ·) → ∀ (ch : List Nat), ch.Nodup → (∀ i ∈ ch, i ∈ l) → (l.map fun i => if i ∈ ch then (1 : Int) else 0).sum = ch.length := by
  intro l
  induction l with
  | nil =>
   intro _ ch _ h
   cases ch with
   | nil => rfl
   | cons x ch => exact absurd (h x (by simp)) (by simp)
  | cons x l ih =>
   intro hp ch hnd hsub
   obtain ⟨p1, p2⟩ := List.pairwise_cons.mp hp
   simp only [List.map_cons, List.sum_cons]
   have hx : x ∉ l := fun h => by have := p1 x h; omega
   have e : (l.map fun i => if i ∈ ch then (1 : Int) else 0) = l.map fun i => if i ∈ ch.erase x then (1 : Int) else 0 := List.map_congr_left fun i hi => by
    have : i ≠ x := fun h => hx (h ▸ hi)
    simp only [List.mem_erase_of_ne this]
   rw [e, ih p2 (ch.erase x) (hnd.erase x) fun i hi => by
    have hne : i ≠ x := fun h => by subst h; exact (List.Nodup.not_mem_erase hnd) hi
    rcases List.mem_cons.mp (hsub i (List.mem_of_mem_erase hi)) with h | h
    ·exact absurd h hne
    ·exact h]
   by_cases hm : x ∈ ch
   ·rw [if_pos hm, List.length_erase_of_mem hm]
    have := List.length_pos_of_mem hm
    omega
   ·rw [if_neg hm, List.erase_of_not_mem hm]
    omega
 have hadd : ∀ (l : List Nat) (f g : Nat → Int), (l.map fun i => f i + g i).sum = (l.map f).sum + (l.map g).sum := by
  intro l f g
  induction l with
  | nil => rfl
  | cons x l ih => simp only [List.map_cons, List.sum_cons, ih]; omega
 have : l.map (xD w n s l) = l.map fun i => bsD w n s i + (if i ∈ chD w n s l then (1 : Int) else 0) := rfl
 rw [this, hadd, hcount l hp _ hnd hsub, hlen]
 unfold lfD
 omega
theorem clD_sum {w c o : Nat → Int} {n : Int} {l : List Nat} (hp : l.Pairwise (· < ·)) (hn : 0 < n) (hw : ∀ i ∈ l, 0 < w i) (hc : ∀ i ∈ l, o i < c i) (hl : l ≠ []) :
  (∀ i ∈ l, 0 ≤ clD w c o n (smL w l) l i ∧ clD w c o n (smL w l) l i ≤ c i - o i ∧ 0 ≤ xD w n (smL w l) l i) ∧ 0 < (l.map (clD w c o n (smL w l) l)).sum ∧ (l.map (clD w c o n (smL w l) l)).sum ≤ n := by
 obtain ⟨h1, h2, h3, _⟩ := lfD_bound (Int.le_of_lt hn) hw hl
 have hx := xD_sum hp (Int.le_of_lt hn) hw hl
 generalize smL w l = s at *
 have hx0 : ∀ i ∈ l, 0 ≤ xD w n s l i := fun i hi => by
  obtain ⟨_, _, p⟩ := rsD_bound (w := w) (n := n) h1 (Int.le_of_lt hn) (i := i) (Int.le_of_lt (hw i hi))
  unfold xD
  split <;> omega
 have hcl : ∀ i ∈ l, 0 ≤ clD w c o n s l i ∧ clD w c o n s l i ≤ c i - o i ∧ clD w c o n s l i ≤ xD w n s l i ∧ (0 < xD w n s l i → 0 < clD w c o n s l i) := fun i hi => by
  have := hx0 i hi
  have := hc i hi
  unfold clD
  split <;> omega
 refine ⟨fun i hi => ⟨(hcl i hi).1, (hcl i hi).2.1, hx0 i hi⟩, ?_⟩
 have gen : ∀ l' : List Nat, (∀ i ∈ l', i ∈ l) → 0 ≤ (l'.map (clD w c o n s l)).sum ∧ (l'.map (clD w c o n s l)).sum ≤ (l'.map (xD w n s l)).sum ∧ (0 < (l'.map (xD w n s l)).sum → 0 < (l'.map (clD w c o n s l)).sum) := by
  intro l'
  induction l' with
  | nil => intro _; simp
  | cons y l' ih =>
   intro h
   obtain ⟨q1, q2, q3⟩ := ih fun i hi => h i (by simp [hi])
   obtain ⟨p1, _, p2, p3⟩ := hcl y (h y (by simp))
   have := hx0 y (h y (by simp))
   simp only [List.map_cons, List.sum_cons]
   refine ⟨by omega, by omega, fun h => ?_⟩
   by_cases h0 : 0 < xD w n s l y
   ·have := p3 h0; omega
   ·have := q3 (by omega); omega
 have := gen l fun i hi => hi
 rw [hx] at this
 exact ⟨this.2.2 hn, this.2.1⟩
def Yak (L : Nat) (g : Nat → C) : LC := (List.range L).map fun j => [g j]
def rowD (L : Nat) (g : Nat → D) : LD := (List.range L).map fun j => [g j]
abbrev cI (o : Nat → Int) : Nat → C := fun j => .d (.int .i64 (o j))
abbrev cB (o : Nat → Bool) : Nat → C := fun j => .d (.bool (o j))
theorem Yab (L : Nat) (g : Nat → C) : (Yak L g).length = L := by simp [Yak]
theorem YaN (L : Nat) (g : Nat → D) : (rowD L g).length = L := by simp [rowD]
theorem YaF {L : Nat} {g h : Nat → C} (e : ∀ j, j < L → g j = h j) : Yak L g = Yak L h := List.map_congr_left fun j hj => by rw [e j (List.mem_range.mp hj)]
theorem YaH {L : Nat} {g : Nat → C} {i : Nat} (h : i < L) {β : Type} (F : List C → Option β) : ZaG (Yak L g) i F = F [g i] := by
 unfold ZaG Yak
 rw [List.getElem?_map, List.getElem?_range h]
 rfl
theorem YaV {L : Nat} {g : Nat → C} {i : Nat} (h : i < L) (x : C) : ((Yak L g).modify i fun c => Zq c 0 [x]) = Yak L (fun j => if j = i then x else g j) := by
 refine List.ext_getElem (by simp [Yak]) fun j h1 h2 => ?_
 rw [List.getElem_modify]
 simp only [Yak, List.getElem_map, List.getElem_range]
 by_cases hj : i = j
 ·subst hj; simp [Zq]
 ·rw [if_neg hj, if_neg (fun h => hj h.symm)]
theorem rowF_rep (L : Nat) (x : C) : List.replicate L [x] = Yak L (fun _ => x) := by
 refine List.ext_getElem (by simp [Yak]) fun j h1 h2 => ?_
 simp [Yak]
theorem Ya8 : ∀ (l : LC), C.immRows l = l.map C.immCells
 | [] => rfl
 | x :: l => by simp only [C.immRows, List.map_cons, Ya8 l]
theorem imm_rowF (L : Nat) (g : Nat → C) : C.immRows (Yak L g) = rowD L (fun j => (g j).imm) := by
 rw [Ya8, Yak, rowD, List.map_map]
 rfl
theorem rowD_at {L : Nat} {g : Nat → D} {i : Nat} (h : i < L) {β : Type} (F : List D → Option β) : Zbw (rowD L g) (i : Int) F = F [g i] := by
 unfold Zbw
 rw [if_pos (by omega), Int.toNat_natCast]
 unfold ZaG rowD
 rw [List.getElem?_map, List.getElem?_range h]
 rfl
theorem deep_rowI {L : Nat} {o : Nat → Int} : Zb (rowD L (fun j => .int .i64 (o j))) = Yak L (cI o) := by
 have : ∀ l : List Nat, Zb (l.map fun j => [D.int .i64 (o j)]) = l.map fun j => [C.d (.int .i64 (o j))] := fun l => by
  induction l with
  | nil => rfl
  | cons x l ih => simp only [List.map_cons, Zb, ZZ, ZbW, ih]
 exact this _
def upN (l : List Nat) : LC := l.map fun (x : Nat) => [.d (.int .i64 (x : Int))]
def ofN (l : List Nat) : LD := l.map fun (x : Nat) => [.int .i64 (x : Int)]
theorem YaS (l : List Nat) : (upN l).length = l.length := by simp [upN]
theorem ofN_len (l : List Nat) : (ofN l).length = l.length := by simp [ofN]
theorem upN_app (a b : List Nat) : upN a ++ upN b = upN (a ++ b) := by simp [upN]
theorem imm_upN (l : List Nat) : C.immRows (upN l) = ofN l := by
 rw [Ya8, upN, ofN, List.map_map]
 rfl
theorem upN_at {l : List Nat} {i : Nat} (h : i < l.length) {β : Type} (F : List C → Option β) : ZaG (upN l) i F = F [.d (.int .i64 (l[i] : Int))] := by simp [ZaG, upN, h]
theorem ofN_at {l : List Nat} {i : Nat} (h : i < l.length) {β : Type} (F : List D → Option β) : Zbw (ofN l) (i : Int) F = F [.int .i64 (l[i] : Int)] := by
 unfold Zbw
 rw [if_pos (by omega), Int.toNat_natCast]
 simp [ZaG, ofN, h]
theorem YaK (p : Nat → Bool) (i : Nat) : (List.range (i + 1)).filter p = (List.range i).filter p ++ (if p i then [i] else []) := by
 rw [List.range_succ, List.filter_append]
 simp [List.filter_cons]
theorem YaJ.f_of {β : Type} {k a0 z0} (h : YaJ.t k a0 = some z0) (K : Bool → Option β) : YaJ.f k a0 K = K z0 := by unfold YaJ.f; rw [h]; rfl
def RI8 (B : Nat) (r : List D) : Prop := ∃ (c0 : Int), r = [.int .u8 c0] ∧ (Lit.int .u8 c0).wf = true ∧ True
theorem RI8.open {B : Nat} {r : List D} (h : RI8 B r) : ∃ (c0 : Int), r = [.int .u8 c0] ∧ (Lit.int .u8 c0).wf = true ∧ True := h
theorem RI8.mono {B B' : Nat} (hb : B ≤ B') {r : List D} (h : RI8 B r) : RI8 B' r := by
 obtain ⟨c0, rfl, k0, _⟩ := h
 exact ⟨_, rfl, k0, trivial⟩
theorem RI8.wide {xs : LD} (h : Zi RI8 lim xs) : Zi RI8 2097152 xs := ⟨Nat.le_trans h.1 (by decide), fun r hr => (h.2 r hr).mono (by decide)⟩
theorem RI8.len {B : Nat} {r : List D} (h : RI8 B r) : r.length = 1 := by
 obtain ⟨c0, rfl, _⟩ := h.open
 rfl
theorem RI8.flat {B : Nat} {xs : LD} (h : ∀ r ∈ xs, RI8 B r) : ZaZ 1 xs := fun r hr => by
 obtain ⟨c0, rfl, _⟩ := (h r hr).open
 exact ⟨rfl, by simp [Zau]⟩
theorem RI8.wt {B : Nat} {xs : LD} (h : ∀ r ∈ xs, RI8 B r) : Zp xs = 1 * xs.length := wt_flat (R := RI8 B) (fun r h => by obtain ⟨c0, rfl, _⟩ := h; rfl) xs h
theorem RI8.deep {B : Nat} {xs : LD} (h : ∀ r ∈ xs, RI8 B r) : Zb xs = xs.map (·.map C.d) := deep_flat (R := RI8 B) (fun r h => by obtain ⟨c0, rfl, _⟩ := h; rfl) xs h
theorem RI8.gets {B : Nat} {xs : LD} (h : ∀ r ∈ xs, RI8 B r) {v : Int} (h0 : 0 ≤ v) (h1 : v < xs.length) : gR xs v = [.int .u8 (gI xs v 0)] ∧ (Lit.int .u8 (gI xs v 0)).wf = true ∧ True := by
 obtain ⟨c0, e, k0, _⟩ := (h (gR xs v) (gR_mem h0 h1)).open
 unfold gI
 rw [e]
 exact ⟨rfl, k0, trivial⟩
theorem RI8.rows {B : Nat} {xs : LD} (h : ∀ r ∈ xs, RI8 B r) {v : Int} (h0 : 0 ≤ v) (h1 : v < xs.length) {β : Type} (F : List D → Option β) : Zbw xs v F = F [.int .u8 (gI xs v 0)] := by
 rw [← (RI8.gets h h0 h1).1]
 exact Zbp h0 h1 F
theorem RI8.get {B : Nat} {xs : LD} (h : Zi RI8 B xs) {v : Int} (h0 : 0 ≤ v) (h1 : v < xs.length) : gR xs v = [.int .u8 (gI xs v 0)] ∧ (Lit.int .u8 (gI xs v 0)).wf = true ∧ True := RI8.gets h.2 h0 h1
theorem RI8.row {B : Nat} {xs : LD} (h : Zi RI8 B xs) {v : Int} (h0 : 0 ≤ v) (h1 : v < xs.length) {β : Type} (F : List D → Option β) : Zbw xs v F = F [.int .u8 (gI xs v 0)] := RI8.rows h.2 h0 h1 F
theorem Yac.f_of {β : Type} {k a0 z0 z1 z2} (h : Yac.t k a0 = some (z0, z1, z2)) (K : LD → Int → Int → Option β) : Yac.f k a0 K = K z0 z1 z2 := by unfold Yac.f; rw [h]; rfl
theorem Yaz.f_of {β : Type} {k aB aC aA z0 z1 z2 z3} (h : Yaz.t k aB aC aA = some (z0, z1, z2, z3)) (K : Int → LD → Int → Int → Option β) : Yaz.f k aB aC aA K = K z0 z1 z2 z3 := by unfold Yaz.f; rw [h]; rfl
theorem YL.f_of {β : Type} {k aB aC aA a1 z0 z1 z2 z3} (h : YL.t k aB aC aA a1 = some (z0, z1, z2, z3)) (K : Int → LD → Int → Int → Option β) : YL.f k aB aC aA a1 K = K z0 z1 z2 z3 := by unfold YL.f; rw [h]; rfl
theorem Ya4 {V β : Type} {b : (V → Option β) → V → Option β} (m : V → Nat) (Inv : V → Prop) (Q : Option β → Prop) (step : ∀ v, Inv v → ∀ L, (∀ v', Inv v' → m v' < m v → Q (L v')) → Q (b L v)) : ∀ {k : Nat} {v : V}, Inv v → m v < k → Q (Zo b k v)
 | 0, v, _, h => absurd h (Nat.not_lt_zero _)
 | k + 1, v, hv, h => step v hv (Zo b k) fun v' hv' hlt => Ya4 m Inv Q step hv' (by omega)
structure Cur (b : LD) (i : Int) : Prop where
 rows : Zi RI8 lim b
 ge : 0 ≤ i
 le : i ≤ 1048576
theorem and255 (x : Int) : 0 ≤ IntKind.wrap .i64 ((BitVec.ofInt (IntKind.bits .i64) x &&& BitVec.ofInt (IntKind.bits .i64) 255).toNat) ∧ IntKind.wrap .i64 ((BitVec.ofInt (IntKind.bits .i64) x &&& BitVec.ofInt (IntKind.bits .i64) 255).toNat) ≤ 255 := by
 have h : (BitVec.ofInt (IntKind.bits .i64) x &&& BitVec.ofInt (IntKind.bits .i64) 255).toNat ≤ 255 := by
  rw [BitVec.toNat_and]
  exact Nat.le_trans Nat.and_le_right (by decide)
 rw [Zj (by omega) (by omega)]
 omega
set_option maxRecDepth 100000 in
theorem byte_ex {b : LD} {i h : Int} {k : Nat} (c : Cur b i) : ∃ x i' h', 0 ≤ x ∧ x ≤ 255 ∧ Cur b i' ∧ Yaz.t k b i h = some (x, b, i', h') := by
 have hl := c.rows.1
 have hlim : lim = 1048576 := rfl
 have h0 := c.ge
 have h1 := c.le
 unfold Yaz.t Yaz.g; simp only [atR, rdQ, Q.ask]
 simp only [ZaP (show (0 : Int) ≤ 33 by decide), ZaP (show (0 : Int) ≤ 47 by decide)]
 by_cases hc : i < (b.length : Int)
 ·simp only [ZQ hc, cond_true, atR, rdQ, Q.ask]
  rw [RI8.row c.rows h0 hc]
  simp only [ZY, Zad, Z6]
  exact ⟨_, _, _, (and255 _).1, (and255 _).2, ⟨c.rows, by rw [Zj (by omega) (by omega)]; omega, by rw [Zj (by omega) (by omega)]; omega⟩, rfl⟩
 ·simp only [ZV hc, cond_false]
  exact ⟨_, _, _, (and255 _).1, (and255 _).2, c, rfl⟩
theorem tmod_in {x n : Int} (h0 : 0 ≤ x) (hn : 0 < n) : 0 ≤ Int.tmod x n ∧ Int.tmod x n < n := ⟨Int.tmod_nonneg _ h0, Int.tmod_lt_of_pos _ hn⟩
theorem YaO {b : LD} {i h n : Int} {k : Nat} (c : Cur b i) : ∃ x i' h', 0 ≤ x ∧ (0 < n → x < n) ∧ (n ≤ 0 → x = 0) ∧ Cur b i' ∧ YL.t k b i h n = some (x, b, i', h') := by
 unfold YL.t YL.g
 by_cases hn : n ≤ 0
 ·simp only [ZQ hn, cond_true]
  exact ⟨_, _, _, Int.le_refl 0, fun _ => by omega, fun _ => rfl, c, rfl⟩
 ·simp only [ZV hn, cond_false]
  have hn0 : 0 < n := by omega
  by_cases h2 : n ≤ 256
  ·simp only [ZQ h2, cond_true]
   obtain ⟨x, i', h', x0, x1, c', e⟩ := byte_ex (k := k) (h := h) c
   rw [Yaz.f_of e, ZaP (by omega)]
   exact ⟨_, _, _, (tmod_in x0 hn0).1, fun _ => (tmod_in x0 hn0).2, fun _ => by omega, c', rfl⟩
  ·simp only [ZV h2, cond_false]
   obtain ⟨x, i1, h1, x0, x1, c1, e1⟩ := byte_ex (k := k) (h := h) c
   obtain ⟨y, i2, h2, y0, y1, c2, e2⟩ := byte_ex (k := k) (h := h1) c1
   obtain ⟨z, i3, h3, z0, z1, c3, e3⟩ := byte_ex (k := k) (h := h2) c2
   rw [Yaz.f_of e1, Yaz.f_of e2, Yaz.f_of e3, ZaP (by omega)]
   have hw : 0 ≤ IntKind.wrap .i64 ((IntKind.wrap .i64 ((IntKind.wrap .i64 (x * 65536)) + (IntKind.wrap .i64 (y * 256)))) + z) := by
    rw [Zj (x := x * 65536) (by omega) (by omega), Zj (x := y * 256) (by omega) (by omega), Zj (x := x * 65536 + y * 256) (by omega) (by omega), Zj (by omega) (by omega)]
    omega
   exact ⟨_, _, _, (tmod_in hw hn0).1, fun _ => (tmod_in hw hn0).2, fun _ => by omega, c3, rfl⟩
set_option maxRecDepth 100000 in
theorem new_ex {b : LD} {k : Nat} (g : Zi RI8 lim b) (hk : Z3 k) : ∃ h', Yac.t k b = some (b, 0, h') := by
 have hl := g.1
 have hlim : lim = 1048576 := rfl
 have hb : big = 2 ^ 64 := rfl
 have key : ∀ n : Nat, ∀ (v : Int) (j : Int), 0 ≤ j → j ≤ b.length → (b.length : Int) - j ≤ n → ∀ k', n < k' → ∃ h', Zo (Yac.l0 k b (fun z0 z1 z2 => some (z0, z1, z2))) k' (v, j) = some (b, 0, h') := by
  intro n
  induction n with
  | zero =>
   intro v j j0 j1 hn k' hk'
   rw [iter_step (by omega)]
   simp only [Yac.l0, atR, rdQ, Q.ask, ZV (show ¬ j < (b.length : Int) by omega), cond_false]
   exact ⟨_, rfl⟩
  | succ n ih =>
   intro v j j0 j1 hn k' hk'
   rw [iter_step (by omega)]
   simp only [Yac.l0, atR, rdQ, Q.ask, atR, rdQ, Q.ask]
   by_cases h1 : j < (b.length : Int)
   ·by_cases h2 : j < 4000
    ·simp only [ZQ h1, ZQ h2, cond_true]
     rw [RI8.row g j0 h1]
     simp only [ZY, Zad, Z6]
     rw [Zj (x := j + 1) (by omega) (by omega)]
     exact ih _ _ (by omega) (by omega) (by omega) _ (by omega)
    ·simp only [ZQ h1, ZV h2, cond_true, cond_false]
     exact ⟨_, rfl⟩
   ·simp only [ZV h1, cond_false]
    exact ⟨_, rfl⟩
 unfold Yac.t Yac.g
 exact key b.length _ 0 (by omega) (by omega) (by omega) k (by unfold Z3 at hk; omega)
theorem Cur.new {b : LD} (g : Zi RI8 lim b) : Cur b 0 := ⟨g, by omega, by omega⟩
theorem Yah.f_of {β : Type} {k aB aC aA a1 z0 z1 z2 z3} (h : Yah.t k aB aC aA a1 = some (z0, z1, z2, z3)) (K : Int → LD → Int → Int → Option β) : Yah.f k aB aC aA a1 K = K z0 z1 z2 z3 := by unfold Yah.f; rw [h]; rfl
set_option maxRecDepth 100000 in
theorem int_ex {b : LD} {i h : Int} {k : Nat} (c : Cur b i) (l : List Int) (hl : 0 < l.length) : ∃ x i' h', x ∈ l ∧ Cur b i' ∧ Yah.t k b i h (l.map fun x => [.int .i64 x]) = some (x, b, i', h') := by
 obtain ⟨x, i', h', x0, x1, -, c', e⟩ := YaO (k := k) (h := h) (n := (l.length : Int)) c
 have x1 := x1 (by omega)
 unfold Yah.t Yah.g; simp only [atR, rdQ, Q.ask]
 rw [List.length_map, YL.f_of e, Zbp x0 (by rw [List.length_map]; exact x1)]
 have e2 : gR (l.map fun x => [D.int .i64 x]) x = [.int .i64 (l[x.toNat]'(by omega))] := by
  unfold gR
  rw [List.getD_eq_getElem?_getD, List.getElem?_map, List.getElem?_eq_getElem (by omega)]
  rfl
 rw [e2]
 simp only [ZY, Zad, Z6]
 exact ⟨_, _, _, List.getElem_mem _, c', rfl⟩
theorem YZ.f_of {β : Type} {k aB aC aA a1 z0 z1 z2 z3} (h : YZ.t k aB aC aA a1 = some (z0, z1, z2, z3)) (K : Bool → LD → Int → Int → Option β) : YZ.f k aB aC aA a1 K = K z0 z1 z2 z3 := by unfold YZ.f; rw [h]; rfl
theorem Ya3 {b : LD} {i h n : Int} {k : Nat} (c : Cur b i) : ∃ x i' h', Cur b i' ∧ YZ.t k b i h n = some (x, b, i', h') := by
 obtain ⟨x, i', h', -, -, -, c', e⟩ := YaO (k := k) (h := h) (n := n) c
 unfold YZ.t YZ.g
 rw [YL.f_of e]
 exact ⟨_, _, _, c', rfl⟩
theorem YaB.f_of {β : Type} {k aB aC aA a1 z0 z1 z2 z3} (h : YaB.t k aB aC aA a1 = some (z0, z1, z2, z3)) (K : BA → LD → Int → Int → Option β) : YaB.f k aB aC aA a1 K = K z0 z1 z2 z3 := by unfold YaB.f; rw [h]; rfl
theorem Yaj.f_of {β : Type} {k aB aC aA z0 z1 z2 z3} (h : Yaj.t k aB aC aA = some (z0, z1, z2, z3)) (K : BA → LD → Int → Int → Option β) : Yaj.f k aB aC aA K = K z0 z1 z2 z3 := by unfold Yaj.f; rw [h]; rfl
theorem Yx.f_of {β : Type} {k a0 a1 z0 z1} (h : Yx.t k a0 a1 = some (z0, z1)) (K : BA → Bool → Option β) : Yx.f k a0 a1 K = K z0 z1 := by unfold Yx.f; rw [h]; rfl
theorem Yx.tm {ι α : Type} {ok : ι → Prop} {ψ : α → Prop} {p : ι → Nat} {B : Nat} (hp : ∀ i, ok i → B ≤ p i) {a0 a1 φ} (h : Tm (fun k => B ≤ k) (fun k => Yx.t k a0 a1) φ) {G : ι → BA → Bool → Option α} (hG : ∀ z0 z1, φ (z0, z1) → Tm ok (fun i => G i z0 z1) ψ) : Tm ok (fun i => Yx.f (p i) a0 a1 (G i)) ψ := bd2_tm (t := fun k => Yx.t k a0 a1) hp h hG
def RSS (B : Nat) (r : List D) : Prop := ∃ (c0 : BA) (c1 : BA), r = [.str c0, .str c1] ∧ c0.size ≤ B ∧ c1.size ≤ B ∧ True
theorem RSS.open {B : Nat} {r : List D} (h : RSS B r) : ∃ (c0 : BA) (c1 : BA), r = [.str c0, .str c1] ∧ c0.size ≤ B ∧ c1.size ≤ B ∧ True := h
theorem RSS.mono {B B' : Nat} (hb : B ≤ B') {r : List D} (h : RSS B r) : RSS B' r := by
 obtain ⟨c0, c1, rfl, k0, k1, _⟩ := h
 exact ⟨_, _, rfl, (Nat.le_trans k0 hb), (Nat.le_trans k1 hb), trivial⟩
theorem RSS.wide {xs : LD} (h : Zi RSS lim xs) : Zi RSS 2097152 xs := ⟨Nat.le_trans h.1 (by decide), fun r hr => (h.2 r hr).mono (by decide)⟩
theorem RSS.len {B : Nat} {r : List D} (h : RSS B r) : r.length = 2 := by
 obtain ⟨c0, c1, rfl, _⟩ := h.open
 rfl
theorem RSS.flat {B : Nat} {xs : LD} (h : ∀ r ∈ xs, RSS B r) : ZaZ 2 xs := fun r hr => by
 obtain ⟨c0, c1, rfl, _⟩ := (h r hr).open
 exact ⟨rfl, by simp [Zau]⟩
theorem RSS.wt {B : Nat} {xs : LD} (h : ∀ r ∈ xs, RSS B r) : Zp xs = 2 * xs.length := wt_flat (R := RSS B) (fun r h => by obtain ⟨c0, c1, rfl, _⟩ := h; rfl) xs h
theorem RSS.deep {B : Nat} {xs : LD} (h : ∀ r ∈ xs, RSS B r) : Zb xs = xs.map (·.map C.d) := deep_flat (R := RSS B) (fun r h => by obtain ⟨c0, c1, rfl, _⟩ := h; rfl) xs h
theorem RSS.gets {B : Nat} {xs : LD} (h : ∀ r ∈ xs, RSS B r) {v : Int} (h0 : 0 ≤ v) (h1 : v < xs.length) : gR xs v = [.str (gS xs v 0), .str (gS xs v 1)] ∧ (gS xs v 0).size ≤ B ∧ (gS xs v 1).size ≤ B ∧ True := by
 obtain ⟨c0, c1, e, k0, k1, _⟩ := (h (gR xs v) (gR_mem h0 h1)).open
 unfold gS
 rw [e]
 exact ⟨rfl, k0, k1, trivial⟩
theorem RSS.rows {B : Nat} {xs : LD} (h : ∀ r ∈ xs, RSS B r) {v : Int} (h0 : 0 ≤ v) (h1 : v < xs.length) {β : Type} (F : List D → Option β) : Zbw xs v F = F [.str (gS xs v 0), .str (gS xs v 1)] := by
 rw [← (RSS.gets h h0 h1).1]
 exact Zbp h0 h1 F
theorem RSS.get {B : Nat} {xs : LD} (h : Zi RSS B xs) {v : Int} (h0 : 0 ≤ v) (h1 : v < xs.length) : gR xs v = [.str (gS xs v 0), .str (gS xs v 1)] ∧ (gS xs v 0).size ≤ B ∧ (gS xs v 1).size ≤ B ∧ True := RSS.gets h.2 h0 h1
theorem RSS.row {B : Nat} {xs : LD} (h : Zi RSS B xs) {v : Int} (h0 : 0 ≤ v) (h1 : v < xs.length) {β : Type} (F : List D → Option β) : Zbw xs v F = F [.str (gS xs v 0), .str (gS xs v 1)] := RSS.rows h.2 h0 h1 F
set_option maxRecDepth 100000 in
theorem Yx.T {a0 : LD} {a1 : BA} (ga0 : Zi RSS lim a0) (ga1 : a1.size ≤ lim) : Tm Z3 (fun k => Yx.t k a0 a1) (fun z => z.1.size ≤ lim) := by
 unfold Yx.t Yx.g
 have hm := Zy
 have hlim : lim = 1048576 := rfl
 have la0 := ga0.1
 refine Tm.loop (okk := Z3) (p := fun k => k) (fun i hi => hi) (b := fun k => Yx.l0 k a0 a1 (fun z0 z1 => some (z0, z1))) (fun i => (((a0.length : Int)) - i).toNat) (fun i => 0 ≤ i ∧ i ≤ (a0.length : Int)) ?_ ?_ ?_
 ·rintro i hI
  try simp only [] at hI ⊢
  have : big = 2 ^ 64 := rfl
  omega
 ·((try simp only []); omega)
 ·rintro i hI L hL
  try simp only [] at hI
  obtain ⟨i0, i1⟩ := hI
  simp only [Yx.l0, atR, rdQ, Q.ask]
  refine Tm.ite (fun h1 => ?_) (fun h1 => ?_)
  ·try simp only [bz0, bz1, bz2, bz3, bz4, bz5, bz6, bz7, bz8, bz9, bza] at h1
   refine Tm.atRow (by first | assumption | omega) (by first | assumption | omega) (fun x2 hx3 hm4 => ?_)
   obtain ⟨c5, c6, rfl, g7, g8, _⟩ := (ga0.2 x2 hm4).open
   refine Tm.uncons ?_
   refine Tm.dStr ?_
   refine Tm.uncons ?_
   refine Tm.dStr ?_
   refine Tm.atEnd ?_
   refine Tm.ite (fun h9 => ?_) (fun h9 => ?_)
   ·try simp only [bz0, bz1, bz2, bz3, bz4, bz5, bz6, bz7, bz8, bz9, bza] at h9
    refine Tm.atRow (by first | assumption | omega) (by first | assumption | omega) (fun x10 hx11 hm12 => ?_)
    rw [hx3] at hx11
    injection hx11 with hx11
    subst hx11
    refine Tm.uncons ?_
    refine Tm.dStr ?_
    refine Tm.uncons ?_
    refine Tm.dStr ?_
    refine Tm.atEnd ?_
    exact Tm.ret (by first | assumption | (simp only [lim]; decide))
   ·try simp only [bz0, bz1, bz2, bz3, bz4, bz5, bz6, bz7, bz8, bz9, bza] at h9
    try rw [Zj (x := i + 1) (by omega) (by omega)]
    exact hL _ (by (try simp only []); omega) (by (try simp only []); omega)
  ·try simp only [bz0, bz1, bz2, bz3, bz4, bz5, bz6, bz7, bz8, bz9, bza] at h1
   exact Tm.ret (by first | assumption | (simp only [lim]; decide))
noncomputable def Yx.v (a0 : LD) (a1 : BA) : BA × Bool := (Yx.t big a0 a1).getD default
theorem Yx.tv {a0 : LD} {a1 : BA} (ga0 : Zi RSS lim a0) (ga1 : a1.size ≤ lim) {k : Nat} (hk : Z3 k) : Yx.t k a0 a1 = some (Yx.v a0 a1) := (Yx.T ga0 ga1).val hk
theorem Yx.fv {a0 : LD} {a1 : BA} (ga0 : Zi RSS lim a0) (ga1 : a1.size ≤ lim) {k : Nat} (hk : Z3 k) {β : Type} (K : BA → Bool → Option β) : Yx.f k a0 a1 K = K ((Yx.v a0 a1).1) ((Yx.v a0 a1).2) := Yx.f_of (Yx.tv ga0 ga1 hk) K
theorem Y4.f_of {β : Type} {k a0 a1 a2 z0} (h : Y4.t k a0 a1 a2 = some z0) (K : Bool → Option β) : Y4.f k a0 a1 a2 K = K z0 := by unfold Y4.f; rw [h]; rfl
theorem Y4.tm {ι α : Type} {ok : ι → Prop} {ψ : α → Prop} {p : ι → Nat} {B : Nat} (hp : ∀ i, ok i → B ≤ p i) {a0 a1 a2 φ} (h : Tm (fun k => B ≤ k) (fun k => Y4.t k a0 a1 a2) φ) {G : ι → Bool → Option α} (hG : ∀ z0, φ z0 → Tm ok (fun i => G i z0) ψ) : Tm ok (fun i => Y4.f (p i) a0 a1 a2 (G i)) ψ := ZK (t := fun k => Y4.t k a0 a1 a2) hp h hG
theorem Y4.T {a0 a1 a2 : Int} : Tm Z3 (fun k => Y4.t k a0 a1 a2) (fun r => r = true → a1 ≤ a0 ∧ a0 ≤ a2) := by
 unfold Y4.t Y4.g
 have hm := Zy
 have hlim : lim = 1048576 := rfl
 refine Tm.ite (fun h1 => ?_) (fun h1 => ?_)
 ·try simp only [bz0, bz1, bz2, bz3, bz4, bz5, bz6, bz7, bz8, bz9, bza] at h1
  exact Tm.ret (by first | (intro h; simp at h; omega) | (intro h; cases h))
 ·try simp only [bz0, bz1, bz2, bz3, bz4, bz5, bz6, bz7, bz8, bz9, bza] at h1
  exact Tm.ret (by first | (intro h; simp at h; omega) | (intro h; cases h))
theorem l1In_f {β : Type} {k : Nat} {a b c : Int} (K : Bool → Option β) : Y4.f k a b c K = K (decide (b ≤ a) && decide (a ≤ c)) := by
 refine Y4.f_of ?_ K
 unfold Y4.t Y4.g
 by_cases h : b ≤ a <;> simp [h]
def inB (a b c : Int) : Bool := decide (b ≤ a) && decide (a ≤ c)
theorem l1In_fv {β : Type} {k : Nat} {a b c : Int} (K : Bool → Option β) : Y4.f k a b c K = K (inB a b c) := l1In_f K
theorem Yn.f_of {β : Type} {k a0 z0} (h : Yn.t k a0 = some z0) (K : Bool → Option β) : Yn.f k a0 K = K z0 := by unfold Yn.f; rw [h]; rfl
theorem Yn.tm {ι α : Type} {ok : ι → Prop} {ψ : α → Prop} {p : ι → Nat} {B : Nat} (hp : ∀ i, ok i → B ≤ p i) {a0 φ} (h : Tm (fun k => B ≤ k) (fun k => Yn.t k a0) φ) {G : ι → Bool → Option α} (hG : ∀ z0, φ z0 → Tm ok (fun i => G i z0) ψ) : Tm ok (fun i => Yn.f (p i) a0 (G i)) ψ := ZK (t := fun k => Yn.t k a0) hp h hG
theorem Yn.T {a0 : BA} (ga0 : a0.size ≤ lim) : Tm Z3 (fun k => Yn.t k a0) (fun _ => True) := by
 unfold Yn.t Yn.g
 have hm := Zy
 have hlim : lim = 1048576 := rfl
 refine Tm.loop (okk := Z3) (p := fun k => k) (fun i hi => hi) (b := fun k => Yn.l0 k a0 (fun z0 => some z0)) (fun i => (((a0.size : Int)) - i).toNat) (fun i => 0 ≤ i ∧ i ≤ (a0.size : Int)) ?_ ?_ ?_
 ·rintro i hI
  try simp only [] at hI ⊢
  have : big = 2 ^ 64 := rfl
  omega
 ·((try simp only []); omega)
 ·rintro i hI L hL
  try simp only [] at hI
  obtain ⟨i0, i1⟩ := hI
  simp only [Yn.l0]
  refine Tm.ite (fun h1 => ?_) (fun h1 => ?_)
  ·try simp only [bz0, bz1, bz2, bz3, bz4, bz5, bz6, bz7, bz8, bz9, bza] at h1
   refine Tm.atStr (by first | assumption | omega) (by first | assumption | omega) (fun b2 hb3 => ?_)
   try rw [Zj (x := (b2.toNat : Int)) (by omega) (by omega)]
   refine Y4.tm (fun i hi => hi.1) (Y4.T) (fun y5 hy4 => ?_)
   refine Tm.ite (fun h6 => ?_) (fun h6 => ?_)
   ·try simp only [bz0, bz1, bz2, bz3, bz4, bz5, bz6, bz7, bz8, bz9, bza] at h6
    refine Tm.atStr (by first | assumption | omega) (by first | assumption | omega) (fun b7 hb8 => ?_)
    try rw [Zj (x := (b7.toNat : Int)) (by omega) (by omega)]
    refine Y4.tm (fun i hi => hi.1) (Y4.T) (fun y10 hy9 => ?_)
    refine Tm.ite (fun h11 => ?_) (fun h11 => ?_)
    ·try simp only [bz0, bz1, bz2, bz3, bz4, bz5, bz6, bz7, bz8, bz9, bza] at h11
     refine Tm.atStr (by first | assumption | omega) (by first | assumption | omega) (fun b12 hb13 => ?_)
     refine Tm.ite (fun h14 => ?_) (fun h14 => ?_)
     ·try simp only [bz0, bz1, bz2, bz3, bz4, bz5, bz6, bz7, bz8, bz9, bza] at h14
      exact Tm.ret (by trivial)
     ·try simp only [bz0, bz1, bz2, bz3, bz4, bz5, bz6, bz7, bz8, bz9, bza] at h14
      try rw [Zj (x := i + 1) (by omega) (by omega)]
      exact hL _ (by (try simp only []); omega) (by (try simp only []); omega)
    ·try simp only [bz0, bz1, bz2, bz3, bz4, bz5, bz6, bz7, bz8, bz9, bza] at h11
     have z15 := hy9 h11
     try rw [Zj (x := i + 1) (by omega) (by omega)]
     exact hL _ (by (try simp only []); omega) (by (try simp only []); omega)
   ·try simp only [bz0, bz1, bz2, bz3, bz4, bz5, bz6, bz7, bz8, bz9, bza] at h6
    have z16 := hy4 h6
    try rw [Zj (x := i + 1) (by omega) (by omega)]
    exact hL _ (by (try simp only []); omega) (by (try simp only []); omega)
  ·try simp only [bz0, bz1, bz2, bz3, bz4, bz5, bz6, bz7, bz8, bz9, bza] at h1
   refine Y4.tm (fun i hi => hi.1) (Y4.T) (fun y18 hy17 => ?_)
   refine Tm.ite (fun h19 => ?_) (fun h19 => ?_)
   ·try simp only [bz0, bz1, bz2, bz3, bz4, bz5, bz6, bz7, bz8, bz9, bza] at h19
    have z20 := hy17 h19
    refine Tm.atStr (by first | assumption | omega) (by first | assumption | omega) (fun b21 hb22 => ?_)
    refine Tm.ite (fun h23 => ?_) (fun h23 => ?_)
    ·try simp only [bz0, bz1, bz2, bz3, bz4, bz5, bz6, bz7, bz8, bz9, bza] at h23
     try rw [Zj (x := (a0.size : Int) - 1) (by omega) (by omega)]
     refine Tm.atStr (by first | assumption | omega) (by first | assumption | omega) (fun b24 hb25 => ?_)
     exact Tm.ret (by trivial)
    ·try simp only [bz0, bz1, bz2, bz3, bz4, bz5, bz6, bz7, bz8, bz9, bza] at h23
     exact Tm.ret (by trivial)
   ·try simp only [bz0, bz1, bz2, bz3, bz4, bz5, bz6, bz7, bz8, bz9, bza] at h19
    exact Tm.ret (by trivial)
noncomputable def Yn.v (a0 : BA) : Bool := (Yn.t big a0).getD default
theorem Yn.tv {a0 : BA} (ga0 : a0.size ≤ lim) {k : Nat} (hk : Z3 k) : Yn.t k a0 = some (Yn.v a0) := (Yn.T ga0).val hk
theorem Yn.fv {a0 : BA} (ga0 : a0.size ≤ lim) {k : Nat} (hk : Z3 k) {β : Type} (K : Bool → Option β) : Yn.f k a0 K = K (Yn.v a0) := Yn.f_of (Yn.tv ga0 hk) K
noncomputable def namesB (xs : LD) : Bool := (List.range xs.length).all fun i => Yn.v (gS xs (i : Int) 0) && (!decide ((i : Int) > 0) || ZbO (gS xs ((i : Int) - 1) 0) (gS xs (i : Int) 0))
theorem YA.f_of {β : Type} {k a0 z0} (h : YA.t k a0 = some z0) (K : Bool → Option β) : YA.f k a0 K = K z0 := by unfold YA.f; rw [h]; rfl
theorem YA.tm {ι α : Type} {ok : ι → Prop} {ψ : α → Prop} {p : ι → Nat} {B : Nat} (hp : ∀ i, ok i → B ≤ p i) {a0 φ} (h : Tm (fun k => B ≤ k) (fun k => YA.t k a0) φ) {G : ι → Bool → Option α} (hG : ∀ z0, φ z0 → Tm ok (fun i => G i z0) ψ) : Tm ok (fun i => YA.f (p i) a0 (G i)) ψ := ZK (t := fun k => YA.t k a0) hp h hG
set_option maxRecDepth 100000 in
theorem YA.T {a0 : LD} (ga0 : Zi RSS lim a0) : Tm Z3 (fun k => YA.t k a0) (fun _ => True) := by
 unfold YA.t YA.g
 have hm := Zy
 have hlim : lim = 1048576 := rfl
 have la0 := ga0.1
 refine Tm.loop (okk := Z3) (p := fun k => k) (fun i hi => hi) (b := fun k => YA.l0 k a0 (fun z0 => some z0)) (fun i => (((a0.length : Int)) - i).toNat) (fun i => 0 ≤ i ∧ i ≤ (a0.length : Int)) ?_ ?_ ?_
 ·rintro i hI
  try simp only [] at hI ⊢
  have : big = 2 ^ 64 := rfl
  omega
 ·((try simp only []); omega)
 ·rintro i hI L hL
  try simp only [] at hI
  obtain ⟨i0, i1⟩ := hI
  simp only [YA.l0, atR, rdQ, Q.ask]
  refine Tm.ite (fun h1 => ?_) (fun h1 => ?_)
  ·try simp only [bz0, bz1, bz2, bz3, bz4, bz5, bz6, bz7, bz8, bz9, bza] at h1
   refine Tm.atRow (by first | assumption | omega) (by first | assumption | omega) (fun x2 hx3 hm4 => ?_)
   obtain ⟨c5, c6, rfl, g7, g8, _⟩ := (ga0.2 x2 hm4).open
   refine Tm.uncons ?_
   refine Tm.dStr ?_
   refine Tm.uncons ?_
   refine Tm.dStr ?_
   refine Tm.atEnd ?_
   refine Yn.tm (fun i hi => hi.1) (Yn.T (by first | assumption | omega)) (fun y10 hy9 => ?_)
   refine Tm.ite (fun h11 => ?_) (fun h11 => ?_)
   ·try simp only [bz0, bz1, bz2, bz3, bz4, bz5, bz6, bz7, bz8, bz9, bza] at h11
    exact Tm.ret (by trivial)
   ·try simp only [bz0, bz1, bz2, bz3, bz4, bz5, bz6, bz7, bz8, bz9, bza] at h11
    refine Tm.atRow (by first | assumption | omega) (by first | assumption | omega) (fun x12 hx13 hm14 => ?_)
    rw [hx3] at hx13
    injection hx13 with hx13
    subst hx13
    refine Tm.uncons ?_
    refine Tm.dStr ?_
    refine Tm.uncons ?_
    refine Tm.dStr ?_
    refine Tm.atEnd ?_
    refine Yn.tm (fun i hi => hi.1) (Yn.T (by first | assumption | omega)) (fun y18 hy17 => ?_)
    refine Tm.ite (fun h19 => ?_) (fun h19 => ?_)
    ·try simp only [bz0, bz1, bz2, bz3, bz4, bz5, bz6, bz7, bz8, bz9, bza] at h19
     exact Tm.ret (by trivial)
    ·try simp only [bz0, bz1, bz2, bz3, bz4, bz5, bz6, bz7, bz8, bz9, bza] at h19
     refine Tm.ite (fun h20 => ?_) (fun h20 => ?_)
     ·try simp only [bz0, bz1, bz2, bz3, bz4, bz5, bz6, bz7, bz8, bz9, bza] at h20
      try rw [Zj (x := i - 1) (by omega) (by omega)]
      refine Tm.atRow (by first | assumption | omega) (by first | assumption | omega) (fun x21 hx22 hm23 => ?_)
      obtain ⟨c24, c25, rfl, g26, g27, _⟩ := (ga0.2 x21 hm23).open
      refine Tm.uncons ?_
      refine Tm.dStr ?_
      refine Tm.uncons ?_
      refine Tm.dStr ?_
      refine Tm.atEnd ?_
      refine Tm.atRow (by first | assumption | omega) (by first | assumption | omega) (fun x28 hx29 hm30 => ?_)
      rw [hx3] at hx29
      injection hx29 with hx29
      subst hx29
      refine Tm.uncons ?_
      refine Tm.dStr ?_
      refine Tm.uncons ?_
      refine Tm.dStr ?_
      refine Tm.atEnd ?_
      refine Tm.ite (fun h33 => ?_) (fun h33 => ?_)
      ·try simp only [bz0, bz1, bz2, bz3, bz4, bz5, bz6, bz7, bz8, bz9, bza] at h33
       exact Tm.ret (by trivial)
      ·try simp only [bz0, bz1, bz2, bz3, bz4, bz5, bz6, bz7, bz8, bz9, bza] at h33
       try rw [Zj (x := i + 1) (by omega) (by omega)]
       exact hL _ (by (try simp only []); omega) (by (try simp only []); omega)
     ·try simp only [bz0, bz1, bz2, bz3, bz4, bz5, bz6, bz7, bz8, bz9, bza] at h20
      try rw [Zj (x := i + 1) (by omega) (by omega)]
      exact hL _ (by (try simp only []); omega) (by (try simp only []); omega)
  ·try simp only [bz0, bz1, bz2, bz3, bz4, bz5, bz6, bz7, bz8, bz9, bza] at h1
   exact Tm.ret (by trivial)
noncomputable def YA.v (a0 : LD) : Bool := (YA.t big a0).getD default
theorem YA.tv {a0 : LD} (ga0 : Zi RSS lim a0) {k : Nat} (hk : Z3 k) : YA.t k a0 = some (YA.v a0) := (YA.T ga0).val hk
theorem YA.fv {a0 : LD} (ga0 : Zi RSS lim a0) {k : Nat} (hk : Z3 k) {β : Type} (K : Bool → Option β) : YA.f k a0 K = K (YA.v a0) := YA.f_of (YA.tv ga0 hk) K
theorem Yax.f_of {β : Type} {k a0 z0} (h : Yax.t k a0 = some z0) (K : LC → Option β) : Yax.f k a0 K = K z0 := by unfold Yax.f; rw [h]; rfl
theorem YT.f_of {β : Type} {k a0 a1 a2 z0 z1} (h : YT.t k a0 a1 a2 = some (z0, z1)) (K : LC → Bool → Option β) : YT.f k a0 a1 a2 K = K z0 z1 := by unfold YT.f; rw [h]; rfl
theorem Y7.f_of {β : Type} {k aB aC aA a1 z0 z1 z2 z3} (h : Y7.t k aB aC aA a1 = some (z0, z1, z2, z3)) (K : LC → LD → Int → Int → Option β) : Y7.f k aB aC aA a1 K = K z0 z1 z2 z3 := by unfold Y7.f; rw [h]; rfl
theorem YK.f_of {β : Type} {k : Nat} {aB : LD} {aC aA z0 : Int} {z1 : BA} {z2 : LC} {z3 : LD} {z4 z5 : Int} (h : YK.t k aB aC aA = some (z0, z1, z2, z3, z4, z5)) (K : Int → BA → LC → LD → Int → Int → Option β) : YK.f k aB aC aA K = K z0 z1 z2 z3 z4 z5 := by
 unfold YK.f
 rw [h]
theorem Y9.f_of {β : Type} {k aB aC aA a1 z0 z1 z2 z3} (h : Y9.t k aB aC aA a1 = some (z0, z1, z2, z3)) (K : LC → LD → Int → Int → Option β) : Y9.f k aB aC aA a1 K = K z0 z1 z2 z3 := by unfold Y9.f; rw [h]; rfl
theorem YD.f_of {β : Type} {k : Nat} {aB : LD} {aC aA z0 : Int} {z1 z2 z3 : LC} {z4 : LD} {z5 z6 : Int} (h : YD.t k aB aC aA = some (z0, z1, z2, z3, z4, z5, z6)) (K : Int → LC → LC → LC → LD → Int → Int → Option β) : YD.f k aB aC aA K = K z0 z1 z2 z3 z4 z5 z6 := by
 unfold YD.f
 rw [h]
theorem Yag.f_of {β : Type} {k aB aC aA z0 z1 z2 z3} (h : Yag.t k aB aC aA = some (z0, z1, z2, z3)) (K : BA → LD → Int → Int → Option β) : Yag.f k aB aC aA K = K z0 z1 z2 z3 := by unfold Yag.f; rw [h]; rfl
theorem Yl.f_of {β : Type} {k aB aC aA z0 z1 z2 z3} (h : Yl.t k aB aC aA = some (z0, z1, z2, z3)) (K : LC → LD → Int → Int → Option β) : Yl.f k aB aC aA K = K z0 z1 z2 z3 := by unfold Yl.f; rw [h]; rfl
theorem YaC.f_of {β : Type} {k : Nat} {aB : LD} {aC aA bF : Int} {bD bC bG : LD} {z0 : Int} {z1 z2 z3 z4 : LD} {z5 z6 : Int} (h : YaC.t k aB aC aA bF bD bC bG = some (z0, z1, z2, z3, z4, z5, z6)) (K : Int → LD → LD → LD → LD → Int → Int → Option β) : YaC.f k aB aC aA bF bD bC bG K = K z0 z1 z2 z3 z4 z5 z6 := by
 unfold YaC.f
 rw [h]
theorem Yav.f_of {β : Type} {k : Nat} {aB : LD} {aC aA : Int} {a1 z0 : BA} {z1 z2 : LC} {z3 : Int} {z4 : LD} {z5 z6 : Int} (h : Yav.t k aB aC aA a1 = some (z0, z1, z2, z3, z4, z5, z6)) (K : BA → LC → LC → Int → LD → Int → Int → Option β) : Yav.f k aB aC aA a1 K = K z0 z1 z2 z3 z4 z5 z6 := by
 unfold Yav.f
 rw [h]
theorem Y3.f_of {β : Type} {k aB aC aA z0 z1 z2 z3} (h : Y3.t k aB aC aA = some (z0, z1, z2, z3)) (K : LC → LD → Int → Int → Option β) : Y3.f k aB aC aA K = K z0 z1 z2 z3 := by unfold Y3.f; rw [h]; rfl
theorem YX.f_of {β : Type} {k a0 z0 z1} (h : YX.t k a0 = some (z0, z1)) (K : LC → LC → Option β) : YX.f k a0 K = K z0 z1 := by unfold YX.f; rw [h]; rfl
theorem Yad.f_of {β : Type} {k a0 a1 a2 z0} (h : Yad.t k a0 a1 a2 = some z0) (K : Bool → Option β) : Yad.f k a0 a1 a2 K = K z0 := by unfold Yad.f; rw [h]; rfl
theorem within_f {β : Type} {k : Nat} {a b c : Int} (K : Bool → Option β) : Yad.f k a b c K = K (decide (b ≤ a) && decide (a ≤ c)) := by
 refine Yad.f_of ?_ K
 unfold Yad.t Yad.g
 by_cases h : b ≤ a <;> simp [h]
theorem YW.same {k : Nat} {a : BA} : YW.t k a = Yn.t k a := by
 unfold YW.t Yn.t YW.g Yn.g
 congr 1
 funext L v
 simp only [YW.l0, Yn.l0, l1In_f, within_f]
 refine bif_congr (fun _ => ?_) (fun _ => rfl)
 unfold Za0
 split
 ·split
  ·rename_i b _
   have hb : b.toNat < 256 := b.toNat_lt
   simp only []
   rw [Zj (x := (b.toNat : Int)) (by omega) (by omega)]
   generalize (b.toNat : Int) = x
   by_cases h1 : x < 97 <;> by_cases h2 : x < 48 <;> by_cases h3 : x > 57 <;> by_cases h4 : x > 122 <;> simp [h1, h2, h3, h4] <;> (try omega) <;> grind
  ·rfl
 ·rfl
theorem YaQ {β : Type} {k : Nat} {a : BA} (K : Bool → Option β) : YW.f k a K = Yn.f k a K := by
 unfold YW.f Yn.f
 rw [YW.same]
theorem within_fv {β : Type} {k : Nat} {a b c : Int} (K : Bool → Option β) : Yad.f k a b c K = K (inB a b c) := within_f K
theorem Yan.f_of {β : Type} {k a0 z0} (h : Yan.t k a0 = some z0) (K : Bool → Option β) : Yan.f k a0 K = K z0 := by unfold Yan.f; rw [h]; rfl
theorem isCopies_f {β : Type} {k : Nat} {a : Int} (K : Bool → Option β) : Yan.f k a K = K (decide (0 ≤ a) && decide (a ≤ 10000)) := by
 refine Yan.f_of ?_ K
 unfold Yan.t Yan.g
 rw [within_f]
theorem YS.f_of {β : Type} {k a0 a1 z0} (h : YS.t k a0 a1 = some z0) (K : Bool → Option β) : YS.f k a0 a1 K = K z0 := by unfold YS.f; rw [h]; rfl
theorem YaE.f_of {β : Type} {k aB aC aA z0} (h : YaE.t k aB aC aA = some z0) (K : Bool → Option β) : YaE.f k aB aC aA K = K z0 := by unfold YaE.f; rw [h]; rfl
theorem Yai.f_of {β : Type} {k aB aC aA z0} (h : Yai.t k aB aC aA = some z0) (K : Bool → Option β) : Yai.f k aB aC aA K = K z0 := by unfold Yai.f; rw [h]; rfl
theorem Yd.f_of {β : Type} {k a0 z0} (h : Yd.t k a0 = some z0) (K : Int → Option β) : Yd.f k a0 K = K z0 := by unfold Yd.f; rw [h]; rfl
theorem Yo.f_of {β : Type} {k a0 z0} (h : Yo.t k a0 = some z0) (K : Bool → Option β) : Yo.f k a0 K = K z0 := by unfold Yo.f; rw [h]; rfl
theorem Yaf.f_of {β : Type} {k a0 z0} (h : Yaf.t k a0 = some z0) (K : Bool → Option β) : Yaf.f k a0 K = K z0 := by unfold Yaf.f; rw [h]; rfl
set_option maxRecDepth 100000 in
theorem Y1.same {k : Nat} {a : LD} (g : Zi RSS lim a) : Y1.t k a = YA.t k a := by
 unfold Y1.t YA.t Y1.g YA.g
 congr 1
 funext L v
 simp only [Y1.l0, atR, rdQ, Q.ask, YA.l0, atR, rdQ, Q.ask, YaQ]
 refine bif_congr (fun h => ?_) (fun _ => rfl)
 by_cases h0 : 0 ≤ v ∧ v < a.length
 ·have hl : v.toNat < a.length := by omega
  obtain ⟨s0, s1, hs, _⟩ := g.2 _ (List.getElem_mem hl)
  have hr := fun F => atRow_get (β := Bool) h0.1 (by rw [← hs]; simp [hl] : a[v.toNat]? = some [.str s0, .str s1]) F
  simp only [hr, Zas, dStr, atEnd]
 ·simp only [atRow_none h0]
theorem Yar.f_of {β : Type} {k aB aC aA aH z0} (h : Yar.t k aB aC aA aH = some z0) (K : Bool → Option β) : Yar.f k aB aC aA aH K = K z0 := by unfold Yar.f; rw [h]; rfl
theorem Ye.f_of {β : Type} {k a0 z0} (h : Ye.t k a0 = some z0) (K : Int → Option β) : Ye.f k a0 K = K z0 := by unfold Ye.f; rw [h]; rfl
theorem Yp.f_of {β : Type} {k a0 z0} (h : Yp.t k a0 = some z0) (K : Bool → Option β) : Yp.f k a0 K = K z0 := by unfold Yp.f; rw [h]; rfl
theorem Yaq.f_of {β : Type} {k a0 z0} (h : Yaq.t k a0 = some z0) (K : Bool → Option β) : Yaq.f k a0 K = K z0 := by unfold Yaq.f; rw [h]; rfl
theorem Yj.f_of {β : Type} {k a0 z0} (h : Yj.t k a0 = some z0) (K : Int → Option β) : Yj.f k a0 K = K z0 := by unfold Yj.f; rw [h]; rfl
theorem YH.f_of {β : Type} {k a0 z0} (h : YH.t k a0 = some z0) (K : Bool → Option β) : YH.f k a0 K = K z0 := by unfold YH.f; rw [h]; rfl
theorem Yas.f_of {β : Type} {k aB aC aA aH a1 a2 z0} (h : Yas.t k aB aC aA aH a1 a2 = some z0) (K : Bool → Option β) : Yas.f k aB aC aA aH a1 a2 K = K z0 := by unfold Yas.f; rw [h]; rfl
theorem YM.f_of {β : Type} {k a0 a1 z0} (h : YM.t k a0 a1 = some z0) (K : Int → Option β) : YM.f k a0 a1 K = K z0 := by unfold YM.f; rw [h]; rfl
def RS (B : Nat) (r : List D) : Prop := ∃ (c0 : BA), r = [.str c0] ∧ c0.size ≤ B ∧ True
theorem RS.open {B : Nat} {r : List D} (h : RS B r) : ∃ (c0 : BA), r = [.str c0] ∧ c0.size ≤ B ∧ True := h
theorem RS.mono {B B' : Nat} (hb : B ≤ B') {r : List D} (h : RS B r) : RS B' r := by
 obtain ⟨c0, rfl, k0, _⟩ := h
 exact ⟨_, rfl, (Nat.le_trans k0 hb), trivial⟩
theorem RS.wide {xs : LD} (h : Zi RS lim xs) : Zi RS 2097152 xs := ⟨Nat.le_trans h.1 (by decide), fun r hr => (h.2 r hr).mono (by decide)⟩
theorem RS.len {B : Nat} {r : List D} (h : RS B r) : r.length = 1 := by
 obtain ⟨c0, rfl, _⟩ := h.open
 rfl
theorem RS.flat {B : Nat} {xs : LD} (h : ∀ r ∈ xs, RS B r) : ZaZ 1 xs := fun r hr => by
 obtain ⟨c0, rfl, _⟩ := (h r hr).open
 exact ⟨rfl, by simp [Zau]⟩
theorem RS.wt {B : Nat} {xs : LD} (h : ∀ r ∈ xs, RS B r) : Zp xs = 1 * xs.length := wt_flat (R := RS B) (fun r h => by obtain ⟨c0, rfl, _⟩ := h; rfl) xs h
theorem RS.deep {B : Nat} {xs : LD} (h : ∀ r ∈ xs, RS B r) : Zb xs = xs.map (·.map C.d) := deep_flat (R := RS B) (fun r h => by obtain ⟨c0, rfl, _⟩ := h; rfl) xs h
theorem RS.gets {B : Nat} {xs : LD} (h : ∀ r ∈ xs, RS B r) {v : Int} (h0 : 0 ≤ v) (h1 : v < xs.length) : gR xs v = [.str (gS xs v 0)] ∧ (gS xs v 0).size ≤ B ∧ True := by
 obtain ⟨c0, e, k0, _⟩ := (h (gR xs v) (gR_mem h0 h1)).open
 unfold gS
 rw [e]
 exact ⟨rfl, k0, trivial⟩
theorem RS.rows {B : Nat} {xs : LD} (h : ∀ r ∈ xs, RS B r) {v : Int} (h0 : 0 ≤ v) (h1 : v < xs.length) {β : Type} (F : List D → Option β) : Zbw xs v F = F [.str (gS xs v 0)] := by
 rw [← (RS.gets h h0 h1).1]
 exact Zbp h0 h1 F
theorem RS.get {B : Nat} {xs : LD} (h : Zi RS B xs) {v : Int} (h0 : 0 ≤ v) (h1 : v < xs.length) : gR xs v = [.str (gS xs v 0)] ∧ (gS xs v 0).size ≤ B ∧ True := RS.gets h.2 h0 h1
theorem RS.row {B : Nat} {xs : LD} (h : Zi RS B xs) {v : Int} (h0 : 0 ≤ v) (h1 : v < xs.length) {β : Type} (F : List D → Option β) : Zbw xs v F = F [.str (gS xs v 0)] := RS.rows h.2 h0 h1 F
set_option maxRecDepth 100000 in
theorem namesOk_fv {a : LD} {n : Int} (g : Zi RS lim a) {k : Nat} (hk : Z3 k) {β : Type} (K : Bool → Option β) : YS.f k a n K = K (namesB a && decide ((a.length : Int) ≤ n)) := YS.f_of (by
 have hl := g.1
 have hlim : lim = 1048576 := rfl
 have hb : big = 2 ^ 64 := rfl
 unfold YS.t YS.g
 rw [Zb6 (n := a.length) (fun i => Yn.v (gS a (i : Int) 0) && (!decide ((i : Int) > 0) || ZbO (gS a ((i : Int) - 1) 0) (gS a (i : Int) 0))) (r1 := some false) (r2 := some (decide ((a.length : Int) ≤ n))) (by unfold Z3 at hk; omega)]
 ·unfold namesB
  generalize List.all _ _ = x
  cases x <;> rfl
 ·intro L i hi
  have k0 := (RS.get g (v := (i : Int)) (by omega) (by omega)).2.1
  simp (disch := omega) only [YS.l0, atR, rdQ, Q.ask, ZQ (show (i : Int) < a.length by omega), cond_true, RS.row g, ZY, Zaj, Z6, YaQ, Yn.fv k0 hk, Zj]
  by_cases h0 : (i : Int) > 0
  ·simp (disch := omega) only [ZQ h0, cond_true, RS.row g, ZY, Zaj, Z6]
   cases Yn.v (gS a (i : Int) 0) <;> cases ZbO (gS a ((i : Int) - 1) 0) (gS a (i : Int) 0) <;> rfl
  ·simp only [ZV h0, cond_false]
   cases Yn.v (gS a (i : Int) 0) <;> rfl
 ·intro L
  simp [YS.l0, atR, rdQ, Q.ask]) K
set_option maxRecDepth 100000 in
theorem str_ex {b xs : LD} {i h : Int} {k : Nat} (c : Cur b i) (g : ∀ r ∈ xs, RS lim r) (hx : 0 < xs.length) : ∃ j i' h', 0 ≤ j ∧ j < (xs.length : Int) ∧ Cur b i' ∧ YaB.t k b i h xs = some (gS xs j 0, b, i', h') := by
 obtain ⟨x, i', h', x0, x1, -, c', e⟩ := YaO (k := k) (h := h) (n := (xs.length : Int)) c
 unfold YaB.t YaB.g; simp only [atR, rdQ, Q.ask]
 rw [YL.f_of e, RS.rows g x0 (x1 (by omega))]
 simp only [ZY, Zaj, Z6]
 exact ⟨x, _, _, x0, x1 (by omega), c', rfl⟩
theorem Ya6 {a : LD} (g : Zi RSS lim a) {k : Nat} {β : Type} (K : LC → Option β) : Yax.f k a K = K (a.map (·.map C.d)) := Yax.f_of (by
 have hl := g.1
 have hlim : lim = 1048576 := rfl
 have hm : ZN = 2 ^ 36 := rfl
 unfold Yax.t Yax.g
 rw [ZaP (RSS.flat g.2), ZaP (by simp only [List.length_nil, map_len]; omega), List.nil_append]) K
set_option maxRecDepth 100000 in
set_option maxHeartbeats 1000000 in
theorem labelSet_ex {k : Nat} (hk : Z3 k) {l : LD} {s v : BA} (g : ∀ r ∈ l, RSS lim r) (hl : l.length ≤ 1000) (gs : s.size ≤ lim) (gv : v.size ≤ lim) : ∃ (l' : LD) (ok : Bool), (∀ r ∈ l', RSS lim r) ∧ l'.length ≤ l.length + 1 ∧ YT.t k l s v = some (l'.map (·.map C.d), ok) := by
 have hlim : lim = 1048576 := rfl
 have hm : ZN = 2 ^ 36 := rfl
 have hb : big = 2 ^ 64 := rfl
 have G : Zi RSS lim l := ⟨by omega, g⟩
 let Qz : Option (LC × Bool) → Prop := fun o => ∃ (l' : LD) (ok : Bool), (∀ r ∈ l', RSS lim r) ∧ l'.length ≤ l.length + 1 ∧ o = some (l'.map (·.map C.d), ok)
 have hsame : ∀ ok, Qz (some (l.map (·.map C.d), ok)) := fun ok => ⟨l, ok, g, by omega, rfl⟩
 have hnew : RSS lim [D.str s, D.str v] := ⟨s, v, rfl, gs, gv, trivial⟩
 have loop : Qz (Zo (YT.l0 k l s v (fun z0 z1 => some (z0, z1))) k (false, 0, [])) := by
  refine Ya4 (fun v => (l.length : Int).toNat - v.2.1.toNat) (fun v => 0 ≤ v.2.1 ∧ v.2.1 ≤ (l.length : Int) ∧ ∃ o : LD, v.2.2 = o.map (·.map C.d) ∧ (∀ r ∈ o, RSS lim r) ∧ (o.length : Int) ≤ v.2.1 + (if v.1 = true then 1 else 0)) Qz ?_ ⟨by simp, by simp, [], rfl, by simp, by simp⟩ (by unfold Z3 at hk; simp; omega)
  rintro ⟨p, i, out⟩ ⟨h0, h1, o, e, ho, hlen⟩ L hL
  simp only at h0 h1 e hlen
  subst e
  have hw : i < l.length → IntKind.wrap .i64 (i + 1) = i + 1 := fun _ => Zj (by omega) (by omega)
  have hp : (if p = true then (1 : Int) else 0) ≤ 1 ∧ 0 ≤ (if p = true then (1 : Int) else 0) := by cases p <;> simp
  by_cases hi : i < l.length
  ·have hr := RSS.gets g h0 hi
   have hold : RSS lim [D.str (gS l i 0), .str (gS l i 1)] := ⟨_, _, rfl, hr.2.1, hr.2.2.1, trivial⟩
   have fin : ∀ (p' : Bool) (o' : LD), (∀ r ∈ o', RSS lim r) → (o'.length : Int) ≤ i + 1 + (if p' = true then 1 else 0) → Qz (L (p', i + 1, o'.map (·.map C.d))) := fun p' o' q1 q2 => hL _ ⟨by show 0 ≤ i + 1; omega, by show i + 1 ≤ (l.length : Int); omega, o', rfl, q1, q2⟩ (by show (l.length : Int).toNat - (i + 1).toNat < (l.length : Int).toNat - i.toNat; omega)
   have up1 : ∀ (o' : LD) (x y : BA), o'.map (·.map C.d) ++ ([[.d (.str x), .d (.str y)]] : LC) = (o' ++ [[D.str x, D.str y]]).map (·.map C.d) := fun o' x y => by rw [List.map_append]; rfl
   simp only [YT.l0, atR, rdQ, Q.ask, ZQ hi, cond_true, RSS.row G h0 hi, ZY, Zaj, Z6, hw hi, map_len, List.length_append, List.length_singleton, ZaP (show o.length + 1 ≤ ZN by omega), ZaP (show o.length + 1 + 1 ≤ ZN by omega)]
   cases p with
   | true =>
    simp only [Bool.not_true, cond_false]
    cases Zae (gS l i 0) s
    ·simp only [Bool.not_false, cond_true, up1]
     exact fin _ _ (YaM ho hold) (by rw [List.length_append, List.length_singleton]; simp at hlen ⊢; omega)
    ·exact fin _ _ ho (by simp at hlen ⊢; omega)
   | false =>
    simp only [Bool.not_false, cond_true]
    simp at hlen
    cases ZbO (gS l i 0) s
    ·simp only [Bool.not_false, cond_true]
     cases Zae (gS l i 0) s
     ·simp only [Bool.not_false, cond_true, up1]
      exact fin _ _ (YaM (YaM ho hnew) hold) (by simp; omega)
     ·simp only [Bool.not_true, cond_false, up1]
      exact fin _ _ (YaM ho hnew) (by simp; omega)
    ·simp only [Bool.not_true, cond_false]
     cases Zae (gS l i 0) s
     ·simp only [Bool.not_false, cond_true, up1]
      exact fin _ _ (YaM ho hold) (by simp; omega)
     ·exact fin _ _ ho (by simp; omega)
  ·simp only [YT.l0, atR, rdQ, Q.ask, ZV hi, cond_false, map_len, List.length_singleton]
   cases p with
   | true => exact ⟨o, true, ho, by simp at hlen; omega, rfl⟩
   | false =>
    simp only [Bool.not_false, cond_true]
    rw [ZaP (show o.length + 1 ≤ ZN by simp at hlen; omega)]
    exact ⟨o ++ [[D.str s, D.str v]], true, YaM ho hnew, by simp at hlen ⊢; omega, by rw [List.map_append]; rfl⟩
 show Qz _
 unfold YT.t YT.g YT.m
 rw [Yx.fv G gs hk, YA.fv G hk]
 cases YA.v l
 ·simp only [Bool.not_false, cond_true, Ya6 G]; exact hsame _
 simp only [Bool.not_true, cond_false, Yn.fv gs hk]
 cases Yn.v s
 ·simp only [Bool.not_false, cond_true, Ya6 G]; exact hsame _
 simp only [Bool.not_true, cond_false, Yn.fv gv hk]
 cases Yn.v v
 ·simp only [Bool.not_false, cond_true, Ya6 G]; exact hsame _
 simp only [Bool.not_true, cond_false]
 cases (Yx.v l s).2
 ·simp only [Bool.not_false, cond_true]
  cases ((l.length : Int)) == 8
  ·exact loop
  ·simp only [cond_true, Ya6 G]; exact hsame _
 ·exact loop
theorem name_ex {b : LD} {i h : Int} {k : Nat} (c : Cur b i) : ∃ s i' h', s.size ≤ lim ∧ Cur b i' ∧ Yaj.t k b i h = some (s, b, i', h') := by
 unfold Yaj.t Yaj.g
 have hstr : ∀ r ∈ ([[.str (⟨#[97]⟩ : BA)], [.str (⟨#[98]⟩ : BA)], [.str (⟨#[99]⟩ : BA)], [.str (⟨#[122, 111, 110, 101]⟩ : BA)], [.str (⟨#[116, 105, 101, 114]⟩ : BA)], [.str (⟨#[103, 111, 108, 100]⟩ : BA)], [.str (⟨#[101, 97, 115, 116]⟩ : BA)], [.str (⟨#[120, 45, 49]⟩ : BA)], [.str (⟨#[97, 98, 99, 100, 101, 102, 103, 104, 105, 106, 107, 108, 109, 110, 111, 112, 113, 114, 115, 116]⟩ : BA)]] : LD), RS lim r := by
  intro r hr
  simp only [List.mem_cons, List.not_mem_nil, or_false] at hr
  rcases hr with rfl | rfl | rfl | rfl | rfl | rfl | rfl | rfl | rfl <;> exact ⟨_, rfl, by decide, trivial⟩
 obtain ⟨j, i1, h1, j0, j1, hc1, e1⟩ := str_ex (k := k) (h := h) c hstr (by decide)
 rw [YaB.f_of e1]
 exact ⟨_, _, _, (RS.gets hstr j0 j1).2.1, hc1, rfl⟩
set_option maxHeartbeats 1000000 in
theorem labels_ex {k : Nat} (hk : Z3 k) {b : LD} {i h M : Int} (c : Cur b i) (hM : M ≤ 100) : ∃ (l : LD) (i' h' : Int), (∀ r ∈ l, RSS lim r) ∧ l.length ≤ M.toNat ∧ Cur b i' ∧ Y7.t k b i h M = some (l.map (·.map C.d), b, i', h') := by
 have hb : big = 2 ^ 64 := rfl
 unfold Y7.t Y7.g
 obtain ⟨x, i1, h1, x0, x1, x2, hc1, e1⟩ := YaO (k := k) (h := h) (n := M) c
 rw [YL.f_of e1]
 refine Ya4 (fun v => v.1.toNat) (fun v => 0 ≤ v.1 ∧ v.2.1 = b ∧ Cur b v.2.2.1 ∧ ∃ o : LD, v.2.2.2.2 = o.map (·.map C.d) ∧ (∀ r ∈ o, RSS lim r) ∧ (o.length : Int) + v.1 ≤ M.toNat) (fun o => ∃ (l : LD) (i' h' : Int), (∀ r ∈ l, RSS lim r) ∧ l.length ≤ M.toNat ∧ Cur b i' ∧ o = some (l.map (·.map C.d), b, i', h')) ?_ (v := (x, b, i1, h1, [])) ⟨x0, rfl, hc1, [], rfl, by simp, by simp; omega⟩ (by unfold Z3 at hk; show x.toNat < k; omega)
 rintro ⟨n, b', i, h, out⟩ ⟨n0, eb, hc, o, e, ho, hlen⟩ L hL
 simp only at n0 eb hc e hlen
 subst eb e
 by_cases hn : n > 0
 ·obtain ⟨s, i2, h2, gs, hc2, e2⟩ := name_ex (k := k) (h := h) hc
  obtain ⟨v, i3, h3, gv, hc3, e3⟩ := name_ex (k := k) (h := h2) hc2
  obtain ⟨l', ok, g', gl, e4⟩ := labelSet_ex hk ho (by omega) gs gv
  simp only [Y7.l0, ZQ hn, cond_true, Yaj.f_of e2, Yaj.f_of e3, imm_rows, YT.f_of e4, Zj (show -9223372036854775808 ≤ n - 1 by omega) (show n - 1 ≤ 9223372036854775807 by omega)]
  exact hL _ ⟨by show 0 ≤ n - 1; omega, rfl, hc3, l', rfl, g', by show (l'.length : Int) + (n - 1) ≤ _; omega⟩ (by show (n - 1).toNat < n.toNat; omega)
 ·simp only [Y7.l0, ZV hn, cond_false]
  exact ⟨o, i, h, ho, by omega, hc, rfl⟩
theorem YY.f_of {β : Type} {k a0 a1 z0} (h : YY.t k a0 a1 = some z0) (K : Bool → Option β) : YY.f k a0 a1 K = K z0 := by unfold YY.f; rw [h]; rfl
theorem strEq_comm (a b : BA) : Zae a b = Zae b a := by
 unfold Zae
 rw [Bool.eq_iff_iff]
 simp only [beq_iff_eq]
 exact ⟨Eq.symm, Eq.symm⟩
def YaZ (xs : LD) (s : BA) : Bool := !(List.range xs.length).all fun i => !Zae (gS xs (i : Int) 0) s
set_option maxRecDepth 100000 in
theorem contains_fv {a : LD} {s : BA} (g : Zi RS lim a) {k : Nat} (hk : Z3 k) {β : Type} (K : Bool → Option β) : YY.f k a s K = K (YaZ a s) := by
 have hl := g.1
 have hlim : lim = 1048576 := rfl
 have hb : big = 2 ^ 64 := rfl
 have hf : ∀ {β : Type} (K : Int → Option β), YM.f k a s K = K (Zbo (fun i => Zae (gS a (i : Int) 0) s) a.length) := fun K => YM.f_of (by
  unfold YM.t YM.g
  refine iter_findI (n := a.length) _ some (by unfold Z3 at hk; omega) (fun L i hi => ?_) (fun L => by simp [YM.l0, atR, rdQ, Q.ask])
  simp (disch := omega) only [YM.l0, atR, rdQ, Q.ask, ZQ (show (i : Int) < a.length by omega), cond_true, RS.row g, ZY, Zaj, Z6, Zj]
  rw [strEq_comm]) K
 refine YY.f_of ?_ K
 unfold YY.t YY.g
 rw [hf, findI_all]
 rfl
theorem YaG.f_of {β : Type} {k aB aC aA a1 z0} (h : YaG.t k aB aC aA a1 = some z0) (K : Bool → Option β) : YaG.f k aB aC aA a1 K = K z0 := by unfold YaG.f; rw [h]; rfl
theorem Yay.f_of {β : Type} {k aB aC aA cA z0} (h : Yay.t k aB aC aA cA = some z0) (K : Bool → Option β) : Yay.f k aB aC aA cA K = K z0 := by unfold Yay.f; rw [h]; rfl
theorem Yf.f_of {β : Type} {k a0 a1_0_0 z0} (h : Yf.t k a0 a1_0_0 = some z0) (K : Int → Option β) : Yf.f k a0 a1_0_0 K = K z0 := by unfold Yf.f; rw [h]; rfl
theorem Yv.f_of {β : Type} {k a0 a1_0_0 z0} (h : Yv.t k a0 a1_0_0 = some z0) (K : Bool → Option β) : Yv.f k a0 a1_0_0 K = K z0 := by unfold Yv.f; rw [h]; rfl
theorem Yau.f_of {β : Type} {k a0 cA f0_1 f0_2 f0_3 z0} (h : Yau.t k a0 cA f0_1 f0_2 f0_3 = some z0) (K : Bool → Option β) : Yau.f k a0 cA f0_1 f0_2 f0_3 K = K z0 := by unfold Yau.f; rw [h]; rfl
theorem Yg.f_of {β : Type} {k a0 a1_0_0 a1_0_1 a1_0_2 a1_0_3 z0} (h : Yg.t k a0 a1_0_0 a1_0_1 a1_0_2 a1_0_3 = some z0) (K : Int → Option β) : Yg.f k a0 a1_0_0 a1_0_1 a1_0_2 a1_0_3 K = K z0 := by unfold Yg.f; rw [h]; rfl
theorem Yz.f_of {β : Type} {k a0 a1_0_0 a1_0_1 a1_0_2 a1_0_3 z0} (h : Yz.t k a0 a1_0_0 a1_0_1 a1_0_2 a1_0_3 = some z0) (K : Bool → Option β) : Yz.f k a0 a1_0_0 a1_0_1 a1_0_2 a1_0_3 K = K z0 := by unfold Yz.f; rw [h]; rfl
theorem Yae.f_of {β : Type} {k aB aC aA aH bF bD bC bG z0} (h : Yae.t k aB aC aA aH bF bD bC bG = some z0) (K : Bool → Option β) : Yae.f k aB aC aA aH bF bD bC bG K = K z0 := by unfold Yae.f; rw [h]; rfl
theorem YU.f_of {β : Type} {k aB aC aA aH a1 z0} (h : YU.t k aB aC aA aH a1 = some z0) (K : Int → Option β) : YU.f k aB aC aA aH a1 K = K z0 := by unfold YU.f; rw [h]; rfl
theorem Yap.f_of {β : Type} {k a0 z0} (h : Yap.t k a0 = some z0) (K : Bool → Option β) : Yap.f k a0 K = K z0 := by unfold Yap.f; rw [h]; rfl
theorem Yi.f_of {β : Type} {k a0 z0} (h : Yi.t k a0 = some z0) (K : Int → Option β) : Yi.f k a0 K = K z0 := by unfold Yi.f; rw [h]; rfl
theorem YG.f_of {β : Type} {k a0 z0} (h : YG.t k a0 = some z0) (K : Bool → Option β) : YG.f k a0 K = K z0 := by unfold YG.f; rw [h]; rfl
theorem Yao.f_of {β : Type} {k a0 z0} (h : Yao.t k a0 = some z0) (K : Bool → Option β) : Yao.f k a0 K = K z0 := by unfold Yao.f; rw [h]; rfl
theorem Yh.f_of {β : Type} {k a0 z0} (h : Yh.t k a0 = some z0) (K : Int → Option β) : Yh.f k a0 K = K z0 := by unfold Yh.f; rw [h]; rfl
theorem YF.f_of {β : Type} {k a0 z0} (h : YF.t k a0 = some z0) (K : Bool → Option β) : YF.f k a0 K = K z0 := by unfold YF.f; rw [h]; rfl
theorem YaA.f_of {β : Type} {k a0 a1 a2 z0} (h : YaA.t k a0 a1 a2 = some z0) (K : Bool → Option β) : YaA.f k a0 a1 a2 K = K z0 := by unfold YaA.f; rw [h]; rfl
theorem Yam.f_of {β : Type} {k a0 a1 cA f1_0 f2_0 f3_0 z0} (h : Yam.t k a0 a1 cA f1_0 f2_0 f3_0 = some z0) (K : Int → Option β) : Yam.f k a0 a1 cA f1_0 f2_0 f3_0 K = K z0 := by unfold Yam.f; rw [h]; rfl
theorem Yc.f_of {β : Type} {k a0 a1 a2 a3_0_0 a3_1_0 a3_2_0 a3_3_0 z0} (h : Yc.t k a0 a1 a2 a3_0_0 a3_1_0 a3_2_0 a3_3_0 = some z0) (K : LC → Option β) : Yc.f k a0 a1 a2 a3_0_0 a3_1_0 a3_2_0 a3_3_0 K = K z0 := by unfold Yc.f; rw [h]; rfl
theorem Yb.f_of {β : Type} {k a0 a1 a2_0_0 a2_1_0 a2_2_0 a2_3_0 z0} (h : Yb.t k a0 a1 a2_0_0 a2_1_0 a2_2_0 a2_3_0 = some z0) (K : LC → Option β) : Yb.f k a0 a1 a2_0_0 a2_1_0 a2_2_0 a2_3_0 K = K z0 := by unfold Yb.f; rw [h]; rfl
theorem YB.f_of {β : Type} {k a0 a1_0_0 a1_1_0 a1_2_0 a1_3_0 z0} (h : YB.t k a0 a1_0_0 a1_1_0 a1_2_0 a1_3_0 = some z0) (K : LC → Option β) : YB.f k a0 a1_0_0 a1_1_0 a1_2_0 a1_3_0 K = K z0 := by unfold YB.f; rw [h]; rfl
theorem Yq.f_of {β : Type} {k a0 a1 a2 z0} (h : Yq.t k a0 a1 a2 = some z0) (K : LC → Option β) : Yq.f k a0 a1 a2 K = K z0 := by unfold Yq.f; rw [h]; rfl
theorem Yr.f_of {β : Type} {k a0 a1 a2 z0} (h : Yr.t k a0 a1 a2 = some z0) (K : LC → Option β) : Yr.f k a0 a1 a2 K = K z0 := by unfold Yr.f; rw [h]; rfl
theorem YV.f_of {β : Type} {k aB aC aA aH a1 a2 z0} (h : YV.t k aB aC aA aH a1 a2 = some z0) (K : LC → Option β) : YV.f k aB aC aA aH a1 a2 K = K z0 := by unfold YV.f; rw [h]; rfl
theorem Yy.f_of {β : Type} {k a0 a1 z0} (h : Yy.t k a0 a1 = some z0) (K : LC → Option β) : Yy.f k a0 a1 K = K z0 := by unfold Yy.f; rw [h]; rfl
theorem Y2.f_of {β : Type} {k aB aC aA z0} (h : Y2.t k aB aC aA = some z0) (K : Bool → Option β) : Y2.f k aB aC aA K = K z0 := by unfold Y2.f; rw [h]; rfl
theorem Y2.tm {ι α : Type} {ok : ι → Prop} {ψ : α → Prop} {p : ι → Nat} {B : Nat} (hp : ∀ i, ok i → B ≤ p i) {aB aC aA φ} (h : Tm (fun k => B ≤ k) (fun k => Y2.t k aB aC aA) φ) {G : ι → Bool → Option α} (hG : ∀ z0, φ z0 → Tm ok (fun i => G i z0) ψ) : Tm ok (fun i => Y2.f (p i) aB aC aA (G i)) ψ := ZK (t := fun k => Y2.t k aB aC aA) hp h hG
set_option maxRecDepth 100000 in
theorem Y2.T {aB : Int} {aC : BA} {aA : LD} (ga0_1 : aC.size ≤ lim) (ga0_2 : Zi RS lim aA) : Tm Z3 (fun k => Y2.t k aB aC aA) (fun _ => True) := by
 unfold Y2.t Y2.g
 have hm := Zy
 have hlim : lim = 1048576 := rfl
 have la0_2 := ga0_2.1
 refine Tm.loop (okk := Z3) (p := fun k => k) (fun i hi => hi) (b := fun k => Y2.l0 k (aA.length : Int) aB aC aA (fun z0 => some z0)) (fun i => (((aA.length : Int)) - i).toNat) (fun i => 0 ≤ i ∧ i ≤ (aA.length : Int)) ?_ ?_ ?_
 ·rintro i hI
  try simp only [] at hI ⊢
  have : big = 2 ^ 64 := rfl
  omega
 ·((try simp only []); omega)
 ·rintro i hI L hL
  try simp only [] at hI
  obtain ⟨i0, i1⟩ := hI
  simp only [Y2.l0, atR, rdQ, Q.ask]
  refine Tm.ite (fun h1 => ?_) (fun h1 => ?_)
  ·try simp only [bz0, bz1, bz2, bz3, bz4, bz5, bz6, bz7, bz8, bz9, bza] at h1
   refine Tm.atRow (by first | assumption | omega) (by first | assumption | omega) (fun x2 hx3 hm4 => ?_)
   obtain ⟨c5, rfl, g6, _⟩ := (ga0_2.2 x2 hm4).open
   refine Tm.uncons ?_
   refine Tm.dStr ?_
   refine Tm.atEnd ?_
   refine Yn.tm (fun i hi => hi.1) (Yn.T (by first | assumption | omega)) (fun y8 hy7 => ?_)
   refine Tm.ite (fun h9 => ?_) (fun h9 => ?_)
   ·try simp only [bz0, bz1, bz2, bz3, bz4, bz5, bz6, bz7, bz8, bz9, bza] at h9
    exact Tm.ret (by trivial)
   ·try simp only [bz0, bz1, bz2, bz3, bz4, bz5, bz6, bz7, bz8, bz9, bza] at h9
    refine Tm.ite (fun h10 => ?_) (fun h10 => ?_)
    ·try simp only [bz0, bz1, bz2, bz3, bz4, bz5, bz6, bz7, bz8, bz9, bza] at h10
     try rw [Zj (x := i - 1) (by omega) (by omega)]
     refine Tm.atRow (by first | assumption | omega) (by first | assumption | omega) (fun x11 hx12 hm13 => ?_)
     obtain ⟨c14, rfl, g15, _⟩ := (ga0_2.2 x11 hm13).open
     refine Tm.uncons ?_
     refine Tm.dStr ?_
     refine Tm.atEnd ?_
     refine Tm.atRow (by first | assumption | omega) (by first | assumption | omega) (fun x16 hx17 hm18 => ?_)
     rw [hx3] at hx17
     injection hx17 with hx17
     subst hx17
     refine Tm.uncons ?_
     refine Tm.dStr ?_
     refine Tm.atEnd ?_
     refine Tm.ite (fun h20 => ?_) (fun h20 => ?_)
     ·try simp only [bz0, bz1, bz2, bz3, bz4, bz5, bz6, bz7, bz8, bz9, bza] at h20
      exact Tm.ret (by trivial)
     ·try simp only [bz0, bz1, bz2, bz3, bz4, bz5, bz6, bz7, bz8, bz9, bza] at h20
      try rw [Zj (x := i + 1) (by omega) (by omega)]
      exact hL _ (by (try simp only []); omega) (by (try simp only []); omega)
    ·try simp only [bz0, bz1, bz2, bz3, bz4, bz5, bz6, bz7, bz8, bz9, bza] at h10
     try rw [Zj (x := i + 1) (by omega) (by omega)]
     exact hL _ (by (try simp only []); omega) (by (try simp only []); omega)
  ·try simp only [bz0, bz1, bz2, bz3, bz4, bz5, bz6, bz7, bz8, bz9, bza] at h1
   refine Yn.tm (fun i hi => hi.1) (Yn.T (by first | assumption | omega)) (fun y22 hy21 => ?_)
   refine Tm.ite (fun h23 => ?_) (fun h23 => ?_)
   ·try simp only [bz0, bz1, bz2, bz3, bz4, bz5, bz6, bz7, bz8, bz9, bza] at h23
    exact Tm.ret (by trivial)
   ·try simp only [bz0, bz1, bz2, bz3, bz4, bz5, bz6, bz7, bz8, bz9, bza] at h23
    refine Tm.ite (fun h24 => ?_) (fun h24 => ?_)
    ·try simp only [bz0, bz1, bz2, bz3, bz4, bz5, bz6, bz7, bz8, bz9, bza] at h24
     refine Tm.ite (fun h25 => ?_) (fun h25 => ?_)
     ·try simp only [bz0, bz1, bz2, bz3, bz4, bz5, bz6, bz7, bz8, bz9, bza] at h25
      exact Tm.ret (by trivial)
     ·try simp only [bz0, bz1, bz2, bz3, bz4, bz5, bz6, bz7, bz8, bz9, bza] at h25
      refine Tm.ite (fun h26 => ?_) (fun h26 => ?_)
      ·try simp only [bz0, bz1, bz2, bz3, bz4, bz5, bz6, bz7, bz8, bz9, bza] at h26
       refine Y4.tm (fun i hi => hi.1) (Y4.T) (fun y28 hy27 => ?_)
       exact Tm.ret (by trivial)
      ·try simp only [bz0, bz1, bz2, bz3, bz4, bz5, bz6, bz7, bz8, bz9, bza] at h26
       refine Tm.ite (fun h29 => ?_) (fun h29 => ?_)
       ·try simp only [bz0, bz1, bz2, bz3, bz4, bz5, bz6, bz7, bz8, bz9, bza] at h29
        refine Tm.ite (fun h30 => ?_) (fun h30 => ?_)
        ·try simp only [bz0, bz1, bz2, bz3, bz4, bz5, bz6, bz7, bz8, bz9, bza] at h30
         exact Tm.ret (by trivial)
        ·try simp only [bz0, bz1, bz2, bz3, bz4, bz5, bz6, bz7, bz8, bz9, bza] at h30
         exact Tm.ret (by trivial)
       ·try simp only [bz0, bz1, bz2, bz3, bz4, bz5, bz6, bz7, bz8, bz9, bza] at h29
        refine Tm.ite (fun h31 => ?_) (fun h31 => ?_)
        ·try simp only [bz0, bz1, bz2, bz3, bz4, bz5, bz6, bz7, bz8, bz9, bza] at h31
         exact Tm.ret (by trivial)
        ·try simp only [bz0, bz1, bz2, bz3, bz4, bz5, bz6, bz7, bz8, bz9, bza] at h31
         exact Tm.ret (by trivial)
    ·try simp only [bz0, bz1, bz2, bz3, bz4, bz5, bz6, bz7, bz8, bz9, bza] at h24
     refine Tm.ite (fun h32 => ?_) (fun h32 => ?_)
     ·try simp only [bz0, bz1, bz2, bz3, bz4, bz5, bz6, bz7, bz8, bz9, bza] at h32
      exact Tm.ret (by trivial)
     ·try simp only [bz0, bz1, bz2, bz3, bz4, bz5, bz6, bz7, bz8, bz9, bza] at h32
      refine Tm.ite (fun h33 => ?_) (fun h33 => ?_)
      ·try simp only [bz0, bz1, bz2, bz3, bz4, bz5, bz6, bz7, bz8, bz9, bza] at h33
       refine Y4.tm (fun i hi => hi.1) (Y4.T) (fun y35 hy34 => ?_)
       exact Tm.ret (by trivial)
      ·try simp only [bz0, bz1, bz2, bz3, bz4, bz5, bz6, bz7, bz8, bz9, bza] at h33
       refine Tm.ite (fun h36 => ?_) (fun h36 => ?_)
       ·try simp only [bz0, bz1, bz2, bz3, bz4, bz5, bz6, bz7, bz8, bz9, bza] at h36
        refine Tm.ite (fun h37 => ?_) (fun h37 => ?_)
        ·try simp only [bz0, bz1, bz2, bz3, bz4, bz5, bz6, bz7, bz8, bz9, bza] at h37
         exact Tm.ret (by trivial)
        ·try simp only [bz0, bz1, bz2, bz3, bz4, bz5, bz6, bz7, bz8, bz9, bza] at h37
         exact Tm.ret (by trivial)
       ·try simp only [bz0, bz1, bz2, bz3, bz4, bz5, bz6, bz7, bz8, bz9, bza] at h36
        refine Tm.ite (fun h38 => ?_) (fun h38 => ?_)
        ·try simp only [bz0, bz1, bz2, bz3, bz4, bz5, bz6, bz7, bz8, bz9, bza] at h38
         exact Tm.ret (by trivial)
        ·try simp only [bz0, bz1, bz2, bz3, bz4, bz5, bz6, bz7, bz8, bz9, bza] at h38
         exact Tm.ret (by trivial)
theorem Ys.f_of {β : Type} {k a0 z0} (h : Ys.t k a0 = some z0) (K : Bool → Option β) : Ys.f k a0 K = K z0 := by unfold Ys.f; rw [h]; rfl
theorem Ys.tm {ι α : Type} {ok : ι → Prop} {ψ : α → Prop} {p : ι → Nat} {B : Nat} (hp : ∀ i, ok i → B ≤ p i) {a0 φ} (h : Tm (fun k => B ≤ k) (fun k => Ys.t k a0) φ) {G : ι → Bool → Option α} (hG : ∀ z0, φ z0 → Tm ok (fun i => G i z0) ψ) : Tm ok (fun i => Ys.f (p i) a0 (G i)) ψ := ZK (t := fun k => Ys.t k a0) hp h hG
def Yaw (B : Nat) (r : List D) : Prop := ∃ (c0 : Int) (c1 : BA) (c2 : LD), r = [.int .i64 c0, .str c1, .sl c2] ∧ (Lit.int .i64 c0).wf = true ∧ c1.size ≤ B ∧ Zi RS B c2 ∧ True
theorem Yaw.open {B : Nat} {r : List D} (h : Yaw B r) : ∃ (c0 : Int) (c1 : BA) (c2 : LD), r = [.int .i64 c0, .str c1, .sl c2] ∧ (Lit.int .i64 c0).wf = true ∧ c1.size ≤ B ∧ Zi RS B c2 ∧ True := h
theorem Yaw.mono {B B' : Nat} (hb : B ≤ B') {r : List D} (h : Yaw B r) : Yaw B' r := by
 obtain ⟨c0, c1, c2, rfl, k0, k1, k2, _⟩ := h
 exact ⟨_, _, _, rfl, k0, (Nat.le_trans k1 hb), ⟨Nat.le_trans k2.1 hb, fun r hr => (k2.2 r hr).mono hb⟩, trivial⟩
theorem Yaw.wide {xs : LD} (h : Zi Yaw lim xs) : Zi Yaw 2097152 xs := ⟨Nat.le_trans h.1 (by decide), fun r hr => (h.2 r hr).mono (by decide)⟩
theorem Yaw.len {B : Nat} {r : List D} (h : Yaw B r) : r.length = 3 := by
 obtain ⟨c0, c1, c2, rfl, _⟩ := h.open
 rfl
theorem Yaw.gets {B : Nat} {xs : LD} (h : ∀ r ∈ xs, Yaw B r) {v : Int} (h0 : 0 ≤ v) (h1 : v < xs.length) : gR xs v = [.int .i64 (gI xs v 0), .str (gS xs v 1), .sl (gL xs v 2)] ∧ (Lit.int .i64 (gI xs v 0)).wf = true ∧ (gS xs v 1).size ≤ B ∧ Zi RS B (gL xs v 2) ∧ True := by
 obtain ⟨c0, c1, c2, e, k0, k1, k2, _⟩ := (h (gR xs v) (gR_mem h0 h1)).open
 unfold gI gL gS
 rw [e]
 exact ⟨rfl, k0, k1, k2, trivial⟩
theorem Yaw.rows {B : Nat} {xs : LD} (h : ∀ r ∈ xs, Yaw B r) {v : Int} (h0 : 0 ≤ v) (h1 : v < xs.length) {β : Type} (F : List D → Option β) : Zbw xs v F = F [.int .i64 (gI xs v 0), .str (gS xs v 1), .sl (gL xs v 2)] := by
 rw [← (Yaw.gets h h0 h1).1]
 exact Zbp h0 h1 F
theorem Yaw.get {B : Nat} {xs : LD} (h : Zi Yaw B xs) {v : Int} (h0 : 0 ≤ v) (h1 : v < xs.length) : gR xs v = [.int .i64 (gI xs v 0), .str (gS xs v 1), .sl (gL xs v 2)] ∧ (Lit.int .i64 (gI xs v 0)).wf = true ∧ (gS xs v 1).size ≤ B ∧ Zi RS B (gL xs v 2) ∧ True := Yaw.gets h.2 h0 h1
theorem Yaw.row {B : Nat} {xs : LD} (h : Zi Yaw B xs) {v : Int} (h0 : 0 ≤ v) (h1 : v < xs.length) {β : Type} (F : List D → Option β) : Zbw xs v F = F [.int .i64 (gI xs v 0), .str (gS xs v 1), .sl (gL xs v 2)] := Yaw.rows h.2 h0 h1 F
set_option maxRecDepth 100000 in
theorem Ys.T {a0 : LD} (ga0 : Zi Yaw lim a0) : Tm Z3 (fun k => Ys.t k a0) (fun _ => True) := by
 unfold Ys.t Ys.g
 have hm := Zy
 have hlim : lim = 1048576 := rfl
 have la0 := ga0.1
 refine Tm.loop (okk := Z3) (p := fun k => k) (fun i hi => hi) (b := fun k => Ys.l0 k a0 (fun z0 => some z0)) (fun i => (((a0.length : Int)) - i).toNat) (fun i => 0 ≤ i ∧ i ≤ (a0.length : Int)) ?_ ?_ ?_
 ·rintro i hI
  try simp only [] at hI ⊢
  have : big = 2 ^ 64 := rfl
  omega
 ·((try simp only []); omega)
 ·rintro i hI L hL
  try simp only [] at hI
  obtain ⟨i0, i1⟩ := hI
  simp only [Ys.l0, atR, rdQ, Q.ask]
  refine Tm.ite (fun h1 => ?_) (fun h1 => ?_)
  ·try simp only [bz0, bz1, bz2, bz3, bz4, bz5, bz6, bz7, bz8, bz9, bza] at h1
   refine Tm.atRow (by first | assumption | omega) (by first | assumption | omega) (fun x2 hx3 hm4 => ?_)
   obtain ⟨c5, c6, c7, rfl, g8, g9, g10, _⟩ := (ga0.2 x2 hm4).open
   refine Tm.uncons ?_
   refine Tm.dInt ?_
   refine Tm.uncons ?_
   refine Tm.dStr ?_
   refine Tm.uncons ?_
   refine Tm.dSl ?_
   refine Tm.atEnd ?_
   refine Y2.tm (fun i hi => hi.1) (Y2.T (by first | assumption | omega) (by first | assumption | omega)) (fun y12 hy11 => ?_)
   refine Tm.ite (fun h13 => ?_) (fun h13 => ?_)
   ·try simp only [bz0, bz1, bz2, bz3, bz4, bz5, bz6, bz7, bz8, bz9, bza] at h13
    exact Tm.ret (by trivial)
   ·try simp only [bz0, bz1, bz2, bz3, bz4, bz5, bz6, bz7, bz8, bz9, bza] at h13
    try rw [Zj (x := i + 1) (by omega) (by omega)]
    exact hL _ (by (try simp only []); omega) (by (try simp only []); omega)
  ·try simp only [bz0, bz1, bz2, bz3, bz4, bz5, bz6, bz7, bz8, bz9, bza] at h1
   exact Tm.ret (by trivial)
noncomputable def Ys.v (a0 : LD) : Bool := (Ys.t big a0).getD default
theorem Ys.tv {a0 : LD} (ga0 : Zi Yaw lim a0) {k : Nat} (hk : Z3 k) : Ys.t k a0 = some (Ys.v a0) := (Ys.T ga0).val hk
theorem Ys.fv {a0 : LD} (ga0 : Zi Yaw lim a0) {k : Nat} (hk : Z3 k) {β : Type} (K : Bool → Option β) : Ys.f k a0 K = K (Ys.v a0) := Ys.f_of (Ys.tv ga0 hk) K
theorem lens (n : Int) (h : 0 ≤ n) : n = 0 ∨ n = 1 ∨ ((n == 0) = false ∧ (n == 1) = false ∧ 1 ≤ n) := by
 simp only [beq_eq_false_iff_ne]
 omega
noncomputable def termB (kind : Int) (key : BA) (vals : LD) : Bool :=
 namesB vals && Yn.v key && ((kind == 1 || kind == 2) && (vals.length : Int) == 1 || kind == 3 && (decide ((vals.length : Int) ≥ 1) && decide ((vals.length : Int) ≤ 6)) || (kind == 4 || kind == 5) && (vals.length : Int) == 0)
set_option maxRecDepth 100000 in
theorem l2Term_v {kind : Int} {key : BA} {vals : LD} (gk : key.size ≤ lim) (g : Zi RS lim vals) {k : Nat} (hk : Z3 k) : Y2.t k kind key vals = some (termB kind key vals) := by
 have hl := g.1
 have hlim : lim = 1048576 := rfl
 have hb : big = 2 ^ 64 := rfl
 unfold Y2.t Y2.g
 rw [Zb6 (n := vals.length) (fun i => Yn.v (gS vals (i : Int) 0) && (!decide ((i : Int) > 0) || ZbO (gS vals ((i : Int) - 1) 0) (gS vals (i : Int) 0))) (r1 := some false)
  (r2 := some (Yn.v key && ((kind == 1 || kind == 2) && (vals.length : Int) == 1 || kind == 3 && (decide ((vals.length : Int) ≥ 1) && decide ((vals.length : Int) ≤ 6)) || (kind == 4 || kind == 5) && (vals.length : Int) == 0))) (by unfold Z3 at hk; omega)]
 ·unfold termB namesB
  generalize List.all _ _ = x
  cases x
  ·rfl
  ·simp
 ·intro L i hi
  have k0 := (RS.get g (v := (i : Int)) (by omega) (by omega)).2.1
  simp (disch := omega) only [Y2.l0, atR, rdQ, Q.ask, ZQ (show (i : Int) < vals.length by omega), cond_true, RS.row g, ZY, Zaj, Z6, Yn.fv k0 hk, Zj]
  by_cases h0 : (i : Int) > 0
  ·simp (disch := omega) only [ZQ h0, cond_true, RS.row g, ZY, Zaj, Z6]
   cases Yn.v (gS vals (i : Int) 0) <;> cases ZbO (gS vals ((i : Int) - 1) 0) (gS vals (i : Int) 0) <;> rfl
  ·simp only [ZV h0, cond_false]
   cases Yn.v (gS vals (i : Int) 0) <;> rfl
 ·intro L
  simp only [Y2.l0, atR, rdQ, Q.ask, ZV (show ¬ (vals.length : Int) < vals.length by omega), cond_false, Yn.fv gk hk, l1In_f, ge_iff_le]
  cases Yn.v key
  ·rfl
  ·rcases ZaA kind with rfl | rfl | rfl | rfl | rfl | ⟨e1, e2, e3, e4, e5⟩
   all_goals first | (simp only [e1, e2, e3, e4, e5]; simp; done) | (by_cases h7 : 1 ≤ (vals.length : Int) <;> simp [h7]; done)
theorem termOk_v {kind : Int} {key : BA} {vals : LD} (gk : key.size ≤ lim) (g : Zi RS lim vals) {k : Nat} (hk : Z3 k) : YaE.t k kind key vals = some (termB kind key vals) := by
 unfold YaE.t YaE.g termB
 simp only [YaQ, Yn.fv gk hk, namesOk_fv g hk]
 rcases ZaA kind with rfl | rfl | rfl | rfl | rfl | ⟨e1, e2, e3, e4, e5⟩
 all_goals cases Yn.v key <;> cases namesB vals <;> rcases lens (vals.length : Int) (by omega) with h7 | h7 | ⟨h7, h8, h9⟩ <;> (try simp only [e1, e2, e3, e4, e5]) <;> (first | (simp [h7]; done) | simp [h7, h8, h9])
noncomputable def termsB (a : LD) : Bool := (List.range a.length).all fun i => termB (gI a (i : Int) 0) (gS a (i : Int) 1) (gL a (i : Int) 2)
set_option maxRecDepth 100000 in
theorem SelectorOk_v {a : LD} (g : Zi Yaw lim a) {k : Nat} (hk : Z3 k) : Ys.t k a = some (termsB a && decide ((a.length : Int) ≤ 8)) := by
 have hl := g.1
 have hlim : lim = 1048576 := rfl
 have hb : big = 2 ^ 64 := rfl
 unfold Ys.t Ys.g
 rw [Zb6 (n := a.length) (fun i => termB (gI a (i : Int) 0) (gS a (i : Int) 1) (gL a (i : Int) 2)) (r1 := some false) (r2 := some (decide ((a.length : Int) ≤ 8))) (by unfold Z3 at hk; omega)]
 ·unfold termsB
  generalize List.all _ _ = x
  cases x <;> rfl
 ·intro L i hi
  obtain ⟨-, k0, k1, k2, -⟩ := Yaw.get g (v := (i : Int)) (by omega) (by omega)
  simp (disch := omega) only [Ys.l0, atR, rdQ, Q.ask, ZQ (show (i : Int) < a.length by omega), cond_true, Yaw.row g, ZY, Zaj, Zad, Za7, Z6, Y2.f_of (l2Term_v k1 k2 hk), Zj]
  cases termB (gI a (i : Int) 0) (gS a (i : Int) 1) (gL a (i : Int) 2) <;> rfl
 ·intro L
  simp [Ys.l0, atR, rdQ, Q.ask]
set_option maxRecDepth 100000 in
theorem SelectorOk_impl {a : LD} (g : Zi Yaw lim a) {k : Nat} (hk : Z3 k) : Yaf.t k a = some (termsB a && decide ((a.length : Int) ≤ 8)) := by
 have hl := g.1
 have hlim : lim = 1048576 := rfl
 have hb : big = 2 ^ 64 := rfl
 have hf : ∀ {β : Type} (K : Int → Option β), Yd.f k a K = K (Zbo (fun i => !termB (gI a (i : Int) 0) (gS a (i : Int) 1) (gL a (i : Int) 2)) a.length) := fun K => Yd.f_of (by
  unfold Yd.t Yd.g
  refine iter_findI (n := a.length) _ some (by unfold Z3 at hk; omega) (fun L i hi => ?_) (fun L => by simp [Yd.l0, atR, rdQ, Q.ask])
  obtain ⟨-, k0, k1, k2, -⟩ := Yaw.get g (v := (i : Int)) (by omega) (by omega)
  have hs : ∀ {β : Type} (K : Bool → Option β), Yai.f k (gI a (i : Int) 0) (gS a (i : Int) 1) (gL a (i : Int) 2) K = K (!termB (gI a (i : Int) 0) (gS a (i : Int) 1) (gL a (i : Int) 2)) := fun K => Yai.f_of (by unfold Yai.t Yai.g; rw [YaE.f_of (termOk_v k1 k2 hk)]) K
  simp (disch := omega) only [Yd.l0, atR, rdQ, Q.ask, ZQ (show (i : Int) < a.length by omega), cond_true, Yaw.row g, ZY, Zaj, Zad, Za7, Z6, hs, Zj]) K
 unfold Yaf.t Yaf.g
 have hc : ∀ {β : Type} (K : Bool → Option β), Yo.f k a K = K (!termsB a) := fun K => Yo.f_of (by
  unfold Yo.t Yo.g
  rw [hf, findI_all]
  simp only [Bool.not_not, termsB]) K
 rw [hc]
 by_cases h8 : (a.length : Int) ≤ 8 <;> simp [h8]
theorem Ya7 {a : LD} (g : Zi Yaw lim a) {k : Nat} (hk : Z3 k) {β : Type} (K : Bool → Option β) : Yaf.f k a K = Ys.f k a K := by
 rw [Yaf.f_of (SelectorOk_impl g hk), Ys.f_of (SelectorOk_v g hk)]
theorem nameAny_ex {b : LD} {i h : Int} {k : Nat} (c : Cur b i) : ∃ s i' h', s.size ≤ lim ∧ Cur b i' ∧ Yag.t k b i h = some (s, b, i', h') := by
 unfold Yag.t Yag.g
 obtain ⟨x, i1, h1, hc1, e1⟩ := Ya3 (k := k) (h := h) (n := 8) c
 rw [YZ.f_of e1]
 cases x
 ·obtain ⟨s, i2, h2, gs, hc2, e2⟩ := name_ex (k := k) (h := h1) hc1
  rw [cond_false, Yaj.f_of e2]
  exact ⟨_, _, _, gs, hc2, rfl⟩
 ·have hstr : ∀ r ∈ ([[.str (⟨#[]⟩ : BA)], [.str (⟨#[45, 97]⟩ : BA)], [.str (⟨#[97, 45]⟩ : BA)], [.str (⟨#[65]⟩ : BA)], [.str (⟨#[97, 32, 98]⟩ : BA)], [.str (⟨#[97, 98, 99, 100, 101, 102, 103, 104, 105, 106, 107, 108, 109, 110, 111, 112, 113, 114, 115, 116, 117]⟩ : BA)], [.str (⟨#[255]⟩ : BA)], [.str (⟨#[97, 61, 98]⟩ : BA)]] : LD), RS lim r := by
   intro r hr
   simp only [List.mem_cons, List.not_mem_nil, or_false] at hr
   rcases hr with rfl | rfl | rfl | rfl | rfl | rfl | rfl | rfl <;> exact ⟨_, rfl, by decide, trivial⟩
  obtain ⟨j, i2, h2, j0, j1, hc2, e2⟩ := str_ex (k := k) (h := h1) hc1 hstr (by decide)
  rw [cond_true, YaB.f_of e2]
  exact ⟨_, _, _, (RS.gets hstr j0 j1).2.1, hc2, rfl⟩
def TR (n : Nat) (c : List C) : Prop := ∃ (x : Int) (y : BA) (vs : LD), c = [.d (.int .i64 x), .d (.str y), .own (vs.map (·.map C.d))] ∧ (Lit.int .i64 x).wf = true ∧ y.size ≤ lim ∧ (∀ r ∈ vs, RS lim r) ∧ vs.length ≤ n
theorem TR.row {n : Nat} (hn : n ≤ 1000) : ∀ {ts : LC}, (∀ c ∈ ts, TR n c) → (∀ r ∈ C.immRows ts, Yaw lim r) ∧ (C.immRows ts).length = ts.length
 | [], _ => ⟨by intro r hr; simp [C.immRows] at hr, rfl⟩
 | c :: ts, h => by
  obtain ⟨h1, h2⟩ := TR.row hn (ts := ts) fun c hc => h c (by simp [hc])
  obtain ⟨x, y, vs, rfl, a1, a2, a3, a4⟩ := h c (by simp)
  refine ⟨fun r hr => ?_, by simp only [C.immRows, List.length_cons, h2]⟩
  simp only [C.immRows, List.mem_cons] at hr
  rcases hr with rfl | hr
  ·refine ⟨x, y, vs, ?_, a1, a2, ⟨Nat.le_trans a4 (Nat.le_trans hn (by decide)), a3⟩, trivial⟩
   simp only [C.immCells, C.imm, imm_rows]
  ·exact h1 r hr
theorem TR.mono {n m : Nat} (hnm : n ≤ m) {c : List C} (h : TR n c) : TR m c := by
 obtain ⟨a, y, vs, rfl, a1, a2, a3, a4⟩ := h
 exact ⟨a, y, vs, rfl, a1, a2, a3, Nat.le_trans a4 hnm⟩
theorem TR.sl {n : Nat} (hn : n ≤ 1000) {ts : LC} (h : ∀ c ∈ ts, TR n c) (hl : ts.length ≤ 1000) : Zi Yaw lim (C.immRows ts) := ⟨by rw [(TR.row hn h).2]; exact Nat.le_trans hl (by decide), (TR.row hn h).1⟩
theorem termLoop {k : Nat} (hk : Z3 k) {b l : LD} {i h kind x0 : Int} {s0 key : BA} (hl : ∀ r ∈ l, RSS lim r) (hll : l.length ≤ 5) {β : Type} (K : Int → BA → LC → LD → Int → Int → Option β) : ∃ vs : LD, (∀ r ∈ vs, RS lim r) ∧ vs.length ≤ 5 ∧ Zo (YK.l1 k b i h x0 s0 kind key (l.map (·.map C.d)) K) k (0, []) = K kind key (vs.map (·.map C.d)) b i h := by
 have hb : big = 2 ^ 64 := rfl
 have hm : ZN = 2 ^ 36 := rfl
 refine Ya4 (fun v => 5 - v.1.toNat) (fun v => 0 ≤ v.1 ∧ v.1 ≤ (l.length : Int) ∧ ∃ o : LD, v.2 = o.map (·.map C.d) ∧ (∀ r ∈ o, RS lim r) ∧ (o.length : Int) = v.1) (fun o => ∃ vs : LD, (∀ r ∈ vs, RS lim r) ∧ vs.length ≤ 5 ∧ o = K kind key (vs.map (·.map C.d)) b i h) ?_ ⟨by simp, by simp, [], rfl, by simp, by simp⟩ (by show 5 - 0 < k; unfold Z3 at hk; omega)
 rintro ⟨n, out⟩ ⟨n0, n1, o, e, ho, hlen⟩ L hL
 simp only at n0 n1 e hlen
 subst e
 by_cases hn : n < (l.length : Int)
 ·have hr := RSS.gets hl n0 hn
  simp only [YK.l1, map_len, ZQ hn, cond_true, ZaP (show (0 : Int) ≤ n ∧ n < (l.length : Int) from ⟨n0, hn⟩), atNat_up n0 hn, hr.1, List.map_cons, List.map_nil, List.drop_zero, ZY, cD_at, Zaj, List.length_singleton, Zj (show -9223372036854775808 ≤ n + 1 by omega) (show n + 1 ≤ 9223372036854775807 by omega)]
  rw [ZaP (by omega)]
  exact hL _ ⟨by show 0 ≤ n + 1; omega, by show n + 1 ≤ (l.length : Int); omega, o ++ [[.str (gS l n 0)]], by rw [List.map_append]; rfl, YaM ho ⟨_, rfl, hr.2.1, trivial⟩, by rw [List.length_append, List.length_singleton]; show ((o.length + 1 : Nat) : Int) = n + 1; omega⟩ (by show 5 - (n + 1).toNat < 5 - n.toNat; omega)
 ·simp only [YK.l1, map_len, ZV hn, cond_false]
  cases hz : ((o.length : Int) : Int) == 0
  ·exact ⟨o, ho, by omega, rfl⟩
  ·exact ⟨[[.str (⟨#[97]⟩ : BA)]], fun r hr => by simp only [List.mem_singleton] at hr; subst hr; exact ⟨_, rfl, by decide, trivial⟩, by decide, rfl⟩
theorem tk0 : IntKind.wrap .i64 (1 + 0) = 1 := by decide
theorem tk1 : IntKind.wrap .i64 (1 + 1) = 2 := by decide
theorem tk2 : IntKind.wrap .i64 (1 + 2) = 3 := by decide
theorem tk3 : IntKind.wrap .i64 (1 + 3) = 4 := by decide
theorem tk4 : IntKind.wrap .i64 (1 + 4) = 5 := by decide
def TermD (b : LD) (o : Option (Int × BA × LC × LD × Int × Int)) : Prop :=
 ∃ (x : Int) (y : BA) (vs : LD) (i' h' : Int), (Lit.int .i64 x).wf = true ∧ y.size ≤ lim ∧ (∀ r ∈ vs, RS lim r) ∧ vs.length ≤ 5 ∧ Cur b i' ∧ o = some (x, y, vs.map (·.map C.d), b, i', h')
theorem term_ex {k : Nat} (hk : Z3 k) {b : LD} {i h : Int} (c : Cur b i) : TermD b (YK.t k b i h) := by
 obtain ⟨x, i1, h1, x0, x1, -, hc1, e1⟩ := YaO (k := k) (h := h) (n := 5) c
 have x1 := x1 (by decide)
 obtain ⟨s, i2, h2, gs, hc2, e2⟩ := name_ex (k := k) (h := h1) hc1
 unfold YK.t YK.g YK.m
 rw [YL.f_of e1, Yaj.f_of e2]
 have hx : x = 0 ∨ x = 1 ∨ x = 2 ∨ x = 3 ∨ x = 4 := by omega
 obtain ⟨s', i3, h3, gs', hc3, e3⟩ := name_ex (k := k) (h := h2) hc2
 have one : ∀ r ∈ ([[.str s']] : LD), RS lim r := fun r hr => by simp only [List.mem_singleton] at hr; subst hr; exact ⟨_, rfl, gs', trivial⟩
 have one_le : ([[.str s']] : LD).length ≤ 5 := by show 1 ≤ 5; decide
 rcases hx with rfl | rfl | rfl | rfl | rfl
 ·simp only [tk0, cond_true, cond_false, Int.reduceBEq, Yaj.f_of e3]
  exact ⟨1, s, [[.str s']], _, _, by decide, gs, one, one_le, hc3, rfl⟩
 ·simp only [tk1, cond_true, cond_false, Int.reduceBEq, Yaj.f_of e3]
  exact ⟨2, s, [[.str s']], _, _, by decide, gs, one, one_le, hc3, rfl⟩
 ·obtain ⟨l, i4, h4, gl, ll, hc4, e4⟩ := labels_ex (k := k) (h := h2) (M := 5) hk hc2 (by decide)
  simp only [tk2, cond_true, cond_false, Int.reduceBEq, Y7.f_of e4]
  obtain ⟨vs, q1, q2, q3⟩ := termLoop hk (b := b) (i := i4) (h := h4) (kind := 3) (x0 := 0) (s0 := ⟨#[]⟩) (key := s) gl ll (fun z0 z1 z2 z3 z4 z5 => some (z0, z1, z2, z3, z4, z5))
  exact ⟨3, s, vs, _, _, by decide, gs, q1, by omega, hc4, q3⟩
 ·simp only [tk3, cond_true, cond_false, Int.reduceBEq]
  exact ⟨4, s, [], _, _, by decide, gs, by simp, by decide, hc2, rfl⟩
 ·simp only [tk4, cond_true, cond_false, Int.reduceBEq]
  exact ⟨5, s, [], _, _, by decide, gs, by simp, by decide, hc2, rfl⟩
def TermsD (b : LD) (m n : Nat) (o : Option (LC × LD × Int × Int)) : Prop :=
 ∃ (ts : LC) (i' h' : Int), (∀ c ∈ ts, TR m c) ∧ ts.length ≤ n ∧ Cur b i' ∧ o = some (ts, b, i', h')
theorem terms_ex {k : Nat} (hk : Z3 k) {b : LD} {i h M : Int} (c : Cur b i) (hM : M ≤ 100) : TermsD b 5 M.toNat (Y9.t k b i h M) := by
 have hb : big = 2 ^ 64 := rfl
 have hm : ZN = 2 ^ 36 := rfl
 unfold Y9.t Y9.g
 obtain ⟨x, i1, h1, x0, x1, x2, hc1, e1⟩ := YaO (k := k) (h := h) (n := M) c
 rw [YL.f_of e1]
 refine Ya4 (fun v => v.1.toNat) (fun v => 0 ≤ v.1 ∧ v.2.1 = b ∧ Cur b v.2.2.1 ∧ (∀ c ∈ v.2.2.2.2, TR 5 c) ∧ (v.2.2.2.2.length : Int) + v.1 ≤ M.toNat) (TermsD b 5 M.toNat) ?_ (v := (x, b, i1, h1, [])) ⟨x0, rfl, hc1, by simp, by simp; omega⟩ (by unfold Z3 at hk; show x.toNat < k; omega)
 rintro ⟨n, b', i, h, out⟩ ⟨n0, eb, hc, ho, hlen⟩ L hL
 simp only at n0 eb hc ho hlen
 subst eb
 by_cases hn : n > 0
 ·obtain ⟨y, s, vs, i2, h2, q0, q1, q2, q3, hc2, e2⟩ := term_ex hk (h := h) hc
  simp only [Y9.l0, ZQ hn, cond_true, YK.f_of e2, List.length_singleton, Zj (show -9223372036854775808 ≤ n - 1 by omega) (show n - 1 ≤ 9223372036854775807 by omega)]
  rw [ZaP (by omega)]
  exact hL _ ⟨by show 0 ≤ n - 1; omega, rfl, hc2, YaM ho ⟨y, s, vs, rfl, q0, q1, q2, q3⟩, by show ((out ++ _).length : Int) + (n - 1) ≤ _; rw [List.length_append, List.length_singleton]; omega⟩ (by show (n - 1).toNat < n.toNat; omega)
 ·simp only [Y9.l0, ZV hn, cond_false]
  exact ⟨out, i, h, ho, by omega, hc, rfl⟩
theorem fill_ex {k : Nat} (hk : Z3 k) {b : LD} {i h : Int} {ts : LC} (c : Cur b i) (ht : ∀ c ∈ ts, TR 6 c) (hl : ts.length ≤ 9) : TermsD b 6 9 (Zo (Yl.l0 k (fun z0 z1 z2 z3 => some (z0, z1, z2, z3))) k (b, i, h, ts)) := by
 have hb : big = 2 ^ 64 := rfl
 have hm : ZN = 2 ^ 36 := rfl
 refine Ya4 (fun v => 10 - v.2.2.2.length) (fun v => v.1 = b ∧ Cur b v.2.1 ∧ (∀ c ∈ v.2.2.2, TR 6 c) ∧ v.2.2.2.length ≤ 9) (TermsD b 6 9) ?_ (v := (b, i, h, ts)) ⟨rfl, c, ht, hl⟩ (by unfold Z3 at hk; show 10 - ts.length < k; omega)
 rintro ⟨b', i, h, out⟩ ⟨eb, hc, ho, hlen⟩ L hL
 simp only at eb hc ho hlen
 subst eb
 obtain ⟨x, i1, h1, x0, x1, -, hc1, e1⟩ := YaO (k := k) (h := h) (n := 2) hc
 have x1 := x1 (by decide)
 simp only [Yl.l0, YL.f_of e1, Zj (show -9223372036854775808 ≤ 8 + x by omega) (show 8 + x ≤ 9223372036854775807 by omega)]
 by_cases hn : (out.length : Int) < 8 + x
 ·rw [ZQ hn, cond_true, ZaP (by rw [List.length_singleton]; omega)]
  exact hL _ ⟨rfl, hc1, YaM ho ⟨4, ⟨#[97]⟩, [], rfl, by decide, by decide, by simp, by decide⟩, by show (out ++ _).length ≤ 9; rw [List.length_append, List.length_singleton]; omega⟩ (by show 10 - (out ++ _).length < 10 - out.length; rw [List.length_append, List.length_singleton]; omega)
 ·rw [ZV hn, cond_false]
  exact ⟨out, i1, h1, ho, hlen, hc1, rfl⟩
theorem fin_ex {k : Nat} (hk : Z3 k) {b : LD} {i h : Int} {ts : LC} (c : Cur b i) (ht : ∀ c ∈ ts, TR 6 c) (hl : ts.length ≤ 9) : TermsD b 6 9 (YZ.f k b i h 40 (fun y11 y12 y13 y14 => bif y11 then Zo (Yl.l0 k (fun z0 z1 z2 z3 => some (z0, z1, z2, z3))) k (y12, y13, y14, ts) else some (ts, y12, y13, y14))) := by
 obtain ⟨x, i1, h1, hc1, e1⟩ := Ya3 (k := k) (h := h) (n := 40) c
 rw [YZ.f_of e1]
 cases x
 ·exact ⟨ts, i1, h1, ht, hl, hc1, rfl⟩
 ·exact fill_ex hk hc1 ht hl
theorem TR.kind {x : Int} (hx : (Lit.int .i64 x).wf = true) {n : Nat} (c : List C) (h : TR n c) : TR n (Zq c 0 [.d (.int .i64 x)]) := by
 obtain ⟨a, y, vs, rfl, a1, a2, a3, a4⟩ := h
 exact ⟨x, y, vs, rfl, hx, a2, a3, a4⟩
theorem TR.key {y : BA} (hy : y.size ≤ lim) {n : Nat} (c : List C) (h : TR n c) : TR n (Zq c 1 [.d (.str y)]) := by
 obtain ⟨a, y', vs, rfl, a1, a2, a3, a4⟩ := h
 exact ⟨a, y, vs, rfl, a1, hy, a3, a4⟩
theorem TR.vals {vs : LD} (hv : ∀ r ∈ vs, RS lim r) {n : Nat} (hl : vs.length ≤ n) {m : Nat} (c : List C) (h : TR m c) : TR n (Zq c 2 [.own (vs.map (·.map C.d))]) := by
 obtain ⟨a, y', vs', rfl, a1, a2, a3, a4⟩ := h
 exact ⟨a, y', vs, rfl, a1, a2, hv, hl⟩
theorem termsAny_ex {k : Nat} (hk : Z3 k) {b : LD} {i h : Int} (c : Cur b i) : TermsD b 6 9 (Yl.t k b i h) := by
 have hm : ZN = 2 ^ 36 := rfl
 obtain ⟨ts, i1, h1, ht, hl, hc1, e1⟩ := terms_ex hk (h := h) (M := 5) c (by decide)
 have hl : ts.length ≤ 5 := hl
 have ht5 := ht
 have ht : ∀ c ∈ ts, TR 6 c := fun c hc => (ht5 c hc).mono (by decide)
 unfold Yl.t Yl.g Yl.m
 rw [Y9.f_of e1]
 by_cases hz : (ts.length : Int) > 0
 ·rw [ZQ hz, cond_true]
  obtain ⟨x, i2, h2, hc2, e2⟩ := Ya3 (k := k) (h := h1) (n := 5) hc1
  rw [YZ.f_of e2]
  cases x
  ·exact fin_ex hk hc2 ht (by omega)
  ·simp only [cond_true]
   obtain ⟨p, i3, h3, p0, p1, -, hc3, e3⟩ := YaO (k := k) (h := h2) (n := (ts.length : Int)) hc2
   have p1 := p1 hz
   obtain ⟨q, i4, h4, q0, q1, -, hc4, e4⟩ := YaO (k := k) (h := h3) (n := 3) hc3
   have q1 := q1 (by decide)
   rw [YL.f_of e3, YL.f_of e4]
   have hq : q = 0 ∨ q = 1 ∨ q = 2 := by omega
   have hp' : (0 : Int) ≤ p ∧ p < (ts.length : Int) := ⟨p0, p1⟩
   have hp2 : Int.toNat p < ts.length := by omega
   rcases hq with rfl | rfl | rfl
   ·obtain ⟨z, i5, h5, z0, z1, -, hc5, e5⟩ := YaO (k := k) (h := h4) (n := 7) hc4
    have z1 := z1 (by decide)
    simp only [cond_true, cond_false, Int.reduceBEq]
    rw [YL.f_of e5, ZaP hp', ZaP hp2]
    exact fin_ex hk hc5 (mem_modify (TR.kind (wf_of (by omega) (by omega))) ht) (by rw [List.length_modify]; omega)
   ·obtain ⟨z, i5, h5, gz, hc5, e5⟩ := nameAny_ex (k := k) (h := h4) hc4
    simp only [cond_true, cond_false, Int.reduceBEq]
    rw [Yag.f_of e5, ZaP hp', ZaP hp2]
    exact fin_ex hk hc5 (mem_modify (TR.key gz) ht) (by rw [List.length_modify]; omega)
   ·obtain ⟨z, i5, h5, gz, hc5, e5⟩ := nameAny_ex (k := k) (h := h4) hc4
    simp only [cond_true, cond_false, Int.reduceBEq]
    rw [ZaP hp']
    obtain ⟨x', y', vs, er, a1, a2, a3, a4⟩ := ht5 _ (List.getElem_mem hp2)
    unfold ZaG
    rw [List.getElem?_eq_getElem hp2, er]
    simp only [List.drop_succ_cons, List.drop_zero, ZY, C.imm, imm_rows, Za7]
    rw [ZaP (RS.flat a3), ZaP (by simp only [List.length_nil, map_len]; omega), Yag.f_of e5, ZaP (by simp only [List.nil_append, map_len, List.length_singleton]; omega), ZaP hp', ZaP hp2]
    have e6 : (([] : LC) ++ (vs.map (·.map C.d))) ++ ([[.d (.str z)]] : LC) = ((vs ++ [[D.str z]] : LD).map (·.map C.d)) := by rw [List.nil_append, List.map_append]; rfl
    simp only [e6]
    exact fin_ex hk hc5 (mem_modify (TR.vals (vs := vs ++ [[D.str z]]) (YaM a3 ⟨_, rfl, gz, trivial⟩) (n := 6) (by rw [List.length_append, List.length_singleton]; omega) (m := 6)) ht) (by rw [List.length_modify]; omega)
 ·rw [ZV hz, cond_false]
  exact fin_ex hk hc1 ht (by omega)
theorem YQ.tm {ι α : Type} {ok : ι → Prop} {ψ : α → Prop} {p : ι → Nat} {B : Nat} (hp : ∀ i, ok i → B ≤ p i) {a0 a1 φ} (h : Tm (fun k => B ≤ k) (fun k => YQ.t k a0 a1) φ) {G : ι → Bool → Option α} (hG : ∀ z0, φ z0 → Tm ok (fun i => G i z0) ψ) : Tm ok (fun i => YQ.f (p i) a0 a1 (G i)) ψ := ZK (t := fun k => YQ.t k a0 a1) hp h hG
set_option maxRecDepth 100000 in
theorem YQ.T {a0 : LD} {a1 : Int} (ga0 : Zi RS lim a0) : Tm Z3 (fun k => YQ.t k a0 a1) (fun _ => True) := by
 unfold YQ.t YQ.g
 have hm := Zy
 have hlim : lim = 1048576 := rfl
 have la0 := ga0.1
 refine Tm.loop (okk := Z3) (p := fun k => k) (fun i hi => hi) (b := fun k => YQ.l0 k a0 a1 (fun z0 => some z0)) (fun i => (((a0.length : Int)) - i).toNat) (fun i => 0 ≤ i ∧ i ≤ (a0.length : Int)) ?_ ?_ ?_
 ·rintro i hI
  try simp only [] at hI ⊢
  have : big = 2 ^ 64 := rfl
  omega
 ·((try simp only []); omega)
 ·rintro i hI L hL
  try simp only [] at hI
  obtain ⟨i0, i1⟩ := hI
  simp only [YQ.l0, atR, rdQ, Q.ask]
  refine Tm.ite (fun h1 => ?_) (fun h1 => ?_)
  ·try simp only [bz0, bz1, bz2, bz3, bz4, bz5, bz6, bz7, bz8, bz9, bza] at h1
   refine Tm.atRow (by first | assumption | omega) (by first | assumption | omega) (fun x2 hx3 hm4 => ?_)
   obtain ⟨c5, rfl, g6, _⟩ := (ga0.2 x2 hm4).open
   refine Tm.uncons ?_
   refine Tm.dStr ?_
   refine Tm.atEnd ?_
   refine Yn.tm (fun i hi => hi.1) (Yn.T (by first | assumption | omega)) (fun y8 hy7 => ?_)
   refine Tm.ite (fun h9 => ?_) (fun h9 => ?_)
   ·try simp only [bz0, bz1, bz2, bz3, bz4, bz5, bz6, bz7, bz8, bz9, bza] at h9
    exact Tm.ret (by trivial)
   ·try simp only [bz0, bz1, bz2, bz3, bz4, bz5, bz6, bz7, bz8, bz9, bza] at h9
    refine Tm.ite (fun h10 => ?_) (fun h10 => ?_)
    ·try simp only [bz0, bz1, bz2, bz3, bz4, bz5, bz6, bz7, bz8, bz9, bza] at h10
     try rw [Zj (x := i - 1) (by omega) (by omega)]
     refine Tm.atRow (by first | assumption | omega) (by first | assumption | omega) (fun x11 hx12 hm13 => ?_)
     obtain ⟨c14, rfl, g15, _⟩ := (ga0.2 x11 hm13).open
     refine Tm.uncons ?_
     refine Tm.dStr ?_
     refine Tm.atEnd ?_
     refine Tm.atRow (by first | assumption | omega) (by first | assumption | omega) (fun x16 hx17 hm18 => ?_)
     rw [hx3] at hx17
     injection hx17 with hx17
     subst hx17
     refine Tm.uncons ?_
     refine Tm.dStr ?_
     refine Tm.atEnd ?_
     refine Tm.ite (fun h20 => ?_) (fun h20 => ?_)
     ·try simp only [bz0, bz1, bz2, bz3, bz4, bz5, bz6, bz7, bz8, bz9, bza] at h20
      exact Tm.ret (by trivial)
     ·try simp only [bz0, bz1, bz2, bz3, bz4, bz5, bz6, bz7, bz8, bz9, bza] at h20
      try rw [Zj (x := i + 1) (by omega) (by omega)]
      exact hL _ (by (try simp only []); omega) (by (try simp only []); omega)
    ·try simp only [bz0, bz1, bz2, bz3, bz4, bz5, bz6, bz7, bz8, bz9, bza] at h10
     try rw [Zj (x := i + 1) (by omega) (by omega)]
     exact hL _ (by (try simp only []); omega) (by (try simp only []); omega)
  ·try simp only [bz0, bz1, bz2, bz3, bz4, bz5, bz6, bz7, bz8, bz9, bza] at h1
   exact Tm.ret (by trivial)
set_option maxRecDepth 100000 in
theorem l10Names_v {a : LD} {n : Int} (g : Zi RS lim a) {k : Nat} (hk : Z3 k) : YQ.t k a n = some (namesB a && decide ((a.length : Int) ≤ n)) := by
 have hl := g.1
 have hlim : lim = 1048576 := rfl
 have hb : big = 2 ^ 64 := rfl
 unfold YQ.t YQ.g
 rw [Zb6 (n := a.length) (fun i => Yn.v (gS a (i : Int) 0) && (!decide ((i : Int) > 0) || ZbO (gS a ((i : Int) - 1) 0) (gS a (i : Int) 0))) (r1 := some false) (r2 := some (decide ((a.length : Int) ≤ n))) (by unfold Z3 at hk; omega)]
 ·unfold namesB
  generalize List.all _ _ = x
  cases x <;> rfl
 ·intro L i hi
  have k0 := (RS.get g (v := (i : Int)) (by omega) (by omega)).2.1
  simp (disch := omega) only [YQ.l0, atR, rdQ, Q.ask, ZQ (show (i : Int) < a.length by omega), cond_true, RS.row g, ZY, Zaj, Z6, Yn.fv k0 hk, Zj]
  by_cases h0 : (i : Int) > 0
  ·simp (disch := omega) only [ZQ h0, cond_true, RS.row g, ZY, Zaj, Z6]
   cases Yn.v (gS a (i : Int) 0) <;> cases ZbO (gS a ((i : Int) - 1) 0) (gS a (i : Int) 0) <;> rfl
  ·simp only [ZV h0, cond_false]
   cases Yn.v (gS a (i : Int) 0) <;> rfl
 ·intro L
  simp [YQ.l0, atR, rdQ, Q.ask]
set_option maxRecDepth 100000 in
theorem YS.same {k : Nat} {a : LD} {n : Int} (g : Zi RS lim a) : YS.t k a n = YQ.t k a n := by
 unfold YS.t YQ.t YS.g YQ.g
 congr 1
 funext L v
 simp only [YS.l0, atR, rdQ, Q.ask, YQ.l0, atR, rdQ, Q.ask, YaQ]
 refine bif_congr (fun h => ?_) (fun _ => rfl)
 by_cases h0 : 0 ≤ v ∧ v < a.length
 ·have hl : v.toNat < a.length := by omega
  obtain ⟨s0, hs, _⟩ := g.2 _ (List.getElem_mem hl)
  have hr := fun F => atRow_get (β := Bool) h0.1 (by rw [← hs]; simp [hl] : a[v.toNat]? = some [.str s0]) F
  simp only [hr, Zas, dStr, atEnd]
 ·simp only [atRow_none h0]
theorem YC.f_of {β : Type} {k aB aC aA aH z0} (h : YC.t k aB aC aA aH = some z0) (K : Bool → Option β) : YC.f k aB aC aA aH K = K z0 := by unfold YC.f; rw [h]; rfl
theorem YC.tm {ι α : Type} {ok : ι → Prop} {ψ : α → Prop} {p : ι → Nat} {B : Nat} (hp : ∀ i, ok i → B ≤ p i) {aB aC aA aH φ} (h : Tm (fun k => B ≤ k) (fun k => YC.t k aB aC aA aH) φ) {G : ι → Bool → Option α} (hG : ∀ z0, φ z0 → Tm ok (fun i => G i z0) ψ) : Tm ok (fun i => YC.f (p i) aB aC aA aH (G i)) ψ := ZK (t := fun k => YC.t k aB aC aA aH) hp h hG
def RSI (B : Nat) (r : List D) : Prop := ∃ (c0 : BA) (c1 : Int), r = [.str c0, .int .i64 c1] ∧ c0.size ≤ B ∧ (Lit.int .i64 c1).wf = true ∧ True
theorem RSI.open {B : Nat} {r : List D} (h : RSI B r) : ∃ (c0 : BA) (c1 : Int), r = [.str c0, .int .i64 c1] ∧ c0.size ≤ B ∧ (Lit.int .i64 c1).wf = true ∧ True := h
theorem RSI.mono {B B' : Nat} (hb : B ≤ B') {r : List D} (h : RSI B r) : RSI B' r := by
 obtain ⟨c0, c1, rfl, k0, k1, _⟩ := h
 exact ⟨_, _, rfl, (Nat.le_trans k0 hb), k1, trivial⟩
theorem RSI.wide {xs : LD} (h : Zi RSI lim xs) : Zi RSI 2097152 xs := ⟨Nat.le_trans h.1 (by decide), fun r hr => (h.2 r hr).mono (by decide)⟩
theorem RSI.len {B : Nat} {r : List D} (h : RSI B r) : r.length = 2 := by
 obtain ⟨c0, c1, rfl, _⟩ := h.open
 rfl
theorem RSI.flat {B : Nat} {xs : LD} (h : ∀ r ∈ xs, RSI B r) : ZaZ 2 xs := fun r hr => by
 obtain ⟨c0, c1, rfl, _⟩ := (h r hr).open
 exact ⟨rfl, by simp [Zau]⟩
theorem RSI.wt {B : Nat} {xs : LD} (h : ∀ r ∈ xs, RSI B r) : Zp xs = 2 * xs.length := wt_flat (R := RSI B) (fun r h => by obtain ⟨c0, c1, rfl, _⟩ := h; rfl) xs h
theorem RSI.deep {B : Nat} {xs : LD} (h : ∀ r ∈ xs, RSI B r) : Zb xs = xs.map (·.map C.d) := deep_flat (R := RSI B) (fun r h => by obtain ⟨c0, c1, rfl, _⟩ := h; rfl) xs h
theorem RSI.gets {B : Nat} {xs : LD} (h : ∀ r ∈ xs, RSI B r) {v : Int} (h0 : 0 ≤ v) (h1 : v < xs.length) : gR xs v = [.str (gS xs v 0), .int .i64 (gI xs v 1)] ∧ (gS xs v 0).size ≤ B ∧ (Lit.int .i64 (gI xs v 1)).wf = true ∧ True := by
 obtain ⟨c0, c1, e, k0, k1, _⟩ := (h (gR xs v) (gR_mem h0 h1)).open
 unfold gI gS
 rw [e]
 exact ⟨rfl, k0, k1, trivial⟩
theorem RSI.rows {B : Nat} {xs : LD} (h : ∀ r ∈ xs, RSI B r) {v : Int} (h0 : 0 ≤ v) (h1 : v < xs.length) {β : Type} (F : List D → Option β) : Zbw xs v F = F [.str (gS xs v 0), .int .i64 (gI xs v 1)] := by
 rw [← (RSI.gets h h0 h1).1]
 exact Zbp h0 h1 F
theorem RSI.get {B : Nat} {xs : LD} (h : Zi RSI B xs) {v : Int} (h0 : 0 ≤ v) (h1 : v < xs.length) : gR xs v = [.str (gS xs v 0), .int .i64 (gI xs v 1)] ∧ (gS xs v 0).size ≤ B ∧ (Lit.int .i64 (gI xs v 1)).wf = true ∧ True := RSI.gets h.2 h0 h1
theorem RSI.row {B : Nat} {xs : LD} (h : Zi RSI B xs) {v : Int} (h0 : 0 ≤ v) (h1 : v < xs.length) {β : Type} (F : List D → Option β) : Zbw xs v F = F [.str (gS xs v 0), .int .i64 (gI xs v 1)] := RSI.rows h.2 h0 h1 F
set_option maxRecDepth 100000 in
theorem YC.T {aB : Int} {aC aA aH : LD} (ga0_1 : Zi Yaw lim aC) (ga0_2 : Zi RS lim aA) (ga0_3 : Zi RSI lim aH) : Tm Z3 (fun k => YC.t k aB aC aA aH) (fun _ => True) := by
 unfold YC.t YC.g
 have hm := Zy
 have hlim : lim = 1048576 := rfl
 have la0_1 := ga0_1.1
 have la0_2 := ga0_2.1
 have la0_3 := ga0_3.1
 refine Tm.loop (okk := Z3) (p := fun k => k) (fun i hi => hi) (b := fun k => YC.l0 k aB aC aA aH (fun z0 => some z0)) (fun i => (((aH.length : Int)) - i).toNat) (fun i => 0 ≤ i ∧ i ≤ (aH.length : Int)) ?_ ?_ ?_
 ·rintro i hI
  try simp only [] at hI ⊢
  have : big = 2 ^ 64 := rfl
  omega
 ·((try simp only []); omega)
 ·rintro i hI L hL
  try simp only [] at hI
  obtain ⟨i0, i1⟩ := hI
  simp only [YC.l0, atR, rdQ, Q.ask]
  refine Tm.ite (fun h1 => ?_) (fun h1 => ?_)
  ·try simp only [bz0, bz1, bz2, bz3, bz4, bz5, bz6, bz7, bz8, bz9, bza] at h1
   refine Tm.atRow (by first | assumption | omega) (by first | assumption | omega) (fun x2 hx3 hm4 => ?_)
   obtain ⟨c5, c6, rfl, g7, g8, _⟩ := (ga0_3.2 x2 hm4).open
   refine Tm.uncons ?_
   refine Tm.dStr ?_
   refine Tm.uncons ?_
   refine Tm.dInt ?_
   refine Tm.atEnd ?_
   refine Yn.tm (fun i hi => hi.1) (Yn.T (by first | assumption | omega)) (fun y10 hy9 => ?_)
   refine Tm.ite (fun h11 => ?_) (fun h11 => ?_)
   ·try simp only [bz0, bz1, bz2, bz3, bz4, bz5, bz6, bz7, bz8, bz9, bza] at h11
    exact Tm.ret (by trivial)
   ·try simp only [bz0, bz1, bz2, bz3, bz4, bz5, bz6, bz7, bz8, bz9, bza] at h11
    refine Tm.atRow (by first | assumption | omega) (by first | assumption | omega) (fun x12 hx13 hm14 => ?_)
    rw [hx3] at hx13
    injection hx13 with hx13
    subst hx13
    refine Tm.uncons ?_
    refine Tm.dStr ?_
    refine Tm.uncons ?_
    refine Tm.dInt ?_
    refine Tm.atEnd ?_
    refine Y4.tm (fun i hi => hi.1) (Y4.T) (fun y18 hy17 => ?_)
    refine Tm.ite (fun h19 => ?_) (fun h19 => ?_)
    ·try simp only [bz0, bz1, bz2, bz3, bz4, bz5, bz6, bz7, bz8, bz9, bza] at h19
     exact Tm.ret (by trivial)
    ·try simp only [bz0, bz1, bz2, bz3, bz4, bz5, bz6, bz7, bz8, bz9, bza] at h19
     have z20 := hy17 h19
     refine Tm.ite (fun h21 => ?_) (fun h21 => ?_)
     ·try simp only [bz0, bz1, bz2, bz3, bz4, bz5, bz6, bz7, bz8, bz9, bza] at h21
      try rw [Zj (x := i - 1) (by omega) (by omega)]
      refine Tm.atRow (by first | assumption | omega) (by first | assumption | omega) (fun x22 hx23 hm24 => ?_)
      obtain ⟨c25, c26, rfl, g27, g28, _⟩ := (ga0_3.2 x22 hm24).open
      refine Tm.uncons ?_
      refine Tm.dStr ?_
      refine Tm.uncons ?_
      refine Tm.dInt ?_
      refine Tm.atEnd ?_
      refine Tm.atRow (by first | assumption | omega) (by first | assumption | omega) (fun x29 hx30 hm31 => ?_)
      rw [hx3] at hx30
      injection hx30 with hx30
      subst hx30
      refine Tm.uncons ?_
      refine Tm.dStr ?_
      refine Tm.uncons ?_
      refine Tm.dInt ?_
      refine Tm.atEnd ?_
      refine Tm.ite (fun h34 => ?_) (fun h34 => ?_)
      ·try simp only [bz0, bz1, bz2, bz3, bz4, bz5, bz6, bz7, bz8, bz9, bza] at h34
       exact Tm.ret (by trivial)
      ·try simp only [bz0, bz1, bz2, bz3, bz4, bz5, bz6, bz7, bz8, bz9, bza] at h34
       try rw [Zj (x := i + 1) (by omega) (by omega)]
       exact hL _ (by (try simp only []); omega) (by (try simp only []); omega)
     ·try simp only [bz0, bz1, bz2, bz3, bz4, bz5, bz6, bz7, bz8, bz9, bza] at h21
      try rw [Zj (x := i + 1) (by omega) (by omega)]
      exact hL _ (by (try simp only []); omega) (by (try simp only []); omega)
  ·try simp only [bz0, bz1, bz2, bz3, bz4, bz5, bz6, bz7, bz8, bz9, bza] at h1
   refine Y4.tm (fun i hi => hi.1) (Y4.T) (fun y36 hy35 => ?_)
   refine Tm.ite (fun h37 => ?_) (fun h37 => ?_)
   ·try simp only [bz0, bz1, bz2, bz3, bz4, bz5, bz6, bz7, bz8, bz9, bza] at h37
    have z38 := hy35 h37
    refine Ys.tm (fun i hi => hi.1) (Ys.T (by first | assumption | omega)) (fun y40 hy39 => ?_)
    refine Tm.ite (fun h41 => ?_) (fun h41 => ?_)
    ·try simp only [bz0, bz1, bz2, bz3, bz4, bz5, bz6, bz7, bz8, bz9, bza] at h41
     refine YQ.tm (fun i hi => hi.1) (YQ.T (by first | assumption | omega)) (fun y43 hy42 => ?_)
     refine Tm.ite (fun h44 => ?_) (fun h44 => ?_)
     ·try simp only [bz0, bz1, bz2, bz3, bz4, bz5, bz6, bz7, bz8, bz9, bza] at h44
      exact Tm.ret (by trivial)
     ·try simp only [bz0, bz1, bz2, bz3, bz4, bz5, bz6, bz7, bz8, bz9, bza] at h44
      exact Tm.ret (by trivial)
    ·try simp only [bz0, bz1, bz2, bz3, bz4, bz5, bz6, bz7, bz8, bz9, bza] at h41
     exact Tm.ret (by trivial)
   ·try simp only [bz0, bz1, bz2, bz3, bz4, bz5, bz6, bz7, bz8, bz9, bza] at h37
    exact Tm.ret (by trivial)
noncomputable def YC.v (aB : Int) (aC aA aH : LD) : Bool := (YC.t big aB aC aA aH).getD default
theorem YC.tv {aB : Int} {aC aA aH : LD} (ga0_1 : Zi Yaw lim aC) (ga0_2 : Zi RS lim aA) (ga0_3 : Zi RSI lim aH) {k : Nat} (hk : Z3 k) : YC.t k aB aC aA aH = some (YC.v aB aC aA aH) := (YC.T ga0_1 ga0_2 ga0_3).val hk
theorem YC.fv {aB : Int} {aC aA aH : LD} (ga0_1 : Zi Yaw lim aC) (ga0_2 : Zi RS lim aA) (ga0_3 : Zi RSI lim aH) {k : Nat} (hk : Z3 k) {β : Type} (K : Bool → Option β) : YC.f k aB aC aA aH K = K (YC.v aB aC aA aH) := YC.f_of (YC.tv ga0_1 ga0_2 ga0_3 hk) K
set_option maxRecDepth 100000 in
theorem Yaa.same {aB : Int} {aC aA aH : LD} (g0 : Zi Yaw lim aC) (g1 : Zi RS lim aA) (g2 : Zi RSI lim aH) {k : Nat} (hk : Z3 k) : Yaa.t k aB aC aA aH = YC.t k aB aC aA aH := by
 have hl := g2.1
 have hlim : lim = 1048576 := rfl
 unfold Yaa.t YC.t Yaa.g YC.g
 congr 1
 funext L v
 simp only [Yaa.l0, atR, rdQ, Q.ask, YC.l0, atR, rdQ, Q.ask, YaQ, within_f, l1In_f, isCopies_f, Ya7 g0 hk]
 refine bif_congr (fun h => ?_) (fun _ => ?_)
 ·by_cases h0 : 0 ≤ v ∧ v < aH.length
  ·obtain ⟨h0, h1⟩ := h0
   simp (disch := omega) only [RSI.row g2, ZY, Zaj, Zad, Z6]
  ·simp only [atRow_none h0]
 ·unfold YS.f YQ.f
  simp only [YS.same g1]
def WD (b : LD) (Bd : LD → Prop) (m n w : Nat) (o : Option (Int × LC × LC × LC × LD × Int × Int)) : Prop :=
 ∃ (x : Int) (ts : LC) (bs ws : LD) (i' h' : Int), (Lit.int .i64 x).wf = true ∧ (∀ c ∈ ts, TR m c) ∧ ts.length ≤ n ∧ Bd bs ∧ (∀ r ∈ ws, RSI lim r) ∧ ws.length ≤ w ∧ Cur b i' ∧ o = some (x, ts, bs.map (·.map C.d), ws.map (·.map C.d), b, i', h')
def Bears (bs : LD) : Prop := bs = [] ∨ bs = [[.str (⟨#[103, 111, 108, 100]⟩ : BA)], [.str (⟨#[116, 105, 101, 114]⟩ : BA)]] ∨ bs = [[.str (⟨#[98]⟩ : BA)], [.str (⟨#[97]⟩ : BA)]]
theorem Bears.sl {bs : LD} (h : Bears bs) : Zi RS lim bs := by
 rcases h with rfl | rfl | rfl
 ·exact ⟨by decide, by simp⟩
 ·refine ⟨by show 2 ≤ lim; decide, fun r hr => ?_⟩
  simp only [List.mem_cons, List.not_mem_nil, or_false] at hr
  rcases hr with rfl | rfl <;> exact ⟨_, rfl, by decide, trivial⟩
 ·refine ⟨by show 2 ≤ lim; decide, fun r hr => ?_⟩
  simp only [List.mem_cons, List.not_mem_nil, or_false] at hr
  rcases hr with rfl | rfl <;> exact ⟨_, rfl, by decide, trivial⟩
theorem wantLoop {k : Nat} (hk : Z3 k) {b : LD} {i h x0 x : Int} {sel bs : LC} (c : Cur b i) {β : Type} (K : Int → LC → LC → LC → LD → Int → Int → Option β) : ∃ (ws : LD) (i' h' : Int), (∀ r ∈ ws, RSI lim r) ∧ ws.length ≤ 4 ∧ Cur b i' ∧ Zo (YD.l0 k x0 x ([[.d (.str (⟨#[97]⟩ : BA))], [.d (.str (⟨#[98]⟩ : BA))], [.d (.str (⟨#[99]⟩ : BA))], [.d (.str (⟨#[100]⟩ : BA))]] : LC) sel bs K) k (0, b, i, h, []) = K x sel bs (ws.map (·.map C.d)) b i' h' := by
 have hb : big = 2 ^ 64 := rfl
 have hm : ZN = 2 ^ 36 := rfl
 refine Ya4 (fun v => 4 - v.1.toNat) (fun v => 0 ≤ v.1 ∧ v.1 ≤ 4 ∧ v.2.1 = b ∧ Cur b v.2.2.1 ∧ ∃ o : LD, v.2.2.2.2 = o.map (·.map C.d) ∧ (∀ r ∈ o, RSI lim r) ∧ (o.length : Int) ≤ v.1) (fun o => ∃ (ws : LD) (i' h' : Int), (∀ r ∈ ws, RSI lim r) ∧ ws.length ≤ 4 ∧ Cur b i' ∧ o = K x sel bs (ws.map (·.map C.d)) b i' h') ?_ (v := (0, b, i, h, [])) ⟨by simp, by simp, rfl, c, [], rfl, by simp, by simp⟩ (by show 4 - 0 < k; unfold Z3 at hk; omega)
 rintro ⟨n, b', i, h, out⟩ ⟨n0, n1, eb, hc, o, e, ho, hlen⟩ L hL
 simp only at n0 n1 eb hc e hlen
 subst eb e
 by_cases hn : n < 4
 ·obtain ⟨z, i1, h1, hc1, e1⟩ := Ya3 (k := k) (h := h) (n := 3) hc
  simp only [YD.l0, ZQ hn, cond_true, YZ.f_of e1, Zj (show -9223372036854775808 ≤ n + 1 by omega) (show n + 1 ≤ 9223372036854775807 by omega)]
  cases z
  ·exact hL _ ⟨by show 0 ≤ n + 1; omega, by show n + 1 ≤ 4; omega, rfl, hc1, o, rfl, ho, by show (o.length : Int) ≤ n + 1; omega⟩ (by show 4 - (n + 1).toNat < 4 - n.toNat; omega)
  ·obtain ⟨y, i2, h2, hy, hc2, e2⟩ := int_ex (k := k) (h := h1) hc1 [0, 1, 2, 3, 10] (by decide)
   have e2 : Yah.t k b' i1 h1 ([[.int .i64 0], [.int .i64 1], [.int .i64 2], [.int .i64 3], [.int .i64 10]] : LD) = _ := e2
   have hw : (Lit.int .i64 y).wf = true := by
    simp only [List.mem_cons, List.not_mem_nil, or_false] at hy
    exact wf_of (by omega) (by omega)
   have step : ∀ s : BA, s.size ≤ lim → ∃ (ws : LD) (i' h' : Int), (∀ r ∈ ws, RSI lim r) ∧ ws.length ≤ 4 ∧ Cur b' i' ∧ (Zc ((o.map (·.map C.d)).length + ([[.d (.str s), .d (.int .i64 y)]] : LC).length ≤ ZN) (L (n + 1, b', i2, h2, o.map (·.map C.d) ++ ([[.d (.str s), .d (.int .i64 y)]] : LC)))) = K x sel bs (ws.map (·.map C.d)) b' i' h' := fun s gs => by
    rw [ZaP (by rw [map_len, List.length_singleton]; omega)]
    exact hL _ ⟨by show 0 ≤ n + 1; omega, by show n + 1 ≤ 4; omega, rfl, hc2, o ++ [[.str s, .int .i64 y]], by rw [List.map_append]; rfl, YaM ho ⟨s, y, rfl, gs, hw, trivial⟩, by show ((o ++ _).length : Int) ≤ n + 1; rw [List.length_append, List.length_singleton]; omega⟩ (by show 4 - (n + 1).toNat < 4 - n.toNat; omega)
   simp only [cond_true]
   rw [ZaP (by simp only [List.length_cons, List.length_nil]; omega)]
   have hx : n = 0 ∨ n = 1 ∨ n = 2 ∨ n = 3 := by omega
   rcases hx with rfl | rfl | rfl | rfl
   all_goals
    simp only [Yah.f_of e2]
    exact step _ (by decide)
 ·simp only [YD.l0, ZV hn, cond_false]
  exact ⟨o, i, h, ho, by omega, hc, rfl⟩
theorem want_ex {k : Nat} (hk : Z3 k) {b : LD} {i h : Int} (c : Cur b i) : WD b Bears 5 2 4 (YD.t k b i h) := by
 obtain ⟨x, i1, h1, hx, hc1, e1⟩ := int_ex (k := k) (h := h) c [0, 1, 2, 3, 5, 7, 12, 30] (by decide)
 have e1 : Yah.t k b i h ([[.int .i64 0], [.int .i64 1], [.int .i64 2], [.int .i64 3], [.int .i64 5], [.int .i64 7], [.int .i64 12], [.int .i64 30]] : LD) = _ := e1
 have hw : (Lit.int .i64 x).wf = true := by
  simp only [List.mem_cons, List.not_mem_nil, or_false] at hx
  exact wf_of (by omega) (by omega)
 obtain ⟨y, i2, h2, hc2, e2⟩ := Ya3 (k := k) (h := h1) (n := 4) hc1
 unfold YD.t YD.g YD.m
 rw [Yah.f_of e1, YZ.f_of e2]
 cases y
 ·obtain ⟨y, i3, h3, hc3, e3⟩ := Ya3 (k := k) (h := h2) (n := 2) hc2
  rw [cond_false, YZ.f_of e3]
  cases y
  ·obtain ⟨ws, i', h', q1, q2, q3, q4⟩ := wantLoop hk (h := h3) (x0 := 0) (x := x) (sel := []) (bs := []) hc3 (fun z0 z1 z2 z3 z4 z5 z6 => some (z0, z1, z2, z3, z4, z5, z6))
   exact ⟨x, [], [], ws, i', h', hw, by simp, by decide, .inl rfl, q1, q2, q3, q4⟩
  ·obtain ⟨ws, i', h', q1, q2, q3, q4⟩ := wantLoop hk (h := h3) (x0 := 0) (x := x) (sel := []) (bs := ([[.d (.str (⟨#[103, 111, 108, 100]⟩ : BA))], [.d (.str (⟨#[116, 105, 101, 114]⟩ : BA))]] : LC)) hc3 (fun z0 z1 z2 z3 z4 z5 z6 => some (z0, z1, z2, z3, z4, z5, z6))
   exact ⟨x, [], _, ws, i', h', hw, by simp, by decide, .inr (.inl rfl), q1, q2, q3, q4⟩
 ·obtain ⟨ts, i2, h2, ht, hl, hc2, e2⟩ := terms_ex hk (h := h2) (M := 2) hc2 (by decide)
  obtain ⟨y, i3, h3, hc3, e3⟩ := Ya3 (k := k) (h := h2) (n := 2) hc2
  rw [cond_true, Y9.f_of e2, YZ.f_of e3]
  cases y
  ·obtain ⟨ws, i', h', q1, q2, q3, q4⟩ := wantLoop hk (h := h3) (x0 := 0) (x := x) (sel := ts) (bs := []) hc3 (fun z0 z1 z2 z3 z4 z5 z6 => some (z0, z1, z2, z3, z4, z5, z6))
   exact ⟨x, ts, [], ws, i', h', hw, ht, hl, .inl rfl, q1, q2, q3, q4⟩
  ·obtain ⟨ws, i', h', q1, q2, q3, q4⟩ := wantLoop hk (h := h3) (x0 := 0) (x := x) (sel := ts) (bs := ([[.d (.str (⟨#[103, 111, 108, 100]⟩ : BA))], [.d (.str (⟨#[116, 105, 101, 114]⟩ : BA))]] : LC)) hc3 (fun z0 z1 z2 z3 z4 z5 z6 => some (z0, z1, z2, z3, z4, z5, z6))
   exact ⟨x, ts, _, ws, i', h', hw, ht, hl, .inr (.inl rfl), q1, q2, q3, q4⟩
def ID (b : LD) (s : BA) (o : Option (BA × LC × LC × Int × LD × Int × Int)) : Prop :=
 ∃ (ls ps : LD) (x i' h' : Int), Zi RSS lim ls ∧ Zi RS lim ps ∧ 0 ≤ x ∧ x ≤ 100 ∧ Cur b i' ∧ o = some (s, ls.map (·.map C.d), ps.map (·.map C.d), x, b, i', h')
theorem island_ex {k : Nat} (hk : Z3 k) {b : LD} {i h : Int} {s : BA} (c : Cur b i) : ID b s (Yav.t k b i h s) := by
 have hlim : lim = 1048576 := rfl
 obtain ⟨l, i1, h1, hl, ll, hc1, e1⟩ := labels_ex hk (h := h) (M := 4) c (by decide)
 have ll : l.length ≤ 4 := ll
 obtain ⟨x, i2, h2, hx, hc2, e2⟩ := int_ex (k := k) (h := h1) hc1 [0, 1, 3, 5, 8, 20, 100] (by decide)
 have e2 : Yah.t k b i1 h1 ([[.int .i64 0], [.int .i64 1], [.int .i64 3], [.int .i64 5], [.int .i64 8], [.int .i64 20], [.int .i64 100]] : LD) = _ := e2
 have hx' : 0 ≤ x ∧ x ≤ 100 := by
  simp only [List.mem_cons, List.not_mem_nil, or_false] at hx
  omega
 obtain ⟨y, i3, h3, hc3, e3⟩ := Ya3 (k := k) (h := h2) (n := 4) hc2
 unfold Yav.t Yav.g
 rw [Y7.f_of e1, Yah.f_of e2, YZ.f_of e3]
 cases y
 ·exact ⟨l, [], x, _, _, ⟨by omega, hl⟩, ⟨by show 0 ≤ lim; omega, by simp⟩, hx'.1, hx'.2, hc3, rfl⟩
 ·have hstr : ∀ r ∈ ([[.str (⟨#[103, 111, 108, 100]⟩ : BA)], [.str (⟨#[116, 105, 101, 114]⟩ : BA)]] : LD), RS lim r := by
   intro r hr
   simp only [List.mem_cons, List.not_mem_nil, or_false] at hr
   rcases hr with rfl | rfl <;> exact ⟨_, rfl, by decide, trivial⟩
  obtain ⟨j, i4, h4, j0, j1, hc4, e4⟩ := str_ex (k := k) (h := h3) hc3 hstr (by decide)
  rw [cond_true, YaB.f_of e4]
  exact ⟨l, [[.str _]], x, _, _, ⟨by omega, hl⟩, ⟨by show 1 ≤ lim; omega, fun r hr => by simp only [List.mem_singleton] at hr; subst hr; exact ⟨_, rfl, (RS.gets hstr j0 j1).2.1, trivial⟩⟩, hx'.1, hx'.2, hc4, rfl⟩
structure WOk (a0 : Int) (a1 a2 a3 : LD) : Prop where
 x : (Lit.int .i64 a0).wf = true
 sel : Zi Yaw lim a1
 bears : Bears a2
 weighs : Zi RSI lim a3
theorem bend_ex {k : Nat} (hk : Z3 k) {b : LD} {i h a0 : Int} {a1 a2 a3 : LD} (c : Cur b i) (w : WOk a0 a1 a2 a3) (hl : a3.length ≤ 100) : ∃ b0 b1 b2 b3 i' h', WOk b0 b1 b2 b3 ∧ Cur b i' ∧ YaC.t k b i h a0 a1 a2 a3 = some (b0, b1, b2, b3, b, i', h') := by
 have hlim : lim = 1048576 := rfl
 have hm : ZN = 2 ^ 36 := rfl
 obtain ⟨x, i1, h1, x0, x1, -, hc1, e1⟩ := YaO (k := k) (h := h) (n := 8) c
 unfold YaC.t YaC.g
 rw [YL.f_of e1]
 cases q0 : ((x : Int) == 0)
 ·cases q1 : ((x : Int) == 1)
  ·cases q2 : ((x : Int) == 2)
   ·cases q3 : ((x : Int) == 3)
    ·simp only [cond_false]
     exact ⟨_, _, _, _, _, _, w, hc1, rfl⟩
    ·simp only [cond_false, cond_true]
     obtain ⟨ts, i2, h2, ht, hl, hc2, e2⟩ := termsAny_ex hk (h := h1) hc1
     rw [Yl.f_of e2]
     exact ⟨_, _, _, _, _, _, ⟨w.x, TR.sl (n := 6) (by decide) ht (by omega), w.bears, w.weighs⟩, hc2, rfl⟩
   ·simp only [cond_false, cond_true]
    obtain ⟨s, i2, h2, gs, hc2, e2⟩ := nameAny_ex (k := k) (h := h1) hc1
    obtain ⟨y, i3, h3, hy, hc3, e3⟩ := int_ex (k := k) (h := h2) hc2 [1, -1, 1001] (by decide)
    have e3 : Yah.t k b i2 h2 ([[.int .i64 1], [.int .i64 (-1)], [.int .i64 1001]] : LD) = _ := e3
    have hw : (Lit.int .i64 y).wf = true := by
     simp only [List.mem_cons, List.not_mem_nil, or_false] at hy
     exact wf_of (by omega) (by omega)
    rw [ZaP (RSI.flat w.weighs.2), ZaP (by simp only [List.length_nil, map_len]; omega), Yag.f_of e2, Yah.f_of e3, ZaP (by simp only [List.nil_append, map_len, List.length_singleton]; omega)]
    have e6 : (([] : LC) ++ (a3.map (·.map C.d))) ++ ([[.d (.str s), .d (.int .i64 y)]] : LC) = ((a3 ++ [[D.str s, D.int .i64 y]] : LD).map (·.map C.d)) := by rw [List.nil_append, List.map_append]; rfl
    rw [e6, imm_rows]
    exact ⟨_, _, _, _, _, _, ⟨w.x, w.sel, w.bears, ⟨by rw [List.length_append, List.length_singleton]; omega, YaM w.weighs.2 ⟨s, y, rfl, gs, hw, trivial⟩⟩⟩, hc3, rfl⟩
  ·simp only [cond_false, cond_true]
   exact ⟨_, _, _, _, _, _, ⟨w.x, w.sel, .inr (.inr rfl), w.weighs⟩, hc1, rfl⟩
 ·obtain ⟨y, i2, h2, hy, hc2, e2⟩ := int_ex (k := k) (h := h1) hc1 [-1, 10000, 10001] (by decide)
  have e2 : Yah.t k b i1 h1 ([[.int .i64 (-1)], [.int .i64 10000], [.int .i64 10001]] : LD) = _ := e2
  have hw : (Lit.int .i64 y).wf = true := by
   simp only [List.mem_cons, List.not_mem_nil, or_false] at hy
   exact wf_of (by omega) (by omega)
  rw [cond_true, Yah.f_of e2]
  exact ⟨_, _, _, _, _, _, ⟨hw, w.sel, w.bears, w.weighs⟩, hc2, rfl⟩
theorem YR.f_of {β : Type} {k aB aC aA aH z0} (h : YR.t k aB aC aA aH = some z0) (K : Bool → Option β) : YR.f k aB aC aA aH K = K z0 := by unfold YR.f; rw [h]; rfl
theorem YR.tm {ι α : Type} {ok : ι → Prop} {ψ : α → Prop} {p : ι → Nat} {B : Nat} (hp : ∀ i, ok i → B ≤ p i) {aB aC aA aH φ} (h : Tm (fun k => B ≤ k) (fun k => YR.t k aB aC aA aH) φ) {G : ι → Bool → Option α} (hG : ∀ z0, φ z0 → Tm ok (fun i => G i z0) ψ) : Tm ok (fun i => YR.f (p i) aB aC aA aH (G i)) ψ := ZK (t := fun k => YR.t k aB aC aA aH) hp h hG
theorem YR.T {aB : BA} {aC aA : LD} {aH : Int} (ga0_0 : aB.size ≤ lim) (ga0_1 : Zi RSS lim aC) (ga0_2 : Zi RS lim aA) : Tm Z3 (fun k => YR.t k aB aC aA aH) (fun _ => True) := by
 unfold YR.t YR.g
 have hm := Zy
 have hlim : lim = 1048576 := rfl
 have la0_1 := ga0_1.1
 have la0_2 := ga0_2.1
 refine Yn.tm (fun i hi => hi) (Yn.T (by first | assumption | omega)) (fun y2 hy1 => ?_)
 refine Tm.ite (fun h3 => ?_) (fun h3 => ?_)
 ·try simp only [bz0, bz1, bz2, bz3, bz4, bz5, bz6, bz7, bz8, bz9, bza] at h3
  refine YA.tm (fun i hi => hi) (YA.T (by first | assumption | omega)) (fun y5 hy4 => ?_)
  refine Tm.ite (fun h6 => ?_) (fun h6 => ?_)
  ·try simp only [bz0, bz1, bz2, bz3, bz4, bz5, bz6, bz7, bz8, bz9, bza] at h6
   refine YQ.tm (fun i hi => hi) (YQ.T (by first | assumption | omega)) (fun y8 hy7 => ?_)
   refine Tm.ite (fun h9 => ?_) (fun h9 => ?_)
   ·try simp only [bz0, bz1, bz2, bz3, bz4, bz5, bz6, bz7, bz8, bz9, bza] at h9
    refine Y4.tm (fun i hi => hi) (Y4.T) (fun y11 hy10 => ?_)
    exact Tm.ret (by trivial)
   ·try simp only [bz0, bz1, bz2, bz3, bz4, bz5, bz6, bz7, bz8, bz9, bza] at h9
    exact Tm.ret (by trivial)
  ·try simp only [bz0, bz1, bz2, bz3, bz4, bz5, bz6, bz7, bz8, bz9, bza] at h6
   exact Tm.ret (by trivial)
 ·try simp only [bz0, bz1, bz2, bz3, bz4, bz5, bz6, bz7, bz8, bz9, bza] at h3
  exact Tm.ret (by trivial)
noncomputable def YR.v (aB : BA) (aC aA : LD) (aH : Int) : Bool := (YR.t big aB aC aA aH).getD default
theorem YR.tv {aB : BA} {aC aA : LD} {aH : Int} (ga0_0 : aB.size ≤ lim) (ga0_1 : Zi RSS lim aC) (ga0_2 : Zi RS lim aA) {k : Nat} (hk : Z3 k) : YR.t k aB aC aA aH = some (YR.v aB aC aA aH) := (YR.T ga0_0 ga0_1 ga0_2).val hk
theorem YR.fv {aB : BA} {aC aA : LD} {aH : Int} (ga0_0 : aB.size ≤ lim) (ga0_1 : Zi RSS lim aC) (ga0_2 : Zi RS lim aA) {k : Nat} (hk : Z3 k) {β : Type} (K : Bool → Option β) : YR.f k aB aC aA aH K = K (YR.v aB aC aA aH) := YR.f_of (YR.tv ga0_0 ga0_1 ga0_2 hk) K
theorem Yat.same {aB : BA} {aC aA : LD} {aH : Int} (g0 : aB.size ≤ lim) (g1 : Zi RSS lim aC) (g2 : Zi RS lim aA) {k : Nat} (hk : Z3 k) : Yat.t k aB aC aA aH = YR.t k aB aC aA aH := by
 unfold Yat.t YR.t Yat.g YR.g Y1.f YA.f YS.f YQ.f
 simp only [YaQ, Y1.same g1, YS.same g2, isCopies_f, l1In_f]
theorem YP.f_of {β : Type} {k a0 a1 z0} (h : YP.t k a0 a1 = some z0) (K : Bool → Option β) : YP.f k a0 a1 K = K z0 := by unfold YP.f; rw [h]; rfl
theorem YP.tm {ι α : Type} {ok : ι → Prop} {ψ : α → Prop} {p : ι → Nat} {B : Nat} (hp : ∀ i, ok i → B ≤ p i) {a0 a1 φ} (h : Tm (fun k => B ≤ k) (fun k => YP.t k a0 a1) φ) {G : ι → Bool → Option α} (hG : ∀ z0, φ z0 → Tm ok (fun i => G i z0) ψ) : Tm ok (fun i => YP.f (p i) a0 a1 (G i)) ψ := ZK (t := fun k => YP.t k a0 a1) hp h hG
set_option maxRecDepth 100000 in
theorem YP.T {a0 : LD} {a1 : BA} (ga0 : Zi RS lim a0) (ga1 : a1.size ≤ lim) : Tm Z3 (fun k => YP.t k a0 a1) (fun _ => True) := by
 unfold YP.t YP.g
 have hm := Zy
 have hlim : lim = 1048576 := rfl
 have la0 := ga0.1
 refine Tm.loop (okk := Z3) (p := fun k => k) (fun i hi => hi) (b := fun k => YP.l0 k a0 a1 (fun z0 => some z0)) (fun i => (((a0.length : Int)) - i).toNat) (fun i => 0 ≤ i ∧ i ≤ (a0.length : Int)) ?_ ?_ ?_
 ·rintro i hI
  try simp only [] at hI ⊢
  have : big = 2 ^ 64 := rfl
  omega
 ·((try simp only []); omega)
 ·rintro i hI L hL
  try simp only [] at hI
  obtain ⟨i0, i1⟩ := hI
  simp only [YP.l0, atR, rdQ, Q.ask]
  refine Tm.ite (fun h1 => ?_) (fun h1 => ?_)
  ·try simp only [bz0, bz1, bz2, bz3, bz4, bz5, bz6, bz7, bz8, bz9, bza] at h1
   refine Tm.atRow (by first | assumption | omega) (by first | assumption | omega) (fun x2 hx3 hm4 => ?_)
   obtain ⟨c5, rfl, g6, _⟩ := (ga0.2 x2 hm4).open
   refine Tm.uncons ?_
   refine Tm.dStr ?_
   refine Tm.atEnd ?_
   refine Tm.ite (fun h7 => ?_) (fun h7 => ?_)
   ·try simp only [bz0, bz1, bz2, bz3, bz4, bz5, bz6, bz7, bz8, bz9, bza] at h7
    exact Tm.ret (by trivial)
   ·try simp only [bz0, bz1, bz2, bz3, bz4, bz5, bz6, bz7, bz8, bz9, bza] at h7
    try rw [Zj (x := i + 1) (by omega) (by omega)]
    exact hL _ (by (try simp only []); omega) (by (try simp only []); omega)
  ·try simp only [bz0, bz1, bz2, bz3, bz4, bz5, bz6, bz7, bz8, bz9, bza] at h1
   exact Tm.ret (by trivial)
set_option maxRecDepth 100000 in
theorem l2Among_fv {a : LD} {s : BA} (g : Zi RS lim a) {k : Nat} (hk : Z3 k) {β : Type} (K : Bool → Option β) : YP.f k a s K = K (YaZ a s) := YP.f_of (by
 have hl := g.1
 have hlim : lim = 1048576 := rfl
 have hb : big = 2 ^ 64 := rfl
 unfold YP.t YP.g YaZ
 rw [Zb6 (n := a.length) (fun i => !Zae (gS a (i : Int) 0) s) (r1 := some true) (r2 := some false) (by unfold Z3 at hk; omega)]
 ·generalize List.all _ _ = x
  cases x <;> rfl
 ·intro L i hi
  simp (disch := omega) only [YP.l0, atR, rdQ, Q.ask, ZQ (show (i : Int) < a.length by omega), cond_true, RS.row g, ZY, Zaj, Z6, Zj]
  cases Zae (gS a (i : Int) 0) s <;> rfl
 ·intro L
  simp [YP.l0, atR, rdQ, Q.ask]) K
theorem Yal.f_of {β : Type} {k aB aC aA a1 a2 z0} (h : Yal.t k aB aC aA a1 a2 = some z0) (K : Bool → Option β) : Yal.f k aB aC aA a1 a2 K = K z0 := by unfold Yal.f; rw [h]; rfl
theorem Yal.tm {ι α : Type} {ok : ι → Prop} {ψ : α → Prop} {p : ι → Nat} {B : Nat} (hp : ∀ i, ok i → B ≤ p i) {aB aC aA a1 a2 φ} (h : Tm (fun k => B ≤ k) (fun k => Yal.t k aB aC aA a1 a2) φ) {G : ι → Bool → Option α} (hG : ∀ z0, φ z0 → Tm ok (fun i => G i z0) ψ) : Tm ok (fun i => Yal.f (p i) aB aC aA a1 a2 (G i)) ψ := ZK (t := fun k => Yal.t k aB aC aA a1 a2) hp h hG
theorem Yal.T {aB : Int} {aC : BA} {aA : LD} {a1 : BA} {a2 : Bool} (ga0_1 : aC.size ≤ lim) (ga0_2 : Zi RS lim aA) (ga1 : a1.size ≤ lim) : Tm Z3 (fun k => Yal.t k aB aC aA a1 a2) (fun _ => True) := by
 unfold Yal.t Yal.g
 have hm := Zy
 have hlim : lim = 1048576 := rfl
 have la0_2 := ga0_2.1
 refine Tm.ite (fun h1 => ?_) (fun h1 => ?_)
 ·try simp only [bz0, bz1, bz2, bz3, bz4, bz5, bz6, bz7, bz8, bz9, bza] at h1
  refine Tm.ite (fun h2 => ?_) (fun h2 => ?_)
  ·try simp only [bz0, bz1, bz2, bz3, bz4, bz5, bz6, bz7, bz8, bz9, bza] at h2
   refine Tm.ite (fun h3 => ?_) (fun h3 => ?_)
   ·try simp only [bz0, bz1, bz2, bz3, bz4, bz5, bz6, bz7, bz8, bz9, bza] at h3
    refine YP.tm (fun i hi => hi) (YP.T (by first | assumption | omega) (by first | assumption | omega)) (fun y5 hy4 => ?_)
    exact Tm.ret (by trivial)
   ·try simp only [bz0, bz1, bz2, bz3, bz4, bz5, bz6, bz7, bz8, bz9, bza] at h3
    exact Tm.ret (by trivial)
  ·try simp only [bz0, bz1, bz2, bz3, bz4, bz5, bz6, bz7, bz8, bz9, bza] at h2
   refine Tm.ite (fun h6 => ?_) (fun h6 => ?_)
   ·try simp only [bz0, bz1, bz2, bz3, bz4, bz5, bz6, bz7, bz8, bz9, bza] at h6
    refine Tm.ite (fun h7 => ?_) (fun h7 => ?_)
    ·try simp only [bz0, bz1, bz2, bz3, bz4, bz5, bz6, bz7, bz8, bz9, bza] at h7
     exact Tm.ret (by trivial)
    ·try simp only [bz0, bz1, bz2, bz3, bz4, bz5, bz6, bz7, bz8, bz9, bza] at h7
     refine YP.tm (fun i hi => hi) (YP.T (by first | assumption | omega) (by first | assumption | omega)) (fun y9 hy8 => ?_)
     exact Tm.ret (by trivial)
   ·try simp only [bz0, bz1, bz2, bz3, bz4, bz5, bz6, bz7, bz8, bz9, bza] at h6
    refine Tm.ite (fun h10 => ?_) (fun h10 => ?_)
    ·try simp only [bz0, bz1, bz2, bz3, bz4, bz5, bz6, bz7, bz8, bz9, bza] at h10
     exact Tm.ret (by trivial)
    ·try simp only [bz0, bz1, bz2, bz3, bz4, bz5, bz6, bz7, bz8, bz9, bza] at h10
     exact Tm.ret (by trivial)
 ·try simp only [bz0, bz1, bz2, bz3, bz4, bz5, bz6, bz7, bz8, bz9, bza] at h1
  refine Tm.ite (fun h11 => ?_) (fun h11 => ?_)
  ·try simp only [bz0, bz1, bz2, bz3, bz4, bz5, bz6, bz7, bz8, bz9, bza] at h11
   refine Tm.ite (fun h12 => ?_) (fun h12 => ?_)
   ·try simp only [bz0, bz1, bz2, bz3, bz4, bz5, bz6, bz7, bz8, bz9, bza] at h12
    refine YP.tm (fun i hi => hi) (YP.T (by first | assumption | omega) (by first | assumption | omega)) (fun y14 hy13 => ?_)
    exact Tm.ret (by trivial)
   ·try simp only [bz0, bz1, bz2, bz3, bz4, bz5, bz6, bz7, bz8, bz9, bza] at h12
    exact Tm.ret (by trivial)
  ·try simp only [bz0, bz1, bz2, bz3, bz4, bz5, bz6, bz7, bz8, bz9, bza] at h11
   refine Tm.ite (fun h15 => ?_) (fun h15 => ?_)
   ·try simp only [bz0, bz1, bz2, bz3, bz4, bz5, bz6, bz7, bz8, bz9, bza] at h15
    refine Tm.ite (fun h16 => ?_) (fun h16 => ?_)
    ·try simp only [bz0, bz1, bz2, bz3, bz4, bz5, bz6, bz7, bz8, bz9, bza] at h16
     exact Tm.ret (by trivial)
    ·try simp only [bz0, bz1, bz2, bz3, bz4, bz5, bz6, bz7, bz8, bz9, bza] at h16
     refine YP.tm (fun i hi => hi) (YP.T (by first | assumption | omega) (by first | assumption | omega)) (fun y18 hy17 => ?_)
     exact Tm.ret (by trivial)
   ·try simp only [bz0, bz1, bz2, bz3, bz4, bz5, bz6, bz7, bz8, bz9, bza] at h15
    refine Tm.ite (fun h19 => ?_) (fun h19 => ?_)
    ·try simp only [bz0, bz1, bz2, bz3, bz4, bz5, bz6, bz7, bz8, bz9, bza] at h19
     exact Tm.ret (by trivial)
    ·try simp only [bz0, bz1, bz2, bz3, bz4, bz5, bz6, bz7, bz8, bz9, bza] at h19
     exact Tm.ret (by trivial)
theorem YN.f_of {β : Type} {k a0 a1 z0} (h : YN.t k a0 a1 = some z0) (K : Bool → Option β) : YN.f k a0 a1 K = K z0 := by unfold YN.f; rw [h]; rfl
theorem YN.tm {ι α : Type} {ok : ι → Prop} {ψ : α → Prop} {p : ι → Nat} {B : Nat} (hp : ∀ i, ok i → B ≤ p i) {a0 a1 φ} (h : Tm (fun k => B ≤ k) (fun k => YN.t k a0 a1) φ) {G : ι → Bool → Option α} (hG : ∀ z0, φ z0 → Tm ok (fun i => G i z0) ψ) : Tm ok (fun i => YN.f (p i) a0 a1 (G i)) ψ := ZK (t := fun k => YN.t k a0 a1) hp h hG
set_option maxRecDepth 100000 in
theorem YN.T {a0 a1 : LD} (ga0 : Zi Yaw lim a0) (ga1 : Zi RSS lim a1) : Tm Z3 (fun k => YN.t k a0 a1) (fun _ => True) := by
 unfold YN.t YN.g
 have hm := Zy
 have hlim : lim = 1048576 := rfl
 have la0 := ga0.1
 have la1 := ga1.1
 refine Ys.tm (fun i hi => hi) (Ys.T (by first | assumption | omega)) (fun y2 hy1 => ?_)
 refine Tm.ite (fun h3 => ?_) (fun h3 => ?_)
 ·try simp only [bz0, bz1, bz2, bz3, bz4, bz5, bz6, bz7, bz8, bz9, bza] at h3
  exact Tm.ret (by trivial)
 ·try simp only [bz0, bz1, bz2, bz3, bz4, bz5, bz6, bz7, bz8, bz9, bza] at h3
  refine YA.tm (fun i hi => hi) (YA.T (by first | assumption | omega)) (fun y5 hy4 => ?_)
  refine Tm.ite (fun h6 => ?_) (fun h6 => ?_)
  ·try simp only [bz0, bz1, bz2, bz3, bz4, bz5, bz6, bz7, bz8, bz9, bza] at h6
   exact Tm.ret (by trivial)
  ·try simp only [bz0, bz1, bz2, bz3, bz4, bz5, bz6, bz7, bz8, bz9, bza] at h6
   refine Tm.loop (okk := Z3) (p := fun k => k) (fun i hi => hi) (b := fun k => YN.l0 k a0 a1 (fun z0 => some z0)) (fun i => (((a0.length : Int)) - i).toNat) (fun i => 0 ≤ i ∧ i ≤ (a0.length : Int)) ?_ ?_ ?_
   ·rintro i hI
    try simp only [] at hI ⊢
    have : big = 2 ^ 64 := rfl
    omega
   ·((try simp only []); omega)
   ·rintro i hI L hL
    try simp only [] at hI
    obtain ⟨i0, i1⟩ := hI
    simp only [YN.l0, atR, rdQ, Q.ask]
    refine Tm.ite (fun h7 => ?_) (fun h7 => ?_)
    ·try simp only [bz0, bz1, bz2, bz3, bz4, bz5, bz6, bz7, bz8, bz9, bza] at h7
     refine Tm.atRow (by first | assumption | omega) (by first | assumption | omega) (fun x8 hx9 hm10 => ?_)
     obtain ⟨c11, c12, c13, rfl, g14, g15, g16, _⟩ := (ga0.2 x8 hm10).open
     refine Tm.uncons ?_
     refine Tm.dInt ?_
     refine Tm.uncons ?_
     refine Tm.dStr ?_
     refine Tm.uncons ?_
     refine Tm.dSl ?_
     refine Tm.atEnd ?_
     refine Yx.tm (fun i hi => hi.1) (Yx.T (by first | assumption | omega) (by first | assumption | omega)) (fun y18 y19 hy17 => ?_)
     try simp only [] at hy17
     refine Tm.atRow (by first | assumption | omega) (by first | assumption | omega) (fun x20 hx21 hm22 => ?_)
     rw [hx9] at hx21
     injection hx21 with hx21
     subst hx21
     refine Tm.uncons ?_
     refine Tm.dInt ?_
     refine Tm.uncons ?_
     refine Tm.dStr ?_
     refine Tm.uncons ?_
     refine Tm.dSl ?_
     refine Tm.atEnd ?_
     refine Yal.tm (fun i hi => hi.1) (Yal.T (by first | assumption | omega) (by first | assumption | omega) (by first | assumption | omega)) (fun y27 hy26 => ?_)
     refine Tm.ite (fun h28 => ?_) (fun h28 => ?_)
     ·try simp only [bz0, bz1, bz2, bz3, bz4, bz5, bz6, bz7, bz8, bz9, bza] at h28
      exact Tm.ret (by trivial)
     ·try simp only [bz0, bz1, bz2, bz3, bz4, bz5, bz6, bz7, bz8, bz9, bza] at h28
      try rw [Zj (x := i + 1) (by omega) (by omega)]
      exact hL _ (by (try simp only []); omega) (by (try simp only []); omega)
    ·try simp only [bz0, bz1, bz2, bz3, bz4, bz5, bz6, bz7, bz8, bz9, bza] at h7
     exact Tm.ret (by trivial)
noncomputable def YN.v (a0 a1 : LD) : Bool := (YN.t big a0 a1).getD default
theorem YN.tv {a0 a1 : LD} (ga0 : Zi Yaw lim a0) (ga1 : Zi RSS lim a1) {k : Nat} (hk : Z3 k) : YN.t k a0 a1 = some (YN.v a0 a1) := (YN.T ga0 ga1).val hk
theorem YN.fv {a0 a1 : LD} (ga0 : Zi Yaw lim a0) (ga1 : Zi RSS lim a1) {k : Nat} (hk : Z3 k) {β : Type} (K : Bool → Option β) : YN.f k a0 a1 K = K (YN.v a0 a1) := YN.f_of (YN.tv ga0 ga1 hk) K
set_option maxRecDepth 100000 in
theorem Y5.same {k : Nat} {a : LD} {s : BA} (g : Zi RSS lim a) : Y5.t k a s = Yx.t k a s := by
 unfold Y5.t Yx.t Y5.g Yx.g
 congr 1
 funext L v
 simp only [Y5.l0, atR, rdQ, Q.ask, Yx.l0, atR, rdQ, Q.ask]
 refine bif_congr (fun h => ?_) (fun _ => rfl)
 by_cases h0 : 0 ≤ v ∧ v < a.length
 ·obtain ⟨h0, h1⟩ := h0
  simp (disch := omega) only [RSS.row g, ZY, Zaj, Z6]
 ·simp only [atRow_none h0]
theorem impl_LabelGet_fv {a : LD} {s : BA} (g : Zi RSS lim a) (gs : s.size ≤ lim) {k : Nat} (hk : Z3 k) {β : Type} (K : BA → Bool → Option β) : Y5.f k a s K = K (Yx.v a s).1 (Yx.v a s).2 := by
 rw [← Yx.fv g gs hk K]
 unfold Y5.f Yx.f
 rw [Y5.same g]
def holdsB (kind : Int) (vals : LD) (v : BA) (has : Bool) : Bool :=
 bif kind == 1 || kind == 3 then has && YaZ vals v else bif kind == 2 then !(has && YaZ vals v) else bif kind == 4 then has else !has
theorem l2Holds_fv {kind : Int} {key : BA} {vals : LD} {v : BA} {has : Bool} (g : Zi RS lim vals) {k : Nat} (hk : Z3 k) {β : Type} (K : Bool → Option β) : Yal.f k kind key vals v has K = K (holdsB kind vals v has) := Yal.f_of (by
 unfold Yal.t Yal.g holdsB
 simp only [l2Among_fv g hk]
 rcases ZaA kind with rfl | rfl | rfl | rfl | rfl | ⟨e1, e2, e3, e4, e5⟩
 all_goals cases has <;> cases YaZ vals v <;> (try simp only [e1, e2, e3, e4, e5]) <;> rfl) K
theorem holds_fv {kind : Int} {key : BA} {vals labels : LD} (gk : key.size ≤ lim) (g : Zi RS lim vals) (gl : Zi RSS lim labels) {k : Nat} (hk : Z3 k) {β : Type} (K : Bool → Option β) : YaG.f k kind key vals labels K = K (holdsB kind vals (Yx.v labels key).1 (Yx.v labels key).2) := YaG.f_of (by
 unfold YaG.t YaG.g holdsB
 simp only [contains_fv g hk, impl_LabelGet_fv gl gk hk]
 generalize Yx.v labels key = y
 obtain ⟨v, has⟩ := y
 rcases ZaA kind with rfl | rfl | rfl | rfl | rfl | ⟨e1, e2, e3, e4, e5⟩
 all_goals cases has <;> cases YaZ vals v <;> (try simp only [e1, e2, e3, e4, e5]) <;> rfl) K
noncomputable def matchB (sel labels : LD) : Bool := (List.range sel.length).all fun i => holdsB (gI sel (i : Int) 0) (gL sel (i : Int) 2) (Yx.v labels (gS sel (i : Int) 1)).1 (Yx.v labels (gS sel (i : Int) 1)).2
theorem LabelsOk_impl_f {a : LD} (g : Zi RSS lim a) {k : Nat} {β : Type} (K : Bool → Option β) : Y1.f k a K = YA.f k a K := by
 unfold Y1.f YA.f
 rw [Y1.same g]
set_option maxRecDepth 100000 in
theorem YaD.same {sel labels : LD} (g : Zi Yaw lim sel) (gl : Zi RSS lim labels) {k : Nat} (hk : Z3 k) : YaD.t k sel labels = YN.t k sel labels := by
 have hl := g.1
 have hlim : lim = 1048576 := rfl
 have hb : big = 2 ^ 64 := rfl
 have hf : ∀ {β : Type} (K : Int → Option β), Yf.f k sel labels K = K (Zbo (fun i => !holdsB (gI sel (i : Int) 0) (gL sel (i : Int) 2) (Yx.v labels (gS sel (i : Int) 1)).1 (Yx.v labels (gS sel (i : Int) 1)).2) sel.length) := fun K => Yf.f_of (by
  unfold Yf.t Yf.g
  refine iter_findI (n := sel.length) _ some (by unfold Z3 at hk; omega) (fun L i hi => ?_) (fun L => by simp [Yf.l0, atR, rdQ, Q.ask])
  obtain ⟨-, k0, k1, k2, -⟩ := Yaw.get g (v := (i : Int)) (by omega) (by omega)
  have hs : ∀ {β : Type} (K : Bool → Option β), Yay.f k (gI sel (i : Int) 0) (gS sel (i : Int) 1) (gL sel (i : Int) 2) labels K = K (!holdsB (gI sel (i : Int) 0) (gL sel (i : Int) 2) (Yx.v labels (gS sel (i : Int) 1)).1 (Yx.v labels (gS sel (i : Int) 1)).2) := fun K => Yay.f_of (by unfold Yay.t Yay.g; rw [holds_fv k1 k2 gl hk]) K
  simp (disch := omega) only [Yf.l0, atR, rdQ, Q.ask, ZQ (show (i : Int) < sel.length by omega), cond_true, Yaw.row g, ZY, Zaj, Zad, Za7, Z6, hs, Zj]) K
 have hc : ∀ {β : Type} (K : Bool → Option β), Yv.f k sel labels K = K (!matchB sel labels) := fun K => Yv.f_of (by
  unfold Yv.t Yv.g
  rw [hf, findI_all]
  simp only [Bool.not_not, matchB]) K
 have hi : ∀ {β : Type} (K : Bool → Option β), Zo (YN.l0 k sel labels K) k 0 = K (matchB sel labels) := fun K => by
  rw [Zb6 (n := sel.length) (fun i => holdsB (gI sel (i : Int) 0) (gL sel (i : Int) 2) (Yx.v labels (gS sel (i : Int) 1)).1 (Yx.v labels (gS sel (i : Int) 1)).2) (r1 := K false) (r2 := K true) (by unfold Z3 at hk; omega)]
  ·unfold matchB
   generalize List.all _ _ = x
   cases x <;> rfl
  ·intro L i hi
   obtain ⟨-, k0, k1, k2, -⟩ := Yaw.get g (v := (i : Int)) (by omega) (by omega)
   simp (disch := omega) only [YN.l0, atR, rdQ, Q.ask, ZQ (show (i : Int) < sel.length by omega), cond_true, Yaw.row g, ZY, Zaj, Zad, Za7, Z6, Yx.fv gl k1 hk, l2Holds_fv k2 hk, Zj]
   generalize holdsB _ _ _ _ = x
   cases x <;> rfl
  ·intro L
   simp [YN.l0, atR, rdQ, Q.ask]
 unfold YaD.t YN.t YaD.g YN.g
 simp only [Ya7 g hk, LabelsOk_impl_f gl, hc, hi]
 rw [Ys.fv g hk, Ys.fv g hk]
 cases Ys.v sel
 ·rfl
 ·simp only [cond_true, Bool.not_true, cond_false]
  rw [YA.fv gl hk, YA.fv gl hk]
  cases YA.v labels <;> simp
theorem impl_Matches_f {sel labels : LD} (g : Zi Yaw lim sel) (gl : Zi RSS lim labels) {k : Nat} (hk : Z3 k) {β : Type} (K : Bool → Option β) : YaD.f k sel labels K = K (YN.v sel labels) := by
 rw [← YN.fv g gl hk K]
 unfold YaD.f YN.f
 rw [YaD.same g gl hk]
theorem YJ.f_of {β : Type} {k aB aC aA aH bF bD bC bG z0} (h : YJ.t k aB aC aA aH bF bD bC bG = some z0) (K : Bool → Option β) : YJ.f k aB aC aA aH bF bD bC bG K = K z0 := by unfold YJ.f; rw [h]; rfl
set_option maxRecDepth 100000 in
theorem YJ.T {aB : Int} {aC aA aH : LD} {bF : BA} {bD bC : LD} {bG : Int} (ga0_1 : Zi Yaw lim aC) (ga0_2 : Zi RS lim aA) (ga0_3 : Zi RSI lim aH) (ga1_0 : bF.size ≤ lim) (ga1_1 : Zi RSS lim bD) (ga1_2 : Zi RS lim bC) : Tm Z3 (fun k => YJ.t k aB aC aA aH bF bD bC bG) (fun _ => True) := by
 unfold YJ.t YJ.g YJ.m
 have hm := Zy
 have hlim : lim = 1048576 := rfl
 have la0_1 := ga0_1.1
 have la0_2 := ga0_2.1
 have la0_3 := ga0_3.1
 have la1_1 := ga1_1.1
 have la1_2 := ga1_2.1
 refine YC.tm (fun i hi => hi) (YC.T (by first | assumption | omega) (by first | assumption | omega) (by first | assumption | omega)) (fun y2 hy1 => ?_)
 refine Tm.ite (fun h3 => ?_) (fun h3 => ?_)
 ·try simp only [bz0, bz1, bz2, bz3, bz4, bz5, bz6, bz7, bz8, bz9, bza] at h3
  exact Tm.ret (by trivial)
 ·try simp only [bz0, bz1, bz2, bz3, bz4, bz5, bz6, bz7, bz8, bz9, bza] at h3
  refine YR.tm (fun i hi => hi) (YR.T (by first | assumption | omega) (by first | assumption | omega) (by first | assumption | omega)) (fun y5 hy4 => ?_)
  refine Tm.ite (fun h6 => ?_) (fun h6 => ?_)
  ·try simp only [bz0, bz1, bz2, bz3, bz4, bz5, bz6, bz7, bz8, bz9, bza] at h6
   exact Tm.ret (by trivial)
  ·try simp only [bz0, bz1, bz2, bz3, bz4, bz5, bz6, bz7, bz8, bz9, bza] at h6
   refine YN.tm (fun i hi => hi) (YN.T (by first | assumption | omega) (by first | assumption | omega)) (fun y8 hy7 => ?_)
   refine Tm.ite (fun h9 => ?_) (fun h9 => ?_)
   ·try simp only [bz0, bz1, bz2, bz3, bz4, bz5, bz6, bz7, bz8, bz9, bza] at h9
    exact Tm.ret (by trivial)
   ·try simp only [bz0, bz1, bz2, bz3, bz4, bz5, bz6, bz7, bz8, bz9, bza] at h9
    refine Tm.loop (okk := Z3) (p := fun k => k) (fun i hi => hi) (b := fun k => YJ.l0 k aB aC aA aH bF bD bC bG (fun z0 => some z0)) (fun i => (((bC.length : Int)) - i).toNat) (fun i => 0 ≤ i ∧ i ≤ (bC.length : Int)) ?_ ?_ ?_
    ·rintro i hI
     try simp only [] at hI ⊢
     have : big = 2 ^ 64 := rfl
     omega
    ·((try simp only []); omega)
    ·rintro i hI L hL
     try simp only [] at hI
     obtain ⟨i0, i1⟩ := hI
     simp only [YJ.l0, atR, rdQ, Q.ask]
     refine Tm.ite (fun h10 => ?_) (fun h10 => ?_)
     ·try simp only [bz0, bz1, bz2, bz3, bz4, bz5, bz6, bz7, bz8, bz9, bza] at h10
      refine Tm.atRow (by first | assumption | omega) (by first | assumption | omega) (fun x11 hx12 hm13 => ?_)
      obtain ⟨c14, rfl, g15, _⟩ := (ga1_2.2 x11 hm13).open
      refine Tm.uncons ?_
      refine Tm.dStr ?_
      refine Tm.atEnd ?_
      refine YP.tm (fun i hi => hi.1) (YP.T (by first | assumption | omega) (by first | assumption | omega)) (fun y17 hy16 => ?_)
      refine Tm.ite (fun h18 => ?_) (fun h18 => ?_)
      ·try simp only [bz0, bz1, bz2, bz3, bz4, bz5, bz6, bz7, bz8, bz9, bza] at h18
       exact Tm.ret (by trivial)
      ·try simp only [bz0, bz1, bz2, bz3, bz4, bz5, bz6, bz7, bz8, bz9, bza] at h18
       try rw [Zj (x := i + 1) (by omega) (by omega)]
       exact hL _ (by (try simp only []); omega) (by (try simp only []); omega)
     ·try simp only [bz0, bz1, bz2, bz3, bz4, bz5, bz6, bz7, bz8, bz9, bza] at h10
      exact Tm.ret (by trivial)
noncomputable def YJ.v (aB : Int) (aC aA aH : LD) (bF : BA) (bD bC : LD) (bG : Int) : Bool := (YJ.t big aB aC aA aH bF bD bC bG).getD default
theorem YJ.tv {aB : Int} {aC aA aH : LD} {bF : BA} {bD bC : LD} {bG : Int} (ga0_1 : Zi Yaw lim aC) (ga0_2 : Zi RS lim aA) (ga0_3 : Zi RSI lim aH) (ga1_0 : bF.size ≤ lim) (ga1_1 : Zi RSS lim bD) (ga1_2 : Zi RS lim bC) {k : Nat} (hk : Z3 k) : YJ.t k aB aC aA aH bF bD bC bG = some (YJ.v aB aC aA aH bF bD bC bG) := (YJ.T ga0_1 ga0_2 ga0_3 ga1_0 ga1_1 ga1_2).val hk
theorem YJ.fv {aB : Int} {aC aA aH : LD} {bF : BA} {bD bC : LD} {bG : Int} (ga0_1 : Zi Yaw lim aC) (ga0_2 : Zi RS lim aA) (ga0_3 : Zi RSI lim aH) (ga1_0 : bF.size ≤ lim) (ga1_1 : Zi RSS lim bD) (ga1_2 : Zi RS lim bC) {k : Nat} (hk : Z3 k) {β : Type} (K : Bool → Option β) : YJ.f k aB aC aA aH bF bD bC bG K = K (YJ.v aB aC aA aH bF bD bC bG) := YJ.f_of (YJ.tv ga0_1 ga0_2 ga0_3 ga1_0 ga1_1 ga1_2 hk) K
set_option maxRecDepth 100000 in
theorem Yae.same {aB : Int} {aC aA aH : LD} {bF : BA} {bD bC : LD} {bG : Int} (g0 : Zi Yaw lim aC) (g1 : Zi RS lim aA) (g2 : Zi RSI lim aH) (g3 : bF.size ≤ lim) (g4 : Zi RSS lim bD) (g5 : Zi RS lim bC) {k : Nat} (hk : Z3 k) : Yae.t k aB aC aA aH bF bD bC bG = YJ.t k aB aC aA aH bF bD bC bG := by
 have hl := g5.1
 have hlim : lim = 1048576 := rfl
 have hb : big = 2 ^ 64 := rfl
 have hf : ∀ {β : Type} (K : Int → Option β), Yg.f k bC aB aC aA aH K = K (Zbo (fun i => !YaZ aA (gS bC (i : Int) 0)) bC.length) := fun K => Yg.f_of (by
  unfold Yg.t Yg.g
  refine iter_findI (n := bC.length) _ some (by unfold Z3 at hk; omega) (fun L i hi => ?_) (fun L => by simp [Yg.l0, atR, rdQ, Q.ask])
  have hs : ∀ {β : Type} (K : Bool → Option β), Yau.f k (gS bC (i : Int) 0) aB aC aA aH K = K (!YaZ aA (gS bC (i : Int) 0)) := fun K => Yau.f_of (by unfold Yau.t Yau.g; rw [contains_fv g1 hk]) K
  simp (disch := omega) only [Yg.l0, atR, rdQ, Q.ask, ZQ (show (i : Int) < bC.length by omega), cond_true, RS.row g5, ZY, Zaj, Z6, hs, Zj]) K
 have hc : ∀ {β : Type} (K : Bool → Option β), Yz.f k bC aB aC aA aH K = K (!(List.range bC.length).all fun i => YaZ aA (gS bC (i : Int) 0)) := fun K => Yz.f_of (by
  unfold Yz.t Yz.g
  rw [hf, findI_all]
  simp only [Bool.not_not]) K
 have hi : ∀ {β : Type} (K : Bool → Option β), Zo (YJ.l0 k aB aC aA aH bF bD bC bG K) k 0 = K ((List.range bC.length).all fun i => YaZ aA (gS bC (i : Int) 0)) := fun K => by
  rw [Zb6 (n := bC.length) (fun i => YaZ aA (gS bC (i : Int) 0)) (r1 := K false) (r2 := K true) (by unfold Z3 at hk; omega)]
  ·generalize List.all _ _ = x
   cases x <;> rfl
  ·intro L i hi
   simp (disch := omega) only [YJ.l0, atR, rdQ, Q.ask, ZQ (show (i : Int) < bC.length by omega), cond_true, RS.row g5, ZY, Zaj, Z6, l2Among_fv g1 hk, Zj]
   generalize YaZ _ _ = x
   cases x <;> rfl
  ·intro L
   simp [YJ.l0, atR, rdQ, Q.ask]
 have hw : ∀ {β : Type} (K : Bool → Option β), Yaa.f k aB aC aA aH K = YC.f k aB aC aA aH K := fun K => by
  unfold Yaa.f YC.f
  rw [Yaa.same g0 g1 g2 hk]
 have hn : ∀ {β : Type} (K : Bool → Option β), Yat.f k bF bD bC bG K = YR.f k bF bD bC bG K := fun K => by
  unfold Yat.f YR.f
  rw [Yat.same g3 g4 g5 hk]
 unfold Yae.t YJ.t Yae.g YJ.g YJ.m
 simp only [hw, hn, hc, hi, YC.fv g0 g1 g2 hk, YR.fv g3 g4 g5 hk, impl_Matches_f g0 g4 hk, YN.fv g0 g4 hk]
 cases YC.v aB aC aA aH <;> cases YR.v bF bD bC bG <;> cases YN.v aC bD <;> simp
theorem YE.f_of {β : Type} {k aB aC aA aH a1 z0} (h : YE.t k aB aC aA aH a1 = some z0) (K : Int → Option β) : YE.f k aB aC aA aH a1 K = K z0 := by unfold YE.f; rw [h]; rfl
set_option maxRecDepth 100000 in
theorem YE.T {aB : Int} {aC aA aH : LD} {a1 : BA} (ga0_1 : Zi Yaw lim aC) (ga0_2 : Zi RS lim aA) (ga0_3 : Zi RSI lim aH) (ga1 : a1.size ≤ lim) : Tm Z3 (fun k => YE.t k aB aC aA aH a1) (fun _ => True) := by
 unfold YE.t YE.g
 have hm := Zy
 have hlim : lim = 1048576 := rfl
 have la0_1 := ga0_1.1
 have la0_2 := ga0_2.1
 have la0_3 := ga0_3.1
 refine Tm.loop (okk := Z3) (p := fun k => k) (fun i hi => hi) (b := fun k => YE.l0 k a1 aB aC aA aH (fun z0 => some z0)) (fun i => (((aH.length : Int)) - i).toNat) (fun i => 0 ≤ i ∧ i ≤ (aH.length : Int)) ?_ ?_ ?_
 ·rintro i hI
  try simp only [] at hI ⊢
  have : big = 2 ^ 64 := rfl
  omega
 ·((try simp only []); omega)
 ·rintro i hI L hL
  try simp only [] at hI
  obtain ⟨i0, i1⟩ := hI
  simp only [YE.l0, atR, rdQ, Q.ask]
  refine Tm.ite (fun h1 => ?_) (fun h1 => ?_)
  ·try simp only [bz0, bz1, bz2, bz3, bz4, bz5, bz6, bz7, bz8, bz9, bza] at h1
   refine Tm.atRow (by first | assumption | omega) (by first | assumption | omega) (fun x2 hx3 hm4 => ?_)
   obtain ⟨c5, c6, rfl, g7, g8, _⟩ := (ga0_3.2 x2 hm4).open
   refine Tm.uncons ?_
   refine Tm.dStr ?_
   refine Tm.uncons ?_
   refine Tm.dInt ?_
   refine Tm.atEnd ?_
   refine Tm.ite (fun h9 => ?_) (fun h9 => ?_)
   ·try simp only [bz0, bz1, bz2, bz3, bz4, bz5, bz6, bz7, bz8, bz9, bza] at h9
    refine Tm.atRow (by first | assumption | omega) (by first | assumption | omega) (fun x10 hx11 hm12 => ?_)
    rw [hx3] at hx11
    injection hx11 with hx11
    subst hx11
    refine Tm.uncons ?_
    refine Tm.dStr ?_
    refine Tm.uncons ?_
    refine Tm.dInt ?_
    refine Tm.atEnd ?_
    exact Tm.ret (by trivial)
   ·try simp only [bz0, bz1, bz2, bz3, bz4, bz5, bz6, bz7, bz8, bz9, bza] at h9
    try rw [Zj (x := i + 1) (by omega) (by omega)]
    exact hL _ (by (try simp only []); omega) (by (try simp only []); omega)
  ·try simp only [bz0, bz1, bz2, bz3, bz4, bz5, bz6, bz7, bz8, bz9, bza] at h1
   exact Tm.ret (by trivial)
noncomputable def YE.v (aB : Int) (aC aA aH : LD) (a1 : BA) : Int := (YE.t big aB aC aA aH a1).getD default
theorem YE.tv {aB : Int} {aC aA aH : LD} {a1 : BA} (ga0_1 : Zi Yaw lim aC) (ga0_2 : Zi RS lim aA) (ga0_3 : Zi RSI lim aH) (ga1 : a1.size ≤ lim) {k : Nat} (hk : Z3 k) : YE.t k aB aC aA aH a1 = some (YE.v aB aC aA aH a1) := (YE.T ga0_1 ga0_2 ga0_3 ga1).val hk
theorem YE.fv {aB : Int} {aC aA aH : LD} {a1 : BA} (ga0_1 : Zi Yaw lim aC) (ga0_2 : Zi RS lim aA) (ga0_3 : Zi RSI lim aH) (ga1 : a1.size ≤ lim) {k : Nat} (hk : Z3 k) {β : Type} (K : Int → Option β) : YE.f k aB aC aA aH a1 K = K (YE.v aB aC aA aH a1) := YE.f_of (YE.tv ga0_1 ga0_2 ga0_3 ga1 hk) K
set_option maxRecDepth 100000 in
theorem YU.same {aB : Int} {aC aA aH : LD} {a1 : BA} (g0 : Zi Yaw lim aC) (g1 : Zi RS lim aA) (g2 : Zi RSI lim aH) (g3 : a1.size ≤ lim) {k : Nat} (hk : Z3 k) : YU.t k aB aC aA aH a1 = YE.t k aB aC aA aH a1 := by
 unfold YU.t YE.t YU.g YE.g
 congr 1
 funext L v
 simp only [YU.l0, atR, rdQ, Q.ask, YE.l0, atR, rdQ, Q.ask]
 refine bif_congr (fun h => ?_) (fun _ => rfl)
 by_cases h0 : 0 ≤ v ∧ v < aH.length
 ·have hl : v.toNat < aH.length := by omega
  obtain ⟨s0, n1, hs, _⟩ := g2.2 _ (List.getElem_mem hl)
  have hr := fun F => atRow_get (β := Int) h0.1 (by rw [← hs]; simp [hl] : aH[v.toNat]? = some [.str s0, .int .i64 n1]) F
  simp only [hr, Zas, dStr, dInt, atEnd, if_true]
 ·simp only [atRow_none h0]
theorem Y8.f_of {β : Type} {k a0 a1 a2 z0} (h : Y8.t k a0 a1 a2 = some z0) (K : Bool → Option β) : Y8.f k a0 a1 a2 K = K z0 := by unfold Y8.f; rw [h]; rfl
def RI (B : Nat) (r : List D) : Prop := ∃ (c0 : Int), r = [.int .i64 c0] ∧ (Lit.int .i64 c0).wf = true ∧ True
theorem RI.open {B : Nat} {r : List D} (h : RI B r) : ∃ (c0 : Int), r = [.int .i64 c0] ∧ (Lit.int .i64 c0).wf = true ∧ True := h
theorem RI.mono {B B' : Nat} (hb : B ≤ B') {r : List D} (h : RI B r) : RI B' r := by
 obtain ⟨c0, rfl, k0, _⟩ := h
 exact ⟨_, rfl, k0, trivial⟩
theorem RI.wide {xs : LD} (h : Zi RI lim xs) : Zi RI 2097152 xs := ⟨Nat.le_trans h.1 (by decide), fun r hr => (h.2 r hr).mono (by decide)⟩
theorem RI.len {B : Nat} {r : List D} (h : RI B r) : r.length = 1 := by
 obtain ⟨c0, rfl, _⟩ := h.open
 rfl
theorem RI.flat {B : Nat} {xs : LD} (h : ∀ r ∈ xs, RI B r) : ZaZ 1 xs := fun r hr => by
 obtain ⟨c0, rfl, _⟩ := (h r hr).open
 exact ⟨rfl, by simp [Zau]⟩
theorem RI.wt {B : Nat} {xs : LD} (h : ∀ r ∈ xs, RI B r) : Zp xs = 1 * xs.length := wt_flat (R := RI B) (fun r h => by obtain ⟨c0, rfl, _⟩ := h; rfl) xs h
theorem RI.deep {B : Nat} {xs : LD} (h : ∀ r ∈ xs, RI B r) : Zb xs = xs.map (·.map C.d) := deep_flat (R := RI B) (fun r h => by obtain ⟨c0, rfl, _⟩ := h; rfl) xs h
theorem RI.gets {B : Nat} {xs : LD} (h : ∀ r ∈ xs, RI B r) {v : Int} (h0 : 0 ≤ v) (h1 : v < xs.length) : gR xs v = [.int .i64 (gI xs v 0)] ∧ (Lit.int .i64 (gI xs v 0)).wf = true ∧ True := by
 obtain ⟨c0, e, k0, _⟩ := (h (gR xs v) (gR_mem h0 h1)).open
 unfold gI
 rw [e]
 exact ⟨rfl, k0, trivial⟩
theorem RI.rows {B : Nat} {xs : LD} (h : ∀ r ∈ xs, RI B r) {v : Int} (h0 : 0 ≤ v) (h1 : v < xs.length) {β : Type} (F : List D → Option β) : Zbw xs v F = F [.int .i64 (gI xs v 0)] := by
 rw [← (RI.gets h h0 h1).1]
 exact Zbp h0 h1 F
theorem RI.get {B : Nat} {xs : LD} (h : Zi RI B xs) {v : Int} (h0 : 0 ≤ v) (h1 : v < xs.length) : gR xs v = [.int .i64 (gI xs v 0)] ∧ (Lit.int .i64 (gI xs v 0)).wf = true ∧ True := RI.gets h.2 h0 h1
theorem RI.row {B : Nat} {xs : LD} (h : Zi RI B xs) {v : Int} (h0 : 0 ≤ v) (h1 : v < xs.length) {β : Type} (F : List D → Option β) : Zbw xs v F = F [.int .i64 (gI xs v 0)] := RI.rows h.2 h0 h1 F
theorem insD_split {r : Nat → Int} {x : Nat} : ∀ {A B : List Nat}, (∀ y ∈ A, r x ≤ r y) → (∀ y ∈ B, r y < r x) → insD r x (A ++ B) = A ++ x :: B
 | [], [], _, _ => rfl
 | [], y :: B, _, h => by
  simp only [List.nil_append, insD]
  rw [if_pos (h y (by simp))]
 | y :: A, B, h, h' => by
  simp only [List.cons_append, insD]
  have := h y (by simp)
  rw [if_neg (by omega), insD_split (fun z hz => h z (by simp [hz])) h']
def restQ (n : Int) (w : Nat → Int) (op : List Nat) (s : Int) (p : Nat) : Int := rsD w n s (op.getD p 0)
set_option maxRecDepth 100000 in
theorem cmpQ_fv {n s : Int} {a1 : LD} {op : List Nat} (g1 : Zi RI lim a1) (hop : ∀ i ∈ op, i < a1.length) (hw : ∀ i, i < a1.length → 0 ≤ gI a1 (i : Int) 0 ∧ gI a1 (i : Int) 0 ≤ 1000) (hn : 0 ≤ n) (hn2 : n ≤ 10000) (hs : 0 < s) {p q : Nat} (hp : p < op.length) (hq : q < op.length) {k : Nat} {β : Type} (K : Int → Option β) :
  Yam.f k (p : Int) (q : Int) n a1 (ofN op) s K = K (restQ n (fun i => gI a1 (i : Int) 0) op s q - restQ n (fun i => gI a1 (i : Int) 0) op s p) := Yam.f_of (by
 have hP := hop op[p] (List.getElem_mem hp)
 have hQ := hop op[q] (List.getElem_mem hq)
 have hwP := hw _ hP
 have hwQ := hw _ hQ
 have hl := g1.1
 have mP : 0 ≤ n * gI a1 (op[p] : Int) 0 ∧ n * gI a1 (op[p] : Int) 0 ≤ 10000000 := ⟨Int.mul_nonneg hn hwP.1, by have := Int.mul_le_mul hn2 hwP.2 hwP.1 (by decide : (0 : Int) ≤ 10000); omega⟩
 have mQ : 0 ≤ n * gI a1 (op[q] : Int) 0 ∧ n * gI a1 (op[q] : Int) 0 ≤ 10000000 := ⟨Int.mul_nonneg hn hwQ.1, by have := Int.mul_le_mul hn2 hwQ.2 hwQ.1 (by decide : (0 : Int) ≤ 10000); omega⟩
 unfold Yam.t Yam.g; simp only [atR, rdQ, Q.ask]
 simp (disch := omega) only [ofN_at hq, ofN_at hp, ZY, Zad, Z6, RI.row g1]
 rw [ZaP (by omega), ZaP (by omega), Zj (x := n * _) (by omega) (by omega), Zj (x := n * gI a1 (op[p] : Int) 0) (by omega) (by omega)]
 have b1 : 0 ≤ Int.tmod (n * gI a1 (op[q] : Int) 0) s ∧ Int.tmod (n * gI a1 (op[q] : Int) 0) s ≤ 10000000 := ⟨Int.tmod_nonneg _ mQ.1, by
  rw [Int.tmod_eq_emod_of_nonneg mQ.1]
  have h2 : n * gI a1 (op[q] : Int) 0 % s ≤ n * gI a1 (op[q] : Int) 0 := by
   have h3 := Int.emod_add_mul_ediv (n * gI a1 (op[q] : Int) 0) s
   have h4 : 0 ≤ s * (n * gI a1 (op[q] : Int) 0 / s) := Int.mul_nonneg (by omega) (Int.ediv_nonneg mQ.1 (by omega))
   omega
  omega⟩
 have b2 : 0 ≤ Int.tmod (n * gI a1 (op[p] : Int) 0) s ∧ Int.tmod (n * gI a1 (op[p] : Int) 0) s ≤ 10000000 := ⟨Int.tmod_nonneg _ mP.1, by
  rw [Int.tmod_eq_emod_of_nonneg mP.1]
  have h2 : n * gI a1 (op[p] : Int) 0 % s ≤ n * gI a1 (op[p] : Int) 0 := by
   have h3 := Int.emod_add_mul_ediv (n * gI a1 (op[p] : Int) 0) s
   have h4 : 0 ≤ s * (n * gI a1 (op[p] : Int) 0 / s) := Int.mul_nonneg (by omega) (Int.ediv_nonneg mP.1 (by omega))
   omega
  omega⟩
 rw [Zj (by omega) (by omega)]
 unfold restQ rsD
 simp [List.getD, hp, hq]) K
theorem upN_mid {A B : List Nat} {x i : Nat} (h : A.length = i) {β : Type} (F : List C → Option β) : ZaG (upN (A ++ x :: B)) i F = F [.d (.int .i64 (x : Int))] := by
 rw [upN_at (by simp; omega)]
 simp [← h]
theorem upN_set {A B : List Nat} {x y i : Nat} (h : A.length = i) : ((upN (A ++ x :: B)).modify i fun c => Zq c 0 [.d (.int .i64 (y : Int))]) = upN (A ++ y :: B) := by
 have e : ∀ z, upN (A ++ z :: B) = upN A ++ [.d (.int .i64 (z : Int))] :: upN B := fun z => by simp [upN]
 rw [e, e, Zaf (by rw [YaS]; exact h)]
 simp [Zq]
theorem insQ_fv {n s : Int} {a1 : LD} {op : List Nat} (g1 : Zi RI lim a1) (hop : ∀ i ∈ op, i < a1.length) (hw : ∀ i, i < a1.length → 0 ≤ gI a1 (i : Int) 0 ∧ gI a1 (i : Int) 0 ≤ 1000) (hn : 0 ≤ n) (hn2 : n ≤ 10000) (hs : 0 < s) (h0 : 0 < op.length) (hl : op.length < 20) {k : Nat} (hk : Z3 k) {β : Type} (K : LC → Option β) :
  Yc.f k (upN (List.range op.length)) 0 (op.length : Int) n a1 (ofN op) s K = K (upN (YaI (restQ n (fun i => gI a1 (i : Int) 0) op s) (List.range op.length))) := Yc.f_of (by
 have hb : big = 2 ^ 64 := rfl
 unfold Yc.t Yc.g
 generalize hr : restQ n (fun i => gI a1 (i : Int) 0) op s = r
 have hw1 : IntKind.wrap .i64 ((0 : Int) + 1) = 1 := Zj (by decide) (by decide)
 rw [hw1]
 have hrange : ∀ i, i ≤ op.length → List.range op.length = List.range i ++ List.range' i (op.length - i) := fun i hi => by
  rw [List.range_eq_range', List.range_eq_range', show List.range' i (op.length - i) = List.range' (0 + 1 * i) (op.length - i) by simp, List.range'_append, show i + (op.length - i) = op.length by omega]
 have hst : (upN (List.range op.length)) = upN (YaI r (List.range 1) ++ List.range' 1 (op.length - 1)) := by
  rw [hrange 1 (by omega)]
  rfl
 rw [hst]
 refine iter_seq (f := fun t => ((0 : Int), (op.length : Int), n, a1, ofN op, s, ((t + 1 : Nat) : Int), upN (YaI r (List.range (t + 1)) ++ List.range' (t + 1) (op.length - (t + 1))))) (n := op.length - 1) (by unfold Z3 at hk; omega) (fun L t ht => ?_) (fun L => ?_)
 ·simp only [Yc.l0, Yc.m0]
  rw [ZQ (show ((t + 1 : Nat) : Int) < (op.length : Int) by omega)]
  simp only [cond_true]
  obtain ⟨s1, s2, s3⟩ := YaP (r := r) (l := List.range (t + 1)) List.pairwise_lt_range
  rw [List.length_range] at s3
  have hrest : List.range' (t + 1) (op.length - (t + 1)) = (t + 1) :: List.range' (t + 1 + 1) (op.length - (t + 1 + 1)) := by
   rw [show op.length - (t + 1) = (op.length - (t + 1 + 1)) + 1 by omega, List.range'_succ]
  have hnext : YaI r (List.range (t + 1 + 1)) = insD r (t + 1) (YaI r (List.range (t + 1))) := by
   unfold YaI
   rw [List.range_succ (n := t + 1), List.foldl_append]
   rfl
  rw [hrest, hnext]
  generalize YaI r (List.range (t + 1)) = S at s1 s2 s3 ⊢
  generalize List.range' (t + 1 + 1) (op.length - (t + 1 + 1)) = T
  refine iter_val (fun v : Int × LC => v.1.toNat) (fun v => ∃ A B, S = A ++ B ∧ v.1 = (A.length : Int) ∧ v.2 = upN (A ++ (t + 1) :: (B ++ T)) ∧ ∀ y ∈ B, r y < r (t + 1)) (fun _ => L ((0 : Int), (op.length : Int), n, a1, ofN op, s, ((t + 1 + 1 : Nat) : Int), upN (insD r (t + 1) S ++ T))) ?_ k _ ⟨S, [], by simp, by simp only []; omega, rfl, by simp⟩ (by unfold Z3 at hk; simp only []; omega)
  rintro ⟨j, rows⟩ ⟨A, B, hS, hj, hrow, hB⟩ L1 hL
  simp only [] at hj hrow hL
  subst hj hrow
  have hlt : ∀ y ∈ S, y < t + 1 := fun y hy => List.mem_range.mp ((s2 y).mp hy)
  have hlen : S.length = A.length + B.length := by rw [hS]; simp
  have hwt : IntKind.wrap .i64 (((t + 1 : Nat) : Int) + 1) = ((t + 1 + 1 : Nat) : Int) := by rw [Zj (by omega) (by omega)]; omega
  simp only [Yc.l1, hwt]
  have hdone : (∀ y ∈ A, r (t + 1) ≤ r y) → L ((0 : Int), (op.length : Int), n, a1, ofN op, s, ((t + 1 + 1 : Nat) : Int), upN (A ++ (t + 1) :: (B ++ T))) = L ((0 : Int), (op.length : Int), n, a1, ofN op, s, ((t + 1 + 1 : Nat) : Int), upN (insD r (t + 1) S ++ T)) := fun h => by
   rw [hS, insD_split h hB]
   simp
  rcases List.eq_nil_or_concat A with rfl | ⟨A', y, rfl⟩
  ·rw [ZV (by simp)]
   simp only [cond_false]
   exact hdone (by simp)
  ·simp only [List.concat_eq_append] at hS hlen hdone hL ⊢
   have hyS : y ∈ S := by rw [hS]; simp
   have hyl := hlt y hyS
   have hAl : (A' ++ [y]).length = A'.length + 1 := by simp
   have hw2 : IntKind.wrap .i64 (((A' ++ [y]).length : Int) - 1) = (A'.length : Int) := by rw [Zj (by omega) (by omega)]; omega
   rw [ZQ (show ((A' ++ [y]).length : Int) > 0 by omega)]
   simp only [cond_true, hw2]
   have e1 : A' ++ [y] ++ (t + 1) :: (B ++ T) = A' ++ y :: ((t + 1) :: (B ++ T)) := by simp
   have hlen2 : (upN (A' ++ [y] ++ (t + 1) :: (B ++ T))).length = A'.length + 2 + B.length + T.length := by rw [YaS]; simp; omega
   rw [ZaP ⟨by omega, by rw [hlen2]; omega⟩, Int.toNat_natCast, upN_mid rfl]
   simp only [List.drop_zero, ZY, cD_at, Zad]
   rw [ZaP ⟨by omega, by rw [hlen2]; omega⟩, Int.toNat_natCast, e1, upN_mid rfl]
   simp only [List.drop_zero, ZY, cD_at, Zad]
   rw [cmpQ_fv g1 hop hw hn hn2 hs (by omega) (by omega), hr]
   by_cases hc : r y < r (t + 1)
   ·rw [ZQ (show r y - r (t + 1) < 0 by omega)]
    simp only [cond_true]
    rw [← e1, ZaP ⟨by omega, by rw [hlen2]; omega⟩, e1, upN_mid rfl]
    simp only [List.drop_zero, ZY, cD_at, Zad]
    rw [← e1, ZaP ⟨by omega, by rw [hlen2]; omega⟩, upN_mid rfl]
    simp only [List.drop_zero, ZY, cD_at, Zad]
    have e2 : ((upN (A' ++ [y] ++ (t + 1) :: (B ++ T))).modify (A' ++ [y]).length fun c => Zq c 0 [.d (.int .i64 (y : Int))]) = upN (A' ++ y :: (y :: (B ++ T))) := by rw [upN_set rfl]; simp
    have hlen3 : (upN (A' ++ y :: (y :: (B ++ T)))).length = A'.length + 2 + B.length + T.length := by rw [YaS]; simp; omega
    simp only [e2]
    rw [ZaP ⟨by omega, by rw [hlen2]; omega⟩, ZaP (by rw [hlen2]; omega), ZaP ⟨by omega, by rw [hlen3]; omega⟩, ZaP (by rw [hlen3]; omega), upN_set rfl]
    exact hL _ ⟨A', y :: B, by rw [hS]; simp, rfl, rfl, fun z hz => by rcases List.mem_cons.mp hz with rfl | hz; exact hc; exact hB z hz⟩ (by simp only []; omega)
   ·rw [ZV (show ¬ r y - r (t + 1) < 0 by omega)]
    simp only [cond_false]
    rw [← e1]
    refine hdone fun z hz => ?_
    rcases List.mem_append.mp hz with hz | hz
    ·have hp := List.pairwise_append.mp (hS ▸ s1)
     have hp2 := (List.pairwise_append.mp hp.1).2.2 z hz y (by simp)
     rcases hp2 with q | q <;> omega
    ·simp at hz; subst hz; omega
 ·simp only [Yc.l0, Yc.m0]
  rw [ZV (by omega)]
  simp only [cond_false]
  rw [show op.length - 1 + 1 = op.length by omega]
  simp) K
theorem sortQ_fv {n s : Int} {a1 : LD} {op : List Nat} {w : Nat → Int} (hwd : w = fun i : Nat => gI a1 (i : Int) 0) (g1 : Zi RI lim a1) (hop : ∀ i ∈ op, i < a1.length) (hw : ∀ i, i < a1.length → 0 ≤ w i ∧ w i ≤ 1000) (hn : 0 ≤ n) (hn2 : n ≤ 10000) (hs : 0 < s) (h0 : 0 < op.length) (hl : op.length < 20) {k : Nat} (hk : Z3 k) {β : Type} (K : LC → Option β) :
  YB.f k (upN (List.range op.length)) n a1 (ofN op) s K = K (upN (YaI (restQ n w op s) (List.range op.length))) := YB.f_of (by
 subst hwd
 have hb : big = 2 ^ 64 := rfl
 have hins := fun {β : Type} (K : LC → Option β) => insQ_fv (K := K) g1 hop hw hn hn2 hs h0 hl hk
 obtain ⟨_, _, s3⟩ := YaP (r := restQ n (fun i => gI a1 (i : Int) 0) op s) (l := List.range op.length) List.pairwise_lt_range
 have hlen2 : (upN (YaI (restQ n (fun i => gI a1 (i : Int) 0) op s) (List.range op.length))).length = (upN (List.range op.length)).length := by rw [YaS, YaS, s3]
 generalize YaI (restQ n (fun i => gI a1 (i : Int) 0) op s) (List.range op.length) = S at *
 unfold YB.t YB.g
 have hst : ∀ {β : Type} (K : LC → Option β), Yb.f k (upN (List.range op.length)) ((upN (List.range op.length)).length : Int) n a1 (ofN op) s K = K (upN S) := fun {β} K => Yb.f_of (by
  unfold Yb.t Yb.g
  rw [YaS, List.length_range, iter_step (by unfold Z3 at hk; omega)]
  simp only [Yb.l0, Yb.m0]
  rw [ZV (show ¬ (20 : Int) ≤ (op.length : Int) by omega)]
  simp only [cond_false]
  rw [hins, ZaP hlen2, iter_step (by unfold Z3 at hk; omega)]
  simp only [Yb.l1, Yb.m1]
  rw [ZV (show ¬ (20 : Int) < (op.length : Int) by omega)]
  rfl) K
 rw [hst, ZaP hlen2]) K
theorem Ya9 {f : Nat → Int} {l : List Nat} {i : Nat} (h : i < l.length) : ((l.take (i + 1)).map f).sum = ((l.take i).map f).sum + f l[i] := by
 rw [List.take_add_one, List.getElem?_eq_getElem h]
 simp only [Option.toList, List.map_append, List.sum_append, List.map_cons, List.map_nil, List.sum_cons, List.sum_nil]
 omega
theorem YaX (i : Nat) (g : Nat → C) : Yak i g ++ [[g i]] = Yak (i + 1) g := by simp [Yak, List.range_succ]
theorem flat_upN (l : List Nat) : flatC (upN l) = true := by simp [flatC, upN, scalC, Zau]
theorem bsD_le {w : Nat → Int} {n s : Int} {i : Nat} (hn : 0 ≤ n) (hn2 : n ≤ 10000) (hs : 0 < s) (hw : 0 ≤ w i ∧ w i ≤ 1000) : 0 ≤ n * w i ∧ n * w i ≤ 10000000 ∧ 0 ≤ bsD w n s i ∧ bsD w n s i ≤ 10000000 := by
 have h0 : 0 ≤ n * w i := Int.mul_nonneg hn hw.1
 have h1 : n * w i ≤ 10000000 := by have := Int.mul_le_mul hn2 hw.2 hw.1 (by decide : (0 : Int) ≤ 10000); omega
 refine ⟨h0, h1, Int.tdiv_nonneg h0 (by omega), ?_⟩
 unfold bsD
 rw [Int.tdiv_eq_ediv_of_nonneg h0]
 have := Int.ediv_le_self s h0
 omega
theorem getD_at {l : List Nat} {p : Nat} (h : p < l.length) : l.getD p 0 = l[p] := by simp [List.getD, h]
theorem map_getD (l : List Nat) : (List.range l.length).map (fun p => l.getD p 0) = l := by
 refine List.ext_getElem (by simp) fun j h1 h2 => ?_
 simp [List.getD, h2]
def chP (w : Nat → Int) (n s : Int) (op : List Nat) : List Nat := (YaI (restQ n w op s) (List.range op.length)).take (lfD w n s op).toNat
theorem chP_chD {w : Nat → Int} {n s : Int} {op : List Nat} : chD w n s op = (chP w n s op).map fun p => op.getD p 0 := by
 unfold chD chP
 conv => lhs; rw [← map_getD op, isortD_map]
 rw [map_getD, ← List.map_take]
 rfl
theorem chP_mem {w : Nat → Int} {n s : Int} {op : List Nat} (hnd : op.Nodup) {p : Nat} (hp : p < op.length) : op[p] ∈ chD w n s op ↔ p ∈ chP w n s op := by
 rw [chP_chD, List.mem_map]
 have hlt : ∀ q ∈ chP w n s op, q < op.length := fun q hq => List.mem_range.mp (((YaP (r := restQ n w op s) List.pairwise_lt_range).2.1 q).mp (List.mem_of_mem_take hq))
 constructor
 ·rintro ⟨q, hq, e⟩
  have hql := hlt q hq
  rw [getD_at hql] at e
  have := (List.getElem_inj (h₀ := hql) (h₁ := hp) hnd).mp e
  exact this ▸ hq
 ·exact fun h => ⟨p, h, getD_at hp⟩
set_option maxRecDepth 100000 in
theorem quotas_fv {n : Int} {a1 : LD} {op : List Nat} {w : Nat → Int} (hwd : w = fun i : Nat => gI a1 (i : Int) 0) (g1 : Zi RI lim a1) (hp : op.Pairwise (· < ·)) (hop : ∀ i ∈ op, i < a1.length) (hw : ∀ i, i < a1.length → 0 ≤ w i ∧ w i ≤ 1000) (hw0 : ∀ i ∈ op, 0 < w i) (hn : 0 < n) (hn2 : n ≤ 10000) (h0 : op ≠ []) (hl : op.length < 20) {k : Nat} (hk : Z3 k) {β : Type} (K : LC → Option β) :
  Yq.f k n a1 (ofN op) K = K (Yak op.length (cI fun p => xD w n (smL w op) op (op.getD p 0))) := Yq.f_of (by
 have hb : big = 2 ^ 64 := rfl
 have hmost : ZN = 2 ^ 36 := rfl
 have hlen := g1.1
 have hkk : op.length < k := by unfold Z3 at hk; omega
 have hl0 : 0 < op.length := List.length_pos_iff.mpr h0
 obtain ⟨f1, f2, f3, f4⟩ := lfD_bound (Int.le_of_lt hn) hw0 h0
 have hsum : ∀ l : List Nat, (∀ i ∈ l, i ∈ op) → l.length < 20 → 0 ≤ (l.map w).sum ∧ (l.map w).sum ≤ 20000 := fun l h h2 => by
  have := sum_le (f := w) (b := 1000) (l := l) fun i hi => hw i (hop i (h i hi))
  omega
 have hbs : ∀ i, i < a1.length → 0 ≤ n * w i ∧ n * w i ≤ 10000000 ∧ 0 ≤ bsD w n (smL w op) i ∧ bsD w n (smL w op) i ≤ 10000000 := fun i hi => bsD_le (Int.le_of_lt hn) hn2 f1 (hw i hi)
 have hsumb : ∀ l : List Nat, (∀ i ∈ l, i ∈ op) → l.length < 20 → 0 ≤ (l.map (bsD w n (smL w op))).sum ∧ (l.map (bsD w n (smL w op))).sum ≤ 200000000 := fun l h h2 => by
  have := sum_le (f := bsD w n (smL w op)) (b := 10000000) (l := l) fun i hi => (hbs i (hop i (h i hi))).2.2
  omega
 have hgw : ∀ i : Nat, gI a1 (i : Int) 0 = w i := fun i => by rw [hwd]
 unfold Yq.t Yq.g
 refine iter_seq (f := fun i => ((i : Int), ((op.take i).map w).sum)) (n := op.length) hkk (fun L i hi => ?_) (fun L => ?_)
 ·have hi2 := hop op[i] (List.getElem_mem hi)
  simp only [Yq.l0, Yq.m0, atR, rdQ, Q.ask, ofN_len]
  rw [ZQ (show (i : Int) < (op.length : Int) by omega)]
  simp only [cond_true, ofN_at hi, ZY, Zad, Z6]
  simp (disch := omega) only [RI.row g1, ZY, Zad, Z6, hgw]
  have q1 := hsum (op.take i) (fun z hz => List.mem_of_mem_take hz) (by rw [List.length_take]; omega)
  have q2 := hw op[i] hi2
  rw [Zj (by omega) (by omega), Zj (by omega) (by omega), Ya9 hi]
  rfl
 simp only [Yq.l0, Yq.m0, atR, rdQ, Q.ask, ofN_len]
 rw [ZV (show ¬ (op.length : Int) < (op.length : Int) by omega)]
 simp only [cond_false, List.take_length]
 change Zo _ k _ = _
 rw [show (op.map w).sum = smL w op from rfl]
 generalize hs : smL w op = s at *
 rw [show ((n, 0, []) : Int × Int × LC) = (n - ((op.take 0).map (bsD w n s)).sum, ((0 : Nat) : Int), Yak 0 (cI fun p => bsD w n s (op.getD p 0))) from by simp [Yak]]
 refine iter_seq (f := fun i => (n - ((op.take i).map (bsD w n s)).sum, (i : Int), Yak i (cI fun p => bsD w n s (op.getD p 0)))) (n := op.length) hkk (fun L i hi => ?_) (fun L => ?_)
 ·have hi2 := hop op[i] (List.getElem_mem hi)
  obtain ⟨m1, m2, m3, m4⟩ := hbs op[i] hi2
  simp only [Yq.l1, Yq.m1, atR, rdQ, Q.ask]
  rw [ZQ (show (i : Int) < (op.length : Int) by omega)]
  simp only [cond_true, ofN_at hi, ZY, Zad, Z6]
  simp (disch := omega) only [RI.row g1, ZY, Zad, Z6, hgw]
  have q1 := hsumb (op.take i) (fun z hz => List.mem_of_mem_take hz) (by rw [List.length_take]; omega)
  have e : Int.tdiv (n * w op[i]) s = bsD w n s op[i] := rfl
  rw [ZaP (show s ≠ 0 by omega), ZaP (by simp only [Yab, List.length_cons, List.length_nil]; omega), ZaP (show s ≠ 0 by omega)]
  rw [Zj (x := n * w op[i]) (by omega) (by omega), e, Zj (x := bsD w n s op[i]) (by omega) (by omega), Zj (x := (i : Int) + 1) (by omega) (by omega), Zj (by omega) (by omega), Ya9 hi]
  have e2 : Yak (i + 1) (cI fun p => bsD w n s (op.getD p 0)) = Yak i (cI fun p => bsD w n s (op.getD p 0)) ++ [[.d (.int .i64 (bsD w n s op[i]))]] := by
   rw [← YaX]
   show _ ++ [[C.d (.int .i64 (bsD w n s (op.getD i 0)))]] = _
   rw [getD_at hi]
  rw [e2, Int.sub_sub]
  rfl
 simp only [Yq.l1, Yq.m1, atR, rdQ, Q.ask]
 rw [ZV (show ¬ (op.length : Int) < (op.length : Int) by omega)]
 simp only [cond_false, List.take_length, ofN_len]
 rw [show n - (op.map (bsD w n s)).sum = lfD w n s op from rfl]
 refine iter_seq (f := fun i => ((i : Int), upN (List.range i))) (n := op.length) hkk (fun L i hi => ?_) (fun L => ?_)
 ·simp only [Yq.l2, Yq.m2]
  rw [ZQ (show (i : Int) < (op.length : Int) by omega)]
  simp only [cond_true]
  rw [ZaP (by simp only [YaS, List.length_range, List.length_cons, List.length_nil]; omega), Zj (by omega) (by omega), show [[C.d (.int .i64 (i : Int))]] = upN [i] from rfl, upN_app, ← List.range_succ]
  rfl
 simp only [Yq.l2, Yq.m2]
 rw [ZV (show ¬ (op.length : Int) < (op.length : Int) by omega)]
 simp only [cond_false]
 have hsort : ∀ (K : LC → Option LC), YB.f k (upN (List.range op.length)) n a1 (ofN op) s K = K (upN (YaI (restQ n w op s) (List.range op.length))) := fun K => sortQ_fv hwd g1 hop hw (Int.le_of_lt hn) hn2 f1 hl0 hl hk K
 rw [hsort]
 obtain ⟨s1, s2, s3⟩ := YaP (r := restQ n w op s) (l := List.range op.length) List.pairwise_lt_range
 rw [List.length_range] at s3
 have hnd0 : op.Nodup := hp.imp fun h e => by subst e; omega
 have hnd : (YaI (restQ n w op s) (List.range op.length)).Nodup := s1.imp fun {i j} h e => by subst e; rcases h with h | h <;> omega
 have hch : ∀ p, p < op.length → (op.getD p 0 ∈ chD w n s op ↔ p ∈ chP w n s op) := fun p hp => by rw [getD_at hp]; exact chP_mem hnd0 hp
 have htk : (upN (YaI (restQ n w op s) (List.range op.length))).take (lfD w n s op).toNat = upN (chP w n s op) := by unfold upN chP; rw [List.map_take]
 have hP1 : (chP w n s op).length = (lfD w n s op).toNat := by unfold chP; rw [List.length_take, s3]; omega
 have hP2 : ∀ p ∈ chP w n s op, p < op.length := fun p h => List.mem_range.mp ((s2 p).mp (List.mem_of_mem_take h))
 have hP3 : (chP w n s op).Nodup := hnd.sublist (List.take_sublist _ _)
 simp only [YaS, s3, List.length_range]
 rw [ZaP ⟨trivial, flat_upN _⟩, ZaP ⟨f2, by omega⟩, htk]
 generalize hCe : chP w n s op = Z at *
 have hstart : Yak op.length (cI fun p => bsD w n s (op.getD p 0)) = Yak op.length (cI fun p => bsD w n s (op.getD p 0) + if p ∈ Z.take 0 then 1 else 0) := YaF fun j hj => by simp
 rw [hstart, YaS]
 refine iter_seq (f := fun i => ((i : Int), Yak op.length (cI fun p => bsD w n s (op.getD p 0) + if p ∈ Z.take i then 1 else 0))) (n := Z.length) (by omega) (fun L i hi => ?_) (fun L => ?_)
 ·have hci := hP2 Z[i] (List.getElem_mem hi)
  have hbi := hbs op[Z[i]] (hop _ (List.getElem_mem hci))
  simp only [Yq.l3]
  rw [ZQ (show (i : Int) < (Z.length : Int) by omega)]
  simp only [cond_true]
  rw [ZaP ⟨by omega, by rw [YaS]; omega⟩, Int.toNat_natCast, upN_at hi]
  simp only [List.drop_zero, ZY, cD_at, Zad]
  rw [ZaP ⟨by omega, by rw [Yab]; omega⟩, Int.toNat_natCast, YaH hci]
  simp only [List.drop_zero, ZY, cD_at, Zad]
  have hn1 : Z[i] ∉ Z.take i := fun h => by
   obtain ⟨j, hj, e⟩ := List.getElem_of_mem h
   rw [List.getElem_take] at e
   rw [List.length_take] at hj
   have := (List.getElem_inj (h₀ := by omega) (h₁ := hi) hP3).mp e
   omega
  rw [ZaP ⟨by omega, by rw [Yab]; omega⟩, ZaP (by rw [Yab]; exact hci), if_neg hn1, getD_at hci, Zj (x := (i : Int) + 1) (by omega) (by omega), Zj (by omega) (by omega), YaV hci]
  congr 2
  refine YaF fun j hj => ?_
  have hm : j ∈ Z.take (i + 1) ↔ j ∈ Z.take i ∨ j = Z[i] := by rw [List.take_add_one, List.getElem?_eq_getElem hi]; simp only [Option.toList, List.mem_append, List.mem_singleton]
  by_cases hjc : j = Z[i]
  ·subst hjc
   rw [if_pos rfl]
   show C.d (.int .i64 (bsD w n s op[Z[i]] + 0 + 1)) = .d (.int .i64 (bsD w n s (op.getD Z[i] 0) + if Z[i] ∈ Z.take (i + 1) then 1 else 0))
   rw [if_pos (hm.mpr (Or.inr rfl)), getD_at hci, Int.add_zero]
  ·rw [if_neg hjc]
   show C.d (.int .i64 (bsD w n s (op.getD j 0) + if j ∈ Z.take i then 1 else 0)) = .d (.int .i64 (bsD w n s (op.getD j 0) + if j ∈ Z.take (i + 1) then 1 else 0))
   by_cases hm1 : j ∈ Z.take i
   ·rw [if_pos hm1, if_pos (hm.mpr (Or.inl hm1))]
   ·rw [if_neg hm1, if_neg fun h => (hm.mp h).elim hm1 hjc]
 ·simp only [Yq.l3]
  rw [ZV (show ¬ (Z.length : Int) < (Z.length : Int) by omega)]
  simp only [cond_false, List.take_length]
  congr 1
  refine YaF fun p hp' => ?_
  show C.d (.int .i64 (bsD w n s (op.getD p 0) + if p ∈ Z then 1 else 0)) = .d (.int .i64 (bsD w n s (op.getD p 0) + if op.getD p 0 ∈ chD w n s op then 1 else 0))
  simp only [hch p hp']) K
theorem Yt.f_of {β : Type} {k a0 a1 a2 a3 z0} (h : Yt.t k a0 a1 a2 a3 = some z0) (K : LC → Option β) : Yt.f k a0 a1 a2 a3 K = K z0 := by unfold Yt.f; rw [h]; rfl
def RB (B : Nat) (r : List D) : Prop := ∃ (c0 : Bool), r = [.bool c0] ∧ True
theorem RB.open {B : Nat} {r : List D} (h : RB B r) : ∃ (c0 : Bool), r = [.bool c0] ∧ True := h
theorem RB.mono {B B' : Nat} (hb : B ≤ B') {r : List D} (h : RB B r) : RB B' r := by
 obtain ⟨c0, rfl, _⟩ := h
 exact ⟨_, rfl, trivial⟩
theorem RB.wide {xs : LD} (h : Zi RB lim xs) : Zi RB 2097152 xs := ⟨Nat.le_trans h.1 (by decide), fun r hr => (h.2 r hr).mono (by decide)⟩
theorem RB.len {B : Nat} {r : List D} (h : RB B r) : r.length = 1 := by
 obtain ⟨c0, rfl, _⟩ := h.open
 rfl
theorem RB.flat {B : Nat} {xs : LD} (h : ∀ r ∈ xs, RB B r) : ZaZ 1 xs := fun r hr => by
 obtain ⟨c0, rfl, _⟩ := (h r hr).open
 exact ⟨rfl, by simp [Zau]⟩
theorem RB.wt {B : Nat} {xs : LD} (h : ∀ r ∈ xs, RB B r) : Zp xs = 1 * xs.length := wt_flat (R := RB B) (fun r h => by obtain ⟨c0, rfl, _⟩ := h; rfl) xs h
theorem RB.deep {B : Nat} {xs : LD} (h : ∀ r ∈ xs, RB B r) : Zb xs = xs.map (·.map C.d) := deep_flat (R := RB B) (fun r h => by obtain ⟨c0, rfl, _⟩ := h; rfl) xs h
theorem RB.gets {B : Nat} {xs : LD} (h : ∀ r ∈ xs, RB B r) {v : Int} (h0 : 0 ≤ v) (h1 : v < xs.length) : gR xs v = [.bool (gB xs v 0)] ∧ True := by
 obtain ⟨c0, e, _⟩ := (h (gR xs v) (gR_mem h0 h1)).open
 unfold gB
 rw [e]
 exact ⟨rfl, trivial⟩
theorem RB.rows {B : Nat} {xs : LD} (h : ∀ r ∈ xs, RB B r) {v : Int} (h0 : 0 ≤ v) (h1 : v < xs.length) {β : Type} (F : List D → Option β) : Zbw xs v F = F [.bool (gB xs v 0)] := by
 rw [← (RB.gets h h0 h1).1]
 exact Zbp h0 h1 F
theorem RB.get {B : Nat} {xs : LD} (h : Zi RB B xs) {v : Int} (h0 : 0 ≤ v) (h1 : v < xs.length) : gR xs v = [.bool (gB xs v 0)] ∧ True := RB.gets h.2 h0 h1
theorem RB.row {B : Nat} {xs : LD} (h : Zi RB B xs) {v : Int} (h0 : 0 ≤ v) (h1 : v < xs.length) {β : Type} (F : List D → Option β) : Zbw xs v F = F [.bool (gB xs v 0)] := RB.rows h.2 h0 h1 F
end Go.Proofs.Ytpgplbalenfgfaa
