/- Printed,and by hand: the functions that FnExactCatchUp reaches come to their end; the program's answer as the reference's. -/
import Derived.Test.YtlobhlnahhjpjaaGreatXECatchUp1
import Derived.KernelRfl
set_option linter.unusedVariables false
set_option linter.unusedSimpArgs false
namespace Go.Proofs.YtlobhlnahhjpjaaGreat
open Go Go.T Go.Proofs
theorem iter_ex {V β : Type} {b : (V → Option β) → V → Option β} (m : V → Nat) (Inv : V → Prop) (Q : Option β → Prop) (step : ∀ v,Inv v → ∀ L,(∀ v',Inv v' → m v' < m v → Q (L v')) → Q (b L v)) : ∀ {k : Nat} {v : V},Inv v → m v < k → Q (ZA b k v)
 | 0,v,_,h => absurd h (Nat.not_lt_zero _)
 | k + 1,v,hv,h => step v hv (ZA b k) fun v' hv' hlt => iter_ex m Inv Q step hv' (by omega)
theorem mem_modify {α : Type} {P : α → Prop} {f : α → α} (hf : ∀ x,P x → P (f x)) : ∀ {xs : List α} {j : Nat},(∀ x ∈ xs,P x) → ∀ x ∈ xs.modify j f,P x
 | [],j,h,x,hx => by cases j <;> cases hx
 | y :: xs,0,h,x,hx => by
  simp only [List.modify_zero_cons] at hx
  rcases List.mem_cons.mp hx with rfl | hx
  ·exact hf y (h y (by simp))
  ·exact h x (by simp [hx])
 | y :: xs,j + 1,h,x,hx => by
  simp only [List.modify_succ_cons] at hx
  rcases List.mem_cons.mp hx with rfl | hx
  ·exact h x (by simp)
  ·exact mem_modify hf (fun z hz => h z (by simp [hz])) x hx
theorem mem_snoc {α : Type} {P : α → Prop} {xs : List α} {y : α} (h : ∀ x ∈ xs,P x) (hy : P y) : ∀ x ∈ xs ++ [y],P x := by
 intro x hx
 rcases List.mem_append.mp hx with q | q
 ·exact h x q
 ·simp at q; subst q; exact hy
theorem wf_of {x : Int} (h0 : -9223372036854775808 ≤ x) (h1 : x ≤ 9223372036854775807) : (Lit.int .i64 x).wf = true := by
 simp [Lit.wf,IntKind.min,IntKind.max,IntKind.signed,IntKind.bits]
 omega
theorem big_lv1 {n : Nat} (h : n ≤ 4398046511104) : big + n ≤ lv 1 := by
 have hb : big = 2 ^ 64 := rfl
 have : lv 1 = 2 ^ 65 := rfl
 omega
theorem ZaM (n : Int) : n = 1 ∨ n = 2 ∨ n = 3 ∨ n = 4 ∨ n = 5 ∨ ((n == 1) = false ∧ (n == 2) = false ∧ (n == 3) = false ∧ (n == 4) = false ∧ (n == 5) = false) := by
 simp only [beq_eq_false_iff_ne]
 omega
theorem delR_deep {pr : List D → Option Bool} {q : List D → Bool} : ∀ {e : LD},(∀ r ∈ e,pr r = some (q r)) → delR pr (Zc e) = some (Zc (e.filter fun r => !q r))
 | [],_ => rfl
 | r :: e,h => by
  simp only [Zc,delR,imm_deepCells,h r (by simp),delR_deep (e := e) fun x hx => h x (by simp [hx])]
  rw [List.filter_cons]
  cases q r <;> rfl
theorem delK_deep {ix : LD → Option Int} {pr : List D → Option Bool} {q : List D → Bool} {d : LD} (hl : d.length ≤ 1048576) (hix : ix d = some (ZbV (fun i => q (gR d (i : Int))) d.length)) (h : ∀ r ∈ d,pr r = some (q r)) : delK ix pr (Zc d) = some (Zc (d.filter fun r => !q r)) := by
 unfold delK
 rw [ZK,hix]
 have hg : ∀ i (hi : i < d.length),gR d (i : Int) = d[i] := fun i hi => by
  have := gR_at (xs := d) (v := (i : Int)) (by omega) (by omega)
  rw [Int.toNat_natCast,List.getElem?_eq_getElem hi] at this
  injection this with this
  exact this.symm
 by_cases hz : ZbV (fun i => q (gR d (i : Int))) d.length < 0
 ·obtain ⟨h1,h2⟩ := findI_none hz
  simp only [h1,if_true]
  congr 2
  symm
  rw [List.filter_eq_self]
  intro x hx
  obtain ⟨i,hi,rfl⟩ := List.mem_iff_getElem.mp hx
  have := h2 i hi
  rw [hg i hi] at this
  rw [this]; rfl
 ·obtain ⟨h1,h2,h3,h4⟩ := findI_some (p := fun i => q (gR d (i : Int))) (n := d.length) (by omega)
  generalize ZbV (fun i => q (gR d (i : Int))) d.length = z at *
  simp only [show ¬ z = -1 by omega,if_false]
  rw [ZH ⟨by omega,by rw [ZS]; omega,by rw [ZS]; omega⟩]
  have ht : ∀ m,m ≤ d.length → (Zc d).take m = Zc (d.take m) ∧ (Zc d).drop m = Zc (d.drop m) := fun m hm => by
   have e : Zc d = Zc (d.take m) ++ Zc (d.drop m) := by rw [← Zbb,List.take_append_drop]
   have l : (Zc (d.take m)).length = m := by rw [ZS,List.length_take]; omega
   rw [e]
   exact ⟨List.take_left' l,List.drop_left' l⟩
  rw [(ht z.toNat (by omega)).1,(ht (z.toNat + 1) (by omega)).2,delR_deep fun r hr => h r (List.mem_of_mem_drop hr)]
  simp only []
  rw [← Zbb]
  congr 2
  have h5 : d = d.take z.toNat ++ (d[z.toNat] :: d.drop (z.toNat + 1)) := by rw [List.getElem_cons_drop,List.take_append_drop]
  conv => rhs; rw [h5]
  rw [List.filter_append,List.filter_cons]
  have h7 : q d[z.toNat] = true := by have := h2; rwa [hg _ h1] at this
  rw [h7]
  simp only [Bool.not_true,Bool.false_eq_true,if_false]
  congr 1
  symm
  rw [List.filter_eq_self]
  intro x hx
  obtain ⟨i,hi,rfl⟩ := List.mem_iff_getElem.mp hx
  rw [List.length_take] at hi
  have := h4 i (by omega)
  rw [hg i (by omega)] at this
  rw [List.getElem_take,this]; rfl
def insD (r : Nat → Int) (x : Nat) : List Nat → List Nat
 | [] => [x]
 | y :: l => if r y < r x then x :: y :: l else y :: insD r x l
def Ya8 (r : Nat → Int) (l : List Nat) : List Nat := l.foldl (fun a x => insD r x a) []
def AheadD (r : Nat → Int) (i j : Nat) : Prop := r j < r i ∨ (r i = r j ∧ i < j)
theorem insD_mem {r : Nat → Int} {x z : Nat} : ∀ {l : List Nat},z ∈ insD r x l ↔ z = x ∨ z ∈ l
 | [] => by simp [insD]
 | y :: l => by
  unfold insD
  split
  ·simp
  ·simp only [List.mem_cons,insD_mem (l := l)]
   constructor
   ·rintro (h | h | h) <;> simp [h]
   ·rintro (h | h | h) <;> simp [h]
theorem insD_len {r : Nat → Int} {x : Nat} : ∀ {l : List Nat},(insD r x l).length = l.length + 1
 | [] => rfl
 | y :: l => by
  unfold insD
  split
  ·simp
  ·simp [insD_len (l := l)]
theorem insD_pair {r : Nat → Int} {x : Nat} : ∀ {l : List Nat},l.Pairwise (AheadD r) → (∀ y ∈ l,y < x) → (insD r x l).Pairwise (AheadD r)
 | [],_,_ => by simp [insD]
 | y :: l,h,hx => by
  obtain ⟨h1,h2⟩ := List.pairwise_cons.mp h
  unfold insD
  split
  ·rename_i hr
   refine List.pairwise_cons.mpr ⟨fun z hz => ?_,h⟩
   rcases List.mem_cons.mp hz with rfl | hz
   ·exact .inl hr
   ·rcases h1 z hz with q | q
    ·exact .inl (by omega)
    ·exact .inl (by omega)
  ·rename_i hr
   refine List.pairwise_cons.mpr ⟨fun z hz => ?_,insD_pair h2 fun z hz => hx z (by simp [hz])⟩
   rcases insD_mem.mp hz with rfl | hz
   ·have := hx y (by simp)
    by_cases he : r y = r z
    ·exact .inr ⟨he,this⟩
    ·exact .inl (by omega)
   ·exact h1 z hz
theorem foldD {r : Nat → Int} : ∀ (l a : List Nat),a.Pairwise (AheadD r) → l.Pairwise (· < ·) → (∀ y ∈ a,∀ x ∈ l,y < x) →
  (l.foldl (fun a x => insD r x a) a).Pairwise (AheadD r) ∧ (∀ z,z ∈ l.foldl (fun a x => insD r x a) a ↔ z ∈ a ∨ z ∈ l) ∧ (l.foldl (fun a x => insD r x a) a).length = a.length + l.length
 | [],a,h,_,_ => ⟨h,by simp,by simp⟩
 | x :: l,a,h,hl,hx => by
  obtain ⟨h1,h2⟩ := List.pairwise_cons.mp hl
  obtain ⟨q1,q2,q3⟩ := foldD l (insD r x a) (insD_pair h fun y hy => hx y hy x (by simp)) h2 (fun y hy z hz => by
   rcases insD_mem.mp hy with rfl | hy
   ·exact h1 z hz
   ·exact hx y hy z (by simp [hz]))
  refine ⟨q1,fun z => ?_,by rw [List.foldl_cons,q3,insD_len,List.length_cons]; omega⟩
  rw [List.foldl_cons,q2,insD_mem,List.mem_cons]
  constructor
  ·rintro ((h | h) | h) <;> simp [h]
  ·rintro (h | h | h) <;> simp [h]
theorem isortD_facts {r : Nat → Int} {l : List Nat} (hl : l.Pairwise (· < ·)) : (Ya8 r l).Pairwise (AheadD r) ∧ (∀ z,z ∈ Ya8 r l ↔ z ∈ l) ∧ (Ya8 r l).length = l.length := by
 obtain ⟨h1,h2,h3⟩ := foldD (r := r) l [] (by simp) hl (by simp)
 exact ⟨h1,fun z => by rw [Ya8,h2]; simp,by rw [Ya8,h3]; simp⟩
theorem insD_map {r : Nat → Int} {f : Nat → Nat} {x : Nat} : ∀ {l : List Nat},insD r (f x) (l.map f) = (insD (fun i => r (f i)) x l).map f
 | [] => rfl
 | y :: l => by
  simp only [List.map_cons,insD]
  split
  ·rfl
  ·rw [insD_map (l := l)]; rfl
theorem isortD_map {r : Nat → Int} {f : Nat → Nat} {l : List Nat} : Ya8 r (l.map f) = (Ya8 (fun i => r (f i)) l).map f := by
 have : ∀ (l a : List Nat),(l.map f).foldl (fun a x => insD r x a) (a.map f) = (l.foldl (fun a x => insD (fun i => r (f i)) x a) a).map f := by
  intro l
  induction l with
  | nil => intro a; rfl
  | cons x l ih => intro a; simp only [List.map_cons,List.foldl_cons,insD_map,ih]
 exact this l []
def bestD (r : Nat → Int) : List Nat → Option Nat → Option Nat
 | [],b => b
 | i :: l,none => bestD r l (some i)
 | i :: l,some b => if r b < r i then bestD r l (some i) else bestD r l (some b)
theorem bestD_some {r : Nat → Int} : ∀ {l : List Nat} {b : Nat},(∀ i ∈ l,b < i) → l.Pairwise (· < ·) → ∃ c,bestD r l (some b) = some c ∧ (c = b ∨ c ∈ l) ∧ (c = b ∨ AheadD r c b) ∧ ∀ i ∈ l,i = c ∨ AheadD r c i
 | [],b,_,_ => ⟨b,rfl,.inl rfl,.inl rfl,by simp⟩
 | i :: l,b,h,hl => by
  obtain ⟨h1,h2⟩ := List.pairwise_cons.mp hl
  unfold bestD
  split
  ·rename_i hr
   obtain ⟨c,q1,q2,q3,q4⟩ := bestD_some (r := r) (b := i) h1 h2
   refine ⟨c,q1,.inr (by rcases q2 with h | h <;> simp [h]),.inr ?_,fun j hj => ?_⟩
   ·rcases q3 with rfl | q3
    ·exact .inl hr
    ·rcases q3 with q | q
     ·exact .inl (by omega)
     ·exact .inl (by omega)
   ·rcases List.mem_cons.mp hj with rfl | hj
    ·rcases q3 with rfl | q3
     ·exact .inl rfl
     ·exact .inr q3
    ·exact q4 j hj
  ·rename_i hr
   have hb := h i (by simp)
   obtain ⟨c,q1,q2,q3,q4⟩ := bestD_some (r := r) (b := b) (fun j hj => h j (by simp [hj])) h2
   refine ⟨c,q1,by rcases q2 with h | h <;> simp [h],q3,fun j hj => ?_⟩
   rcases List.mem_cons.mp hj with rfl | hj
   ·have hbi : AheadD r b j := by
     by_cases he : r b = r j
     ·exact .inr ⟨he,hb⟩
     ·exact .inl (by omega)
    rcases q3 with rfl | q3
    ·exact .inr hbi
    ·right
     rcases q3 with q | q <;> rcases hbi with p | p
     ·exact .inl (by omega)
     ·exact .inl (by omega)
     ·exact .inl (by omega)
     ·exact .inr ⟨by omega,by omega⟩
   ·exact q4 j hj
theorem best_next {r : Nat → Int} {l : List Nat} (hl : l.Pairwise (· < ·)) (h0 : ∀ i ∈ l,0 ≤ r i) {t : Nat} (ht : t < l.length) {r' : Nat → Int}
  (hr : ∀ i ∈ l,r' i = if i ∈ (Ya8 r l).take t then -1 else r i) : bestD r' l none = (Ya8 r l)[t]? := by
 obtain ⟨s1,s2,s3⟩ := isortD_facts (r := r) hl
 have hT : t < (Ya8 r l).length := by omega
 generalize Ya8 r l = S at s1 s2 s3 hr hT ⊢
 rw [List.getElem?_eq_getElem hT]
 cases l with
 | nil => simp at ht
 | cons a l =>
  obtain ⟨h1,h2⟩ := List.pairwise_cons.mp hl
  obtain ⟨c,q1,q2,q3,q4⟩ := bestD_some (r := r') h1 h2
  unfold bestD
  rw [q1]
  congr 1
  have hnd : S.Nodup := s1.imp fun {i j} h e => by subst e; rcases h with h | h <;> omega
  have hSt : S[t] ∉ S.take t := fun h => by
   obtain ⟨i,hi,he⟩ := List.mem_take_iff_getElem.mp h
   have := (List.getElem_inj hnd).mp he
   omega
  have hm : S[t] ∈ a :: l := (s2 _).mp (List.getElem_mem hT)
  have hrt : r' S[t] = r S[t] := by rw [hr _ hm,if_neg hSt]
  have h0t := h0 _ hm
  -- c is in the list,and nothing is ahead of it
  have hcm : c ∈ a :: l := by rcases q2 with h | h <;> simp [h]
  have hall : ∀ i ∈ a :: l,i = c ∨ AheadD r' c i := fun i hi => by
   rcases List.mem_cons.mp hi with rfl | hi
   ·rcases q3 with rfl | q
    ·exact .inl rfl
    ·exact .inr q
   ·exact q4 i hi
  rcases hall _ hm with h | h
  ·exact h.symm
  ·exfalso
   have hcn : c ∉ S.take t := fun hc => by
    have := hr c hcm
    rw [if_pos hc] at this
    rcases h with h | h <;> omega
   have hcr : r' c = r c := by rw [hr c hcm,if_neg hcn]
   obtain ⟨j,hj,rfl⟩ := List.mem_iff_getElem.mp ((s2 c).mpr hcm)
   have hjt : t < j := by
    rcases Nat.lt_trichotomy j t with q | q | q
    ·exact absurd (List.mem_take_iff_getElem.mpr ⟨j,by omega,rfl⟩) hcn
    ·subst q
     rcases h with h | h <;> omega
    ·exact q
   have := List.pairwise_iff_getElem.mp s1 t j hT hj hjt
   rw [AheadD,hrt,hcr] at h
   rcases this with p | p <;> rcases h with q | q <;> omega
section
variable (w c o : Nat → Int) (L : Nat) (n : Int)
def opB (i : Nat) : Bool := decide (0 < w i) && decide (o i < c i)
def opL : List Nat := (List.range L).filter (opB w c o)
def smL (l : List Nat) : Int := (l.map w).sum
abbrev smD : Int := smL w (opL w c o L)
def bsD (s : Int) (i : Nat) : Int := Int.tdiv (n * w i) s
def rsD (s : Int) (i : Nat) : Int := Int.tmod (n * w i) s
def lfD (s : Int) (l : List Nat) : Int := n - (l.map (bsD w n s)).sum
def chD (s : Int) (l : List Nat) : List Nat := (Ya8 (rsD w n s) l).take (lfD w n s l).toNat
def xD (s : Int) (l : List Nat) (i : Nat) : Int := bsD w n s i + if i ∈ chD w n s l then 1 else 0
def clD (s : Int) (l : List Nat) (i : Nat) : Int := if c i - o i < xD w n s l i then c i - o i else xD w n s l i
end
theorem sum_le {f : Nat → Int} {b : Int} : ∀ {l : List Nat},(∀ i ∈ l,0 ≤ f i ∧ f i ≤ b) → 0 ≤ (l.map f).sum ∧ (l.map f).sum ≤ b * l.length
 | [],_ => by simp
 | x :: l,h => by
  obtain ⟨q1,q2⟩ := sum_le (f := f) (b := b) (l := l) fun i hi => h i (by simp [hi])
  obtain ⟨p1,p2⟩ := h x (by simp)
  simp only [List.map_cons,List.sum_cons,List.length_cons]
  have : b * ((l.length + 1 : Nat) : Int) = b * (l.length : Int) + b := by rw [show ((l.length + 1 : Nat) : Int) = (l.length : Int) + 1 by omega,Int.mul_add,Int.mul_one]
  omega
theorem sum_split {w : Nat → Int} {n s : Int} (hs : 0 < s) (hn : 0 ≤ n) : ∀ {l : List Nat},(∀ i ∈ l,0 ≤ w i) → n * (l.map w).sum = s * (l.map (bsD w n s)).sum + (l.map (rsD w n s)).sum
 | [],_ => by simp
 | x :: l,h => by
  have ih := sum_split (w := w) hs hn (l := l) fun i hi => h i (by simp [hi])
  have h1 : s * bsD w n s x + rsD w n s x = n * w x := Int.mul_tdiv_add_tmod (n * w x) s
  simp only [List.map_cons,List.sum_cons]
  rw [Int.mul_add,Int.mul_add,ih,← h1]
  omega
theorem rsD_bound {w : Nat → Int} {n s : Int} (hs : 0 < s) (hn : 0 ≤ n) {i : Nat} (h : 0 ≤ w i) : 0 ≤ rsD w n s i ∧ rsD w n s i < s ∧ 0 ≤ bsD w n s i := by
 have h0 : 0 ≤ n * w i := Int.mul_nonneg hn h
 exact ⟨Int.tmod_nonneg _ h0,Int.tmod_lt_of_pos _ hs,Int.tdiv_nonneg h0 (by omega)⟩
theorem lfD_bound {w : Nat → Int} {n : Int} {l : List Nat} (hn : 0 ≤ n) (hw : ∀ i ∈ l,0 < w i) (hl : l ≠ []) : 0 < smL w l ∧ 0 ≤ lfD w n (smL w l) l ∧ lfD w n (smL w l) l < l.length ∧ 0 ≤ (l.map (bsD w n (smL w l))).sum := by
 have hs : 0 < smL w l := by
  cases l with
  | nil => exact absurd rfl hl
  | cons x l =>
   unfold smL
   have h1 := hw x (by simp)
   have h2 : 0 ≤ (l.map w).sum := by
    have : ∀ {l : List Nat},(∀ i ∈ l,0 < w i) → 0 ≤ (l.map w).sum := fun {l} => by
     induction l with
     | nil => simp
     | cons y l ih =>
      intro h
      have := h y (by simp)
      have := ih fun i hi => h i (by simp [hi])
      simp only [List.map_cons,List.sum_cons]
      omega
    exact this fun i hi => hw i (by simp [hi])
   simp only [List.map_cons,List.sum_cons]
   omega
 have hsp := sum_split (w := w) (n := n) hs hn (l := l) fun i hi => Int.le_of_lt (hw i hi)
 have hr := sum_le (f := rsD w n (smL w l)) (b := smL w l - 1) (l := l) fun i hi => by
  obtain ⟨p1,p2,_⟩ := rsD_bound (w := w) (n := n) hs hn (i := i) (Int.le_of_lt (hw i hi))
  omega
 change n * smL w l = _ at hsp
 have hb0 : 0 ≤ (l.map (bsD w n (smL w l))).sum := by
  have : ∀ {l' : List Nat} {s : Int},0 < s → (∀ i ∈ l',0 < w i) → 0 ≤ (l'.map (bsD w n s)).sum := fun {l' s} hs => by
   induction l' with
   | nil => simp
   | cons y l ih =>
    intro h
    obtain ⟨_,_,p⟩ := rsD_bound (w := w) (n := n) hs hn (i := y) (Int.le_of_lt (h y (by simp)))
    have := ih fun i hi => h i (by simp [hi])
    simp only [List.map_cons,List.sum_cons]
    omega
  exact this hs hw
 generalize (l.map (rsD w n (smL w l))).sum = R at hsp hr
 have hlf : smL w l * lfD w n (smL w l) l = R := by
  unfold lfD
  rw [Int.mul_sub,Int.mul_comm _ n,hsp]
  omega
 refine ⟨hs,?_,?_,hb0⟩
 ·generalize lfD w n (smL w l) l = f at hlf
  apply Int.not_lt.mp
  intro h
  have := Int.mul_neg_of_pos_of_neg hs h
  omega
 ·generalize lfD w n (smL w l) l = f at hlf
  have h1 : smL w l * f < smL w l * l.length := by
   rw [hlf]
   have : (smL w l - 1) * (l.length : Int) = smL w l * l.length - l.length := by rw [Int.sub_mul,Int.one_mul]
   have h2 : 0 < l.length := List.length_pos_iff.mpr hl
   omega
  exact Int.lt_of_mul_lt_mul_left h1 (Int.le_of_lt hs)
theorem opL_facts {w c o : Nat → Int} {L : Nat} : (opL w c o L).Pairwise (· < ·) ∧ ∀ i,i ∈ opL w c o L ↔ i < L ∧ 0 < w i ∧ o i < c i := by
 refine ⟨List.Pairwise.filter _ List.pairwise_lt_range,fun i => ?_⟩
 simp [opL,opB]
theorem xD_sum {w : Nat → Int} {n : Int} {l : List Nat} (hp : l.Pairwise (· < ·)) (hn : 0 ≤ n) (hw : ∀ i ∈ l,0 < w i) (hl : l ≠ []) : (l.map (xD w n (smL w l) l)).sum = n := by
 obtain ⟨h1,h2,h3,_⟩ := lfD_bound hn hw hl
 generalize hs : smL w l = s at h1 h2 h3
 obtain ⟨s1,s2,s3⟩ := isortD_facts (r := rsD w n s) hp
 have hnd : (chD w n s l).Nodup := by
  have : (Ya8 (rsD w n s) l).Nodup := s1.imp fun {i j} h e => by subst e; rcases h with h | h <;> omega
  exact this.sublist (List.take_sublist _ _)
 have hlen : ((chD w n s l).length : Int) = lfD w n s l := by
  unfold chD
  rw [List.length_take,s3]
  omega
 have hsub : ∀ i ∈ chD w n s l,i ∈ l := fun i hi => (s2 i).mp (List.mem_of_mem_take hi)
 have hcount : ∀ (l : List Nat),l.Pairwise (· < ·) → ∀ (ch : List Nat),ch.Nodup → (∀ i ∈ ch,i ∈ l) → (l.map fun i => if i ∈ ch then (1 : Int) else 0).sum = ch.length := by
  intro l
  induction l with
  | nil =>
   intro _ ch _ h
   cases ch with
   | nil => rfl
   | cons x ch => exact absurd (h x (by simp)) (by simp)
  | cons x l ih =>
   intro hp ch hnd hsub
   obtain ⟨p1,p2⟩ := List.pairwise_cons.mp hp
   simp only [List.map_cons,List.sum_cons]
   have hx : x ∉ l := fun h => by have := p1 x h; omega
   have e : (l.map fun i => if i ∈ ch then (1 : Int) else 0) = l.map fun i => if i ∈ ch.erase x then (1 : Int) else 0 := List.map_congr_left fun i hi => by
    have : i ≠ x := fun h => hx (h ▸ hi)
    simp only [List.mem_erase_of_ne this]
   rw [e,ih p2 (ch.erase x) (hnd.erase x) fun i hi => by
    have hne : i ≠ x := fun h => by subst h; exact (List.Nodup.not_mem_erase hnd) hi
    rcases List.mem_cons.mp (hsub i (List.mem_of_mem_erase hi)) with h | h
    ·exact absurd h hne
    ·exact h]
   by_cases hm : x ∈ ch
   ·rw [if_pos hm,List.length_erase_of_mem hm]
    have := List.length_pos_of_mem hm
    omega
   ·rw [if_neg hm,List.erase_of_not_mem hm]
    omega
 have hadd : ∀ (l : List Nat) (f g : Nat → Int),(l.map fun i => f i + g i).sum = (l.map f).sum + (l.map g).sum := by
  intro l f g
  induction l with
  | nil => rfl
  | cons x l ih => simp only [List.map_cons,List.sum_cons,ih]; omega
 have : l.map (xD w n s l) = l.map fun i => bsD w n s i + (if i ∈ chD w n s l then (1 : Int) else 0) := rfl
 rw [this,hadd,hcount l hp _ hnd hsub,hlen]
 unfold lfD
 omega
theorem clD_sum {w c o : Nat → Int} {n : Int} {l : List Nat} (hp : l.Pairwise (· < ·)) (hn : 0 < n) (hw : ∀ i ∈ l,0 < w i) (hc : ∀ i ∈ l,o i < c i) (hl : l ≠ []) :
  (∀ i ∈ l,0 ≤ clD w c o n (smL w l) l i ∧ clD w c o n (smL w l) l i ≤ c i - o i ∧ 0 ≤ xD w n (smL w l) l i) ∧ 0 < (l.map (clD w c o n (smL w l) l)).sum ∧ (l.map (clD w c o n (smL w l) l)).sum ≤ n := by
 obtain ⟨h1,h2,h3,_⟩ := lfD_bound (Int.le_of_lt hn) hw hl
 have hx := xD_sum hp (Int.le_of_lt hn) hw hl
 generalize smL w l = s at *
 have hx0 : ∀ i ∈ l,0 ≤ xD w n s l i := fun i hi => by
  obtain ⟨_,_,p⟩ := rsD_bound (w := w) (n := n) h1 (Int.le_of_lt hn) (i := i) (Int.le_of_lt (hw i hi))
  unfold xD
  split <;> omega
 have hcl : ∀ i ∈ l,0 ≤ clD w c o n s l i ∧ clD w c o n s l i ≤ c i - o i ∧ clD w c o n s l i ≤ xD w n s l i ∧ (0 < xD w n s l i → 0 < clD w c o n s l i) := fun i hi => by
  have := hx0 i hi
  have := hc i hi
  unfold clD
  split <;> omega
 refine ⟨fun i hi => ⟨(hcl i hi).1,(hcl i hi).2.1,hx0 i hi⟩,?_⟩
 have gen : ∀ l' : List Nat,(∀ i ∈ l',i ∈ l) → 0 ≤ (l'.map (clD w c o n s l)).sum ∧ (l'.map (clD w c o n s l)).sum ≤ (l'.map (xD w n s l)).sum ∧ (0 < (l'.map (xD w n s l)).sum → 0 < (l'.map (clD w c o n s l)).sum) := by
  intro l'
  induction l' with
  | nil => intro _; simp
  | cons y l' ih =>
   intro h
   obtain ⟨q1,q2,q3⟩ := ih fun i hi => h i (by simp [hi])
   obtain ⟨p1,_,p2,p3⟩ := hcl y (h y (by simp))
   have := hx0 y (h y (by simp))
   simp only [List.map_cons,List.sum_cons]
   refine ⟨by omega,by omega,fun h => ?_⟩
   by_cases h0 : 0 < xD w n s l y
   ·have := p3 h0; omega
   ·have := q3 (by omega); omega
 have := gen l fun i hi => hi
 rw [hx] at this
 exact ⟨this.2.2 hn,this.2.1⟩
def rowF (L : Nat) (g : Nat → C) : LC := (List.range L).map fun j => [g j]
def rowD (L : Nat) (g : Nat → D) : LD := (List.range L).map fun j => [g j]
abbrev cI (o : Nat → Int) : Nat → C := fun j => .d (.int .i64 (o j))
abbrev cB (o : Nat → Bool) : Nat → C := fun j => .d (.bool (o j))
theorem rowF_len (L : Nat) (g : Nat → C) : (rowF L g).length = L := by simp [rowF]
theorem rowD_len (L : Nat) (g : Nat → D) : (rowD L g).length = L := by simp [rowD]
theorem rowF_ext {L : Nat} {g h : Nat → C} (e : ∀ j,j < L → g j = h j) : rowF L g = rowF L h := List.map_congr_left fun j hj => by rw [e j (List.mem_range.mp hj)]
theorem rowF_at {L : Nat} {g : Nat → C} {i : Nat} (h : i < L) {β : Type} (F : List C → Option β) : ZaR (rowF L g) i F = F [g i] := by
 unfold ZaR rowF
 rw [List.getElem?_map,List.getElem?_range h]
 rfl
theorem rowF_mod {L : Nat} {g : Nat → C} {i : Nat} (h : i < L) (x : C) : ((rowF L g).modify i fun c => Zs c 0 [x]) = rowF L (fun j => if j = i then x else g j) := by
 refine List.ext_getElem (by simp [rowF]) fun j h1 h2 => ?_
 rw [List.getElem_modify]
 simp only [rowF,List.getElem_map,List.getElem_range]
 by_cases hj : i = j
 ·subst hj; simp [Zs]
 ·rw [if_neg hj,if_neg (fun h => hj h.symm)]
theorem rowF_rep (L : Nat) (x : C) : List.replicate L [x] = rowF L (fun _ => x) := by
 refine List.ext_getElem (by simp [rowF]) fun j h1 h2 => ?_
 simp [rowF]
theorem Ybb : ∀ (l : LC),C.immRows l = l.map C.immCells
 | [] => rfl
 | x :: l => by simp only [C.immRows,List.map_cons,Ybb l]
theorem imm_rowF (L : Nat) (g : Nat → C) : C.immRows (rowF L g) = rowD L (fun j => (g j).imm) := by
 rw [Ybb,rowF,rowD,List.map_map]
 rfl
theorem rowD_at {L : Nat} {g : Nat → D} {i : Nat} (h : i < L) {β : Type} (F : List D → Option β) : atRow (rowD L g) (i : Int) F = F [g i] := by
 unfold atRow
 rw [if_pos (by omega),Int.toNat_natCast]
 unfold ZaR rowD
 rw [List.getElem?_map,List.getElem?_range h]
 rfl
theorem deep_rowI {L : Nat} {o : Nat → Int} : Zc (rowD L (fun j => .int .i64 (o j))) = rowF L (cI o) := by
 have : ∀ l : List Nat,Zc (l.map fun j => [D.int .i64 (o j)]) = l.map fun j => [C.d (.int .i64 (o j))] := fun l => by
  induction l with
  | nil => rfl
  | cons x l ih => simp only [List.map_cons,Zc,ZN,deepD,ih]
 exact this _
def upN (l : List Nat) : LC := l.map fun (x : Nat) => [.d (.int .i64 (x : Int))]
def ofN (l : List Nat) : LD := l.map fun (x : Nat) => [.int .i64 (x : Int)]
theorem upN_len (l : List Nat) : (upN l).length = l.length := by simp [upN]
theorem ofN_len (l : List Nat) : (ofN l).length = l.length := by simp [ofN]
theorem upN_app (a b : List Nat) : upN a ++ upN b = upN (a ++ b) := by simp [upN]
theorem imm_upN (l : List Nat) : C.immRows (upN l) = ofN l := by
 rw [Ybb,upN,ofN,List.map_map]
 rfl
theorem upN_at {l : List Nat} {i : Nat} (h : i < l.length) {β : Type} (F : List C → Option β) : ZaR (upN l) i F = F [.d (.int .i64 (l[i] : Int))] := by simp [ZaR,upN,h]
theorem ofN_at {l : List Nat} {i : Nat} (h : i < l.length) {β : Type} (F : List D → Option β) : atRow (ofN l) (i : Int) F = F [.int .i64 (l[i] : Int)] := by
 unfold atRow
 rw [if_pos (by omega),Int.toNat_natCast]
 simp [ZaR,ofN,h]
theorem range_filter_succ (p : Nat → Bool) (i : Nat) : (List.range (i + 1)).filter p = (List.range i).filter p ++ (if p i then [i] else []) := by
 rw [List.range_succ,List.filter_append]
 simp [List.filter_cons]
section
variable {α : Type} (less same : α → α → Bool)
structure Ordered : Prop where
 irr : ∀ x y,same x y = true → less x y = false
 tri : ∀ x y,less x y = false → same x y = false → less y x = true
 asym : ∀ x y,less x y = true → less y x = false
 trans : ∀ x y z,less x y = true → less y z = true → less x z = true
 cong : ∀ x y z,same x y = true → less y z = true → less x z = true
 sym : ∀ x y,same x y = true → same y x = true
def YaV (o o' : α) : Bool → List α → List α
 | put,[] => if put then [] else [o']
 | put,x :: xs => (if !put && !less x o then [o'] else []) ++ ((if same x o then [] else [x]) ++ YaV o o' (put || !less x o) xs)
def lbF (o : α) (l : List α) : Nat := (l.takeWhile fun x => less x o).length
def hitF (o : α) (l : List α) : Bool := match l[lbF less o l]? with | some x => same x o | none => false
end
section
variable {α : Type} {less same : α → α → Bool} (H : Ordered less same) {o o' : α}
include H
theorem withF_past : ∀ {l : List α},(∀ x ∈ l,less o x = true) → YaV less same o o' true l = l
 | [],_ => rfl
 | x :: xs,h => by
  have hx := h x (by simp)
  have hs : same x o = false := by
   cases q : same x o
   ·rfl
   ·have := H.irr o x (H.sym _ _ q)
    rw [hx] at this; cases this
  unfold YaV
  rw [hs,Bool.true_or,withF_past fun y hy => h y (by simp [hy])]
  rfl
theorem withF_eq : ∀ {l : List α},l.Pairwise (fun x y => less x y = true) → YaV less same o o' false l = l.take (lbF less o l) ++ o' :: l.drop (lbF less o l + if hitF less same o l then 1 else 0)
 | [],_ => rfl
 | x :: xs,h => by
  obtain ⟨h1,h2⟩ := List.pairwise_cons.mp h
  cases hx : less x o with
  | true =>
   have hs : same x o = false := by
    cases q : same x o
    ·rfl
    ·have := H.irr _ _ q
     rw [hx] at this; cases this
   have e : lbF less o (x :: xs) = lbF less o xs + 1 := by simp [lbF,List.takeWhile_cons,hx]
   have e2 : hitF less same o (x :: xs) = hitF less same o xs := by unfold hitF; rw [e]; rfl
   unfold YaV
   rw [hx,hs]
   show [x] ++ YaV less same o o' false xs = _
   rw [withF_eq h2,e,e2]
   simp only [List.nil_append,List.take_succ_cons,List.cons_append]
   rw [show lbF less o xs + 1 + (if hitF less same o xs = true then 1 else 0) = (lbF less o xs + if hitF less same o xs = true then 1 else 0) + 1 by omega,List.drop_succ_cons]
  | false =>
   have e : lbF less o (x :: xs) = 0 := by simp [lbF,List.takeWhile_cons,hx]
   have e2 : hitF less same o (x :: xs) = same x o := by unfold hitF; rw [e]; rfl
   have hp : ∀ y ∈ xs,less o y = true := fun y hy => by
    cases hs : same x o with
    | true => exact H.cong _ _ _ (H.sym _ _ hs) (h1 y hy)
    | false => exact H.trans _ _ _ (H.tri _ _ hx hs) (h1 y hy)
   unfold YaV
   rw [hx,Bool.not_false,Bool.false_or,withF_past H hp,e,e2]
   cases same x o <;> simp
omit H in
theorem lbF_below : ∀ {l : List α} {i : Nat} (hi : i < l.length),i < lbF less o l → less l[i] o = true
 | x :: xs,i,hi,h => by
  cases hx : less x o with
  | false => simp [lbF,List.takeWhile_cons,hx] at h
  | true =>
   cases i with
   | zero => exact hx
   | succ i => exact lbF_below (l := xs) (by simpa using hi) (by simpa [lbF,List.takeWhile_cons,hx] using h)
theorem lbF_above : ∀ {l : List α} (_ : l.Pairwise (fun x y => less x y = true)) {i : Nat} (hi : i < l.length),lbF less o l ≤ i → less l[i] o = false
 | x :: xs,hp,i,hi,h => by
  obtain ⟨h1,h2⟩ := List.pairwise_cons.mp hp
  cases hx : less x o with
  | true =>
   cases i with
   | zero => simp [lbF,List.takeWhile_cons,hx] at h
   | succ i => exact lbF_above h2 (by simpa using hi) (by simpa [lbF,List.takeWhile_cons,hx] using h)
  | false =>
   cases i with
   | zero => exact hx
   | succ i =>
    have hxi := h1 (xs[i]'(by simpa using hi)) (List.getElem_mem _)
    show less (xs[i]'(by simpa using hi)) o = false
    cases q : less (xs[i]'(by simpa using hi)) o with
    | false => rfl
    | true =>
     have := H.trans _ _ _ hxi q
     rw [hx] at this; cases this
end
theorem YC.tm {ι α : Type} {ok : ι → Prop} {ψ : α → Prop} {p : ι → Nat} {B : Nat} (hp : ∀ i,ok i → B ≤ p i) {a0 a1 φ} (h : Tm (fun k => B ≤ k) (fun k => YC.t k a0 a1) φ) {G : ι → Int → Option α} (hG : ∀ z0,φ z0 → Tm ok (fun i => G i z0) ψ) : Tm ok (fun i => YC.f (p i) a0 a1 (G i)) ψ := bd1_tm (t := fun k => YC.t k a0 a1) hp h hG
def RS (B : Nat) (r : List D) : Prop := ∃ (c0 : BA),r = [.str c0] ∧ c0.size ≤ B ∧ True
theorem RS.open {B : Nat} {r : List D} (h : RS B r) : ∃ (c0 : BA),r = [.str c0] ∧ c0.size ≤ B ∧ True := h
theorem RS.mono {B B' : Nat} (hb : B ≤ B') {r : List D} (h : RS B r) : RS B' r := by
 obtain ⟨c0,rfl,k0,_⟩ := h
 exact ⟨_,rfl,(Nat.le_trans k0 hb),trivial⟩
theorem RS.wide {xs : LD} (h : ZB RS lim xs) : ZB RS 2097152 xs := ⟨Nat.le_trans h.1 (by decide),fun r hr => (h.2 r hr).mono (by decide)⟩
theorem RS.len {B : Nat} {r : List D} (h : RS B r) : r.length = 1 := by
 obtain ⟨c0,rfl,_⟩ := h.open
 rfl
theorem RS.flat {B : Nat} {xs : LD} (h : ∀ r ∈ xs,RS B r) : Zcg 1 xs := fun r hr => by
 obtain ⟨c0,rfl,_⟩ := (h r hr).open
 exact ⟨rfl,by simp [Zag]⟩
theorem RS.wt {B : Nat} {xs : LD} (h : ∀ r ∈ xs,RS B r) : Zu xs = 1 * xs.length := wt_flat (R := RS B) (fun r h => by obtain ⟨c0,rfl,_⟩ := h; rfl) xs h
theorem RS.deep {B : Nat} {xs : LD} (h : ∀ r ∈ xs,RS B r) : Zc xs = xs.map (·.map C.d) := deep_flat (R := RS B) (fun r h => by obtain ⟨c0,rfl,_⟩ := h; rfl) xs h
theorem RS.gets {B : Nat} {xs : LD} (h : ∀ r ∈ xs,RS B r) {v : Int} (h0 : 0 ≤ v) (h1 : v < xs.length) : gR xs v = [.str (gS xs v 0)] ∧ (gS xs v 0).size ≤ B ∧ True := by
 obtain ⟨c0,e,k0,_⟩ := (h (gR xs v) (gR_mem h0 h1)).open
 unfold gS
 rw [e]
 exact ⟨rfl,k0,trivial⟩
theorem RS.rows {B : Nat} {xs : LD} (h : ∀ r ∈ xs,RS B r) {v : Int} (h0 : 0 ≤ v) (h1 : v < xs.length) {β : Type} (F : List D → Option β) : atRow xs v F = F [.str (gS xs v 0)] := by
 rw [← (RS.gets h h0 h1).1]
 exact Zck h0 h1 F
theorem RS.get {B : Nat} {xs : LD} (h : ZB RS B xs) {v : Int} (h0 : 0 ≤ v) (h1 : v < xs.length) : gR xs v = [.str (gS xs v 0)] ∧ (gS xs v 0).size ≤ B ∧ True := RS.gets h.2 h0 h1
theorem RS.row {B : Nat} {xs : LD} (h : ZB RS B xs) {v : Int} (h0 : 0 ≤ v) (h1 : v < xs.length) {β : Type} (F : List D → Option β) : atRow xs v F = F [.str (gS xs v 0)] := RS.rows h.2 h0 h1 F
set_option maxRecDepth 100000 in
theorem YC.T {a0 : LD} {a1 : Int} (h0 : 0 ≤ a1) (h1 : a1 ≤ 1048576) (ga0 : ZB RS maxLen a0) : Tm Fuel (fun k => YC.t k a0 a1) (fun r => r < 0 ∨ 0 ≤ r ∧ r ≤ a1 ∧ ZB RS lim a0 ∧ ((Zu a0 : Nat) : Int) ≤ 64 * (a1 - r) ∧ True) := by
 unfold YC.t YC.g
 have hm := maxLen_eq
 have hlim : lim = 1048576 := rfl
 have hlen := ga0.1
 try rw [Z9 (x := a1 - (a0.length : Int)) (by omega) (by omega)]
 refine Tm.ite (fun h1 => ?_) (fun h1 => ?_)
 ·try simp only [bz0,bz1,bz2,bz3,bz4,bz5,bz6,bz7,bz8,bz9,bza] at h1
  exact Tm.ret (by first | (left; omega) | (right; refine ⟨?_,?_,?_,?_,trivial⟩ <;> first | assumption | omega))
 ·try simp only [bz0,bz1,bz2,bz3,bz4,bz5,bz6,bz7,bz8,bz9,bza] at h1
  refine Tm.loop (okk := Fuel) (p := fun k => k) (fun i hi => hi) (b := fun k => YC.l0 k a0 (fun z0 => some z0)) (fun v => match v with | (u0,i) => (((a0.length : Int)) - i).toNat) (fun v => match v with | (u0,i) => 0 ≤ u0 ∧ u0 ≤ a1 ∧ 0 ≤ i ∧ i ≤ (a0.length : Int) ∧ (∀ r ∈ a0.take i.toNat,RS lim r) ∧ ((Zu (a0.take i.toNat) : Nat) : Int) ≤ 64 * (a1 - a0.length - u0 + i)) ?_ ?_ ?_
  ·rintro ⟨u0,i⟩ hI
   try simp only [] at hI ⊢
   have : big = 2 ^ 64 := rfl
   have := ga0.1
   omega
  ·exact ⟨by omega,by omega,by omega,by simp,by simp,by simp [Zu]⟩
  ·rintro ⟨u0,i⟩ hI L hL
   try simp only [] at hI
   obtain ⟨u0a,u0b,i0,i1,hr,hwt⟩ := hI
   simp only [YC.l0,atR,rdQ,Q.ask]
   refine Tm.ite (fun h2 => ?_) (fun h2 => ?_)
   ·try simp only [bz0,bz1,bz2,bz3,bz4,bz5,bz6,bz7,bz8,bz9,bza] at h2
    refine Tm.atRow (by first | assumption | omega) (by first | assumption | omega) (fun x3 hx4 hm5 => ?_)
    obtain ⟨c6,rfl,g7,_⟩ := (ga0.2 x3 hm5).open
    refine Tm.uncons ?_
    refine Tm.dStr ?_
    refine Tm.atEnd ?_
    try rw [Z9 (x := u0 - (c6.size : Int)) (by omega) (by omega)]
    refine Tm.ite (fun h8 => ?_) (fun h8 => ?_)
    ·try simp only [bz0,bz1,bz2,bz3,bz4,bz5,bz6,bz7,bz8,bz9,bza] at h8
     exact Tm.ret (by first | (left; omega) | (rw [List.take_of_length_le (by omega)] at hwt; exact .inr ⟨by omega,by omega,⟨by simp only [lim]; omega,all_rows (by omega) hr⟩,by omega,trivial⟩))
    ·try simp only [bz0,bz1,bz2,bz3,bz4,bz5,bz6,bz7,bz8,bz9,bza] at h8
     try rw [Z9 (x := i + 1) (by omega) (by omega)]
     have hwx := wt_take i0 hx4
     simp only [ZbY,wtD] at hwx
     refine hL ((u0 - (c6.size : Int)),(i + 1)) ⟨by omega,by omega,by omega,by omega,take_rows i0 hx4 hr ⟨_,rfl,by first | assumption | omega,trivial⟩,by omega⟩ (by (try simp only []); omega)
   ·try simp only [bz0,bz1,bz2,bz3,bz4,bz5,bz6,bz7,bz8,bz9,bza] at h2
    exact Tm.ret (by first | (left; omega) | (rw [List.take_of_length_le (by omega)] at hwt; exact .inr ⟨by omega,by omega,⟨by simp only [lim]; omega,all_rows (by omega) hr⟩,by omega,trivial⟩))
theorem Yt.tm {ι α : Type} {ok : ι → Prop} {ψ : α → Prop} {p : ι → Nat} {B : Nat} (hp : ∀ i,ok i → B ≤ p i) {a0 a1 φ} (h : Tm (fun k => B ≤ k) (fun k => Yt.t k a0 a1) φ) {G : ι → Int → Option α} (hG : ∀ z0,φ z0 → Tm ok (fun i => G i z0) ψ) : Tm ok (fun i => Yt.f (p i) a0 a1 (G i)) ψ := bd1_tm (t := fun k => Yt.t k a0 a1) hp h hG
inductive Y9 (B : Nat) : Nat → List D → Prop
 | mk {h : Nat} (c0 : Int) (c1 : BA) (c2 : Int) (c3 : LD) (c4 : LD) (k0 : (Lit.int .i64 c0).wf = true) (k1 : c1.size ≤ B) (k2 : (Lit.int .i64 c2).wf = true) (k3 : ZB RS B c3) (k4 : c4.length ≤ B) (m4 : ∀ r ∈ c4,Y9 B h r) : Y9 B (h + 1) [.int .i64 c0,.str c1,.int .i64 c2,.sl c3,.sl c4]
def Yq (B : Nat) (r : List D) : Prop := ∃ h,(B ≤ 1099511627776 → h ≤ 1099511627776) ∧ Y9 B h r
theorem Yq.open {B : Nat} {r : List D} (h : Yq B r) : ∃ (c0 : Int) (c1 : BA) (c2 : Int) (c3 : LD) (c4 : LD),r = [.int .i64 c0,.str c1,.int .i64 c2,.sl c3,.sl c4] ∧ (Lit.int .i64 c0).wf = true ∧ c1.size ≤ B ∧ (Lit.int .i64 c2).wf = true ∧ ZB RS B c3 ∧ ZB Yq B c4 ∧ True := by
 obtain ⟨h,hh,h1⟩ := h
 cases h1 with
 | mk c0 c1 c2 c3 c4 k0 k1 k2 k3 k4 m4 => exact ⟨c0,c1,c2,c3,c4,rfl,k0,k1,k2,k3,⟨k4,fun r hr => ⟨_,fun hb => by have := hh hb; omega,m4 r hr⟩⟩,trivial⟩
theorem Y9.up {B B' : Nat} (hb : B ≤ B') : ∀ {h : Nat} {r : List D},Y9 B h r → Y9 B' h r
 | _ + 1,_,.mk c0 c1 c2 c3 c4 k0 k1 k2 k3 k4 m4 => .mk c0 c1 c2 c3 c4 k0 (Nat.le_trans k1 hb) k2 ⟨Nat.le_trans k3.1 hb,fun r hr => (k3.2 r hr).mono hb⟩ (Nat.le_trans k4 hb) (fun r hr => Y9.up hb (m4 r hr))
theorem Yq.mono {B B' : Nat} (hb : B ≤ B') {r : List D} (h : Yq B r) : Yq B' r := by
 obtain ⟨h,hh,h1⟩ := h
 exact ⟨h,fun h2 => hh (Nat.le_trans hb h2),h1.up hb⟩
theorem Y9.mono {B : Nat} : ∀ {h h' : Nat} {r : List D},h ≤ h' → Y9 B h r → Y9 B h' r
 | _,0,_,hl,.mk .. => by omega
 | _ + 1,_ + 1,_,hl,.mk c0 c1 c2 c3 c4 k0 k1 k2 k3 k4 m4 => .mk c0 c1 c2 c3 c4 k0 k1 k2 k3 k4 (fun r hr => Y9.mono (by omega) (m4 r hr))
theorem Yq.wide {xs : LD} (h : ZB Yq lim xs) : ZB Yq 2097152 xs := ⟨Nat.le_trans h.1 (by decide),fun r hr => (h.2 r hr).mono (by decide)⟩
theorem Yq.len {B : Nat} {r : List D} (h : Yq B r) : r.length = 5 := by
 obtain ⟨c0,c1,c2,c3,c4,rfl,_⟩ := h.open
 rfl
theorem Yq.gets {B : Nat} {xs : LD} (h : ∀ r ∈ xs,Yq B r) {v : Int} (h0 : 0 ≤ v) (h1 : v < xs.length) : gR xs v = [.int .i64 (gI xs v 0),.str (gS xs v 1),.int .i64 (gI xs v 2),.sl (gL xs v 3),.sl (gL xs v 4)] ∧ (Lit.int .i64 (gI xs v 0)).wf = true ∧ (gS xs v 1).size ≤ B ∧ (Lit.int .i64 (gI xs v 2)).wf = true ∧ ZB RS B (gL xs v 3) ∧ ZB Yq B (gL xs v 4) ∧ True := by
 obtain ⟨c0,c1,c2,c3,c4,e,k0,k1,k2,k3,k4,_⟩ := (h (gR xs v) (gR_mem h0 h1)).open
 unfold gI gL gS
 rw [e]
 exact ⟨rfl,k0,k1,k2,k3,k4,trivial⟩
theorem Yq.rows {B : Nat} {xs : LD} (h : ∀ r ∈ xs,Yq B r) {v : Int} (h0 : 0 ≤ v) (h1 : v < xs.length) {β : Type} (F : List D → Option β) : atRow xs v F = F [.int .i64 (gI xs v 0),.str (gS xs v 1),.int .i64 (gI xs v 2),.sl (gL xs v 3),.sl (gL xs v 4)] := by
 rw [← (Yq.gets h h0 h1).1]
 exact Zck h0 h1 F
theorem Yq.get {B : Nat} {xs : LD} (h : ZB Yq B xs) {v : Int} (h0 : 0 ≤ v) (h1 : v < xs.length) : gR xs v = [.int .i64 (gI xs v 0),.str (gS xs v 1),.int .i64 (gI xs v 2),.sl (gL xs v 3),.sl (gL xs v 4)] ∧ (Lit.int .i64 (gI xs v 0)).wf = true ∧ (gS xs v 1).size ≤ B ∧ (Lit.int .i64 (gI xs v 2)).wf = true ∧ ZB RS B (gL xs v 3) ∧ ZB Yq B (gL xs v 4) ∧ True := Yq.gets h.2 h0 h1
theorem Yq.row {B : Nat} {xs : LD} (h : ZB Yq B xs) {v : Int} (h0 : 0 ≤ v) (h1 : v < xs.length) {β : Type} (F : List D → Option β) : atRow xs v F = F [.int .i64 (gI xs v 0),.str (gS xs v 1),.int .i64 (gI xs v 2),.sl (gL xs v 3),.sl (gL xs v 4)] := Yq.rows h.2 h0 h1 F
theorem YR.tm {ι α : Type} {ok : ι → Prop} {ψ : α → Prop} {p : ι → Nat} {B : Nat} (hp : ∀ i,ok i → B ≤ p i) {aB aA aH aF aI a1 φ} (h : Tm (fun k => B ≤ k) (fun k => YR.t k aB aA aH aF aI a1) φ) {G : ι → Int → Option α} (hG : ∀ z0,φ z0 → Tm ok (fun i => G i z0) ψ) : Tm ok (fun i => YR.f (p i) aB aA aH aF aI a1 (G i)) ψ := bd1_tm (t := fun k => YR.t k aB aA aH aF aI a1) hp h hG
set_option maxRecDepth 100000 in
theorem szVal (n : Nat) : (∀ (left : Int) (a : LD),0 ≤ left → left ≤ n → left ≤ 1048576 → ZB Yq maxLen a → Tm (fun k => big + 2 * n + 1 ≤ k) (fun k => Yt.t k a left) (fun r => r < 0 ∨ 0 ≤ r ∧ r ≤ left ∧ a.length ≤ lim ∧ (∀ x ∈ a,Y9 lim (left - r).toNat x) ∧ ((Zu a : Nat) : Int) ≤ 64 * (left - r))) ∧
  (∀ (left c0 : Int) (c1 : BA) (c2 : Int) (c3 c4 : LD),0 ≤ left → left ≤ n → left ≤ 1048576 → c1.size ≤ maxLen → ZB RS maxLen c3 → ZB Yq maxLen c4 → Tm (fun k => big + 2 * n + 2 ≤ k) (fun k => YR.t k c0 c1 c2 c3 c4 left) (fun r => r < 0 ∨ 0 ≤ r ∧ r ≤ left ∧ c1.size ≤ lim ∧ ZB RS lim c3 ∧ c4.length ≤ lim ∧ (∀ x ∈ c4,Y9 lim (left - r).toNat x) ∧ ((Zu c3 + Zu c4 : Nat) : Int) ≤ 64 * (left - r))) := by
 have hm := maxLen_eq
 have hlim : lim = 1048576 := rfl
 have hb : big = 2 ^ 64 := rfl
 induction n using Nat.strongRecOn with
 | ind n ih =>
 have S : ∀ (left : Int) (a : LD),0 ≤ left → left ≤ n → left ≤ 1048576 → ZB Yq maxLen a → Tm (fun k => big + 2 * n + 1 ≤ k) (fun k => Yt.t k a left) (fun r => r < 0 ∨ 0 ≤ r ∧ r ≤ left ∧ a.length ≤ lim ∧ (∀ x ∈ a,Y9 lim (left - r).toNat x) ∧ ((Zu a : Nat) : Int) ≤ 64 * (left - r)) := by
  intro left a h0 h1 h2 g
  have hlen := g.1
  refine Tm.succ (g := fun k => Yt.g k a left (fun z0 => some z0)) (fun k => Yt.t_succ k a left) ?_
  unfold Yt.g Yt.body
  rw [Z9 (x := left - a.length) (by omega) (by omega)]
  refine Tm.ite (fun h3 => Tm.ret (.inl (by omega))) (fun h3 => ?_)
  simp only [decide_eq_false_iff_not,Int.not_lt] at h3
  refine Tm.loop (okk := fun k => big + 2 * n ≤ k) (p := fun k => k) (fun i hi => by omega) (b := fun k => Yt.l0 k (Yt.f k) (YR.f k) a (fun z0 => some z0)) (fun v => match v with | (u0,i) => (((a.length : Int)) - i).toNat) (fun v => match v with | (u0,i) => 0 ≤ u0 ∧ u0 ≤ left - a.length ∧ 0 ≤ i ∧ i ≤ (a.length : Int) ∧ (∀ r ∈ a.take i.toNat,Y9 lim (left - u0).toNat r) ∧ ((Zu (a.take i.toNat) : Nat) : Int) ≤ 64 * (left - a.length - u0 + i)) ?_ ?_ ?_
  ·rintro ⟨u0,i⟩ hI
   simp only [] at hI ⊢
   omega
  ·exact ⟨by omega,by omega,by omega,by omega,by simp,by simp [Zu]⟩
  ·rintro ⟨u0,i⟩ hI L hL
   simp only [] at hI
   obtain ⟨u0a,u0b,i0,i1,hr,hwt⟩ := hI
   simp only [Yt.l0,atR,rdQ,Q.ask]
   refine Tm.ite (fun h4 => ?_) (fun h4 => ?_)
   ·simp only [decide_eq_true_eq] at h4
    refine Tm.atRow (by omega) (by omega) (fun x5 hx6 hm7 => ?_)
    obtain ⟨c0,c1,c2,c3,c4,rfl,w0,g1,w2,g3,g4,_⟩ := (g.2 x5 hm7).open
    refine Tm.uncons (Tm.dInt (Tm.uncons (Tm.dStr (Tm.uncons (Tm.dInt (Tm.uncons (Tm.dSl (Tm.uncons (Tm.dSl (Tm.atEnd ?_))))))))))
    refine YR.tm (B := big + 2 * (n - 1) + 2) (fun i hi => by have := hi.1; omega) ((ih (n - 1) (by omega)).2 u0 c0 c1 c2 c3 c4 u0a (by omega) (by omega) g1 g3 g4) (fun y hy => ?_)
    rcases hy with hy | ⟨y0,y1,q1,q3,q4,q5,qw⟩
    ·exact Tm.ite (fun _ => Tm.ret (.inl (by omega))) (fun h => by simp at h; omega)
    refine Tm.ite (fun h8 => by simp at h8; omega) (fun h8 => ?_)
    rw [Z9 (x := i + 1) (by omega) (by omega)]
    have hwx := wt_take i0 hx6
    simp only [ZbY,wtD] at hwx
    refine hL (y,i + 1) ⟨by omega,by omega,by omega,by omega,take_rows i0 hx6 (fun r hr' => (hr r hr').mono (by omega)) ?_,by omega⟩ (by simp only []; omega)
    exact Y9.mono (h := (u0 - y).toNat + 1) (by omega) (.mk _ _ _ _ _ w0 q1 w2 q3 q4 q5)
   ·simp only [decide_eq_false_iff_not,Int.not_lt] at h4
    rw [List.take_of_length_le (by omega)] at hwt
    exact Tm.ret (.inr ⟨by omega,by omega,by omega,fun x hx => (all_rows (by omega) hr x hx).mono (by omega),by omega⟩)
 refine ⟨S,?_⟩
 intro left c0 c1 c2 c3 c4 h0 h1 h2 g1 g3 g4
 refine Tm.succ (g := fun k => YR.g k c0 c1 c2 c3 c4 left (fun z0 => some z0)) (fun k => YR.t_succ k c0 c1 c2 c3 c4 left) ?_
 unfold YR.g YR.body
 rw [Z9 (x := left - c1.size) (by omega) (by omega)]
 refine Tm.ite (fun h3 => Tm.ret (.inl (by omega))) (fun h3 => ?_)
 simp only [decide_eq_false_iff_not,Int.not_lt] at h3
 refine YC.tm (B := big) (fun i hi => by omega) (YC.T (by omega) (by omega) g3) (fun y hy => ?_)
 rcases hy with hy | ⟨y0,y1,q3,qw,_⟩
 ·exact Tm.ite (fun _ => Tm.ret (.inl (by omega))) (fun h => by simp at h; omega)
 refine Tm.ite (fun h8 => by simp at h8; omega) (fun h8 => ?_)
 refine Yt.tm (B := big + 2 * n + 1) (fun i hi => hi) (S y c4 y0 (by omega) (by omega) g4) (fun y' hy' => ?_)
 rcases hy' with hy' | ⟨y0',y1',q4,q5,qw'⟩
 ·exact Tm.ite (fun _ => Tm.ret (.inl (by omega))) (fun h => by simp at h; omega)
 refine Tm.ite (fun h8 => by simp at h8; omega) (fun h8 => ?_)
 exact Tm.ret (.inr ⟨by omega,by omega,by omega,q3,q4,fun x hx => (q5 x hx).mono (by omega),by omega⟩)
theorem YR.T {aB : Int} {aA : BA} {aH : Int} {aF aI : LD} {a1 : Int} (h0 : 0 ≤ a1) (h1 : a1 ≤ 1048576) (g1 : aA.size ≤ maxLen) (g3 : ZB RS maxLen aF) (g4 : ZB Yq maxLen aI) : Tm (Zai 1) (fun k => YR.t k aB aA aH aF aI a1) (fun r => r < 0 ∨ 0 ≤ r ∧ r ≤ a1 ∧ aA.size ≤ lim ∧ ZB RS lim aF ∧ ZB Yq lim aI ∧ ((Zu aF + Zu aI : Nat) : Int) ≤ 64 * (a1 - r) ∧ True) :=
 (((szVal a1.toNat).2 a1 aB aA aH aF aI h0 (by omega) h1 g1 g3 g4).up (big_lv1 (n := 2 * a1.toNat + 2) (by omega))).mono fun r hr => by
  rcases hr with hr | ⟨r0,r1,r2,r3,r4,r5,r6⟩
  ·exact .inl hr
  ·exact .inr ⟨r0,r1,r2,r3,⟨r4,fun x hx => ⟨_,fun _ => by omega,r5 x hx⟩⟩,r6,trivial⟩
theorem YaF.tm {ι α : Type} {ok : ι → Prop} {ψ : α → Prop} {p : ι → Nat} {B : Nat} (hp : ∀ i,ok i → B ≤ p i) {aB aA aH aF aI bD aV bA aP bB aQ aW aY aR bC aT aX a1 φ} (h : Tm (fun k => B ≤ k) (fun k => YaF.t k aB aA aH aF aI bD aV bA aP bB aQ aW aY aR bC aT aX a1) φ) {G : ι → Int → Option α} (hG : ∀ z0,φ z0 → Tm ok (fun i => G i z0) ψ) : Tm ok (fun i => YaF.f (p i) aB aA aH aF aI bD aV bA aP bB aQ aW aY aR bC aT aX a1 (G i)) ψ := bd1_tm (t := fun k => YaF.t k aB aA aH aF aI bD aV bA aP bB aQ aW aY aR bC aT aX a1) hp h hG
theorem YaF.T {aB : Int} {aA : BA} {aH aF aI : Int} {bD : Bool} {aV : LD} {bA : Int} {aP : BA} {bB : Int} {aQ aW : LD} {aY : Int} {aR : BA} {bC : Int} {aT aX : LD} {a1 : Int} (h0 : 0 ≤ a1) (h1 : a1 ≤ 1048576) (ga0_1 : aA.size ≤ maxLen) (ga0_6 : ZB RS maxLen aV) (ga0_8 : aP.size ≤ maxLen) (ga0_10 : ZB RS maxLen aQ) (ga0_11 : ZB Yq maxLen aW) (ga0_13 : aR.size ≤ maxLen) (ga0_15 : ZB RS maxLen aT) (ga0_16 : ZB Yq maxLen aX) : Tm (Zai 1) (fun k => YaF.t k aB aA aH aF aI bD aV bA aP bB aQ aW aY aR bC aT aX a1) (fun r => r < 0 ∨ 0 ≤ r ∧ r ≤ a1 ∧ aA.size ≤ lim ∧ ZB RS lim aV ∧ aP.size ≤ lim ∧ ZB RS lim aQ ∧ ZB Yq lim aW ∧ aR.size ≤ lim ∧ ZB RS lim aT ∧ ZB Yq lim aX ∧ ((Zu aV + Zu aQ + Zu aW + Zu aT + Zu aX : Nat) : Int) ≤ 64 * (a1 - r) ∧ True) := by
 unfold YaF.t YaF.g
 have hm := maxLen_eq
 have hlim : lim = 1048576 := rfl
 try rw [Z9 (x := a1 - (aA.size : Int)) (by omega) (by omega)]
 refine Tm.ite (fun h1 => ?_) (fun h1 => ?_)
 ·try simp only [bz0,bz1,bz2,bz3,bz4,bz5,bz6,bz7,bz8,bz9,bza] at h1
  exact Tm.ret (by first | (left; omega) | (right; refine ⟨?_,?_,?_,?_,?_,?_,?_,?_,?_,?_,?_,trivial⟩ <;> first | assumption | omega))
 ·try simp only [bz0,bz1,bz2,bz3,bz4,bz5,bz6,bz7,bz8,bz9,bza] at h1
  refine YC.tm (fun i hi => up0 hi) (YC.T (by first | assumption | omega) (by first | assumption | omega) (by first | assumption | omega)) (fun y3 hy2 => ?_)
  rcases hy2 with hy2 | ⟨p6,p7,q4,q5,_⟩
  ·exact Tm.ite (fun _ => Tm.ret (by left; omega)) (fun h => by simp at h; omega)
  refine Tm.ite (fun h8 => ?_) (fun h8 => ?_)
  ·try simp only [bz0,bz1,bz2,bz3,bz4,bz5,bz6,bz7,bz8,bz9,bza] at h8
   exact Tm.ret (by first | (left; omega) | (right; refine ⟨?_,?_,?_,?_,?_,?_,?_,?_,?_,?_,?_,trivial⟩ <;> first | assumption | omega))
  ·try simp only [bz0,bz1,bz2,bz3,bz4,bz5,bz6,bz7,bz8,bz9,bza] at h8
   refine YR.tm (fun i hi => hi) (YR.T (by first | assumption | omega) (by first | assumption | omega) (by first | assumption | omega) (by first | assumption | omega) (by first | assumption | omega)) (fun y10 hy9 => ?_)
   rcases hy9 with hy9 | ⟨p15,p16,q11,q12,q13,q14,_⟩
   ·exact Tm.ite (fun _ => Tm.ret (by left; omega)) (fun h => by simp at h; omega)
   refine Tm.ite (fun h17 => ?_) (fun h17 => ?_)
   ·try simp only [bz0,bz1,bz2,bz3,bz4,bz5,bz6,bz7,bz8,bz9,bza] at h17
    exact Tm.ret (by first | (left; omega) | (right; refine ⟨?_,?_,?_,?_,?_,?_,?_,?_,?_,?_,?_,trivial⟩ <;> first | assumption | omega))
   ·try simp only [bz0,bz1,bz2,bz3,bz4,bz5,bz6,bz7,bz8,bz9,bza] at h17
    refine YR.tm (fun i hi => hi) (YR.T (by first | assumption | omega) (by first | assumption | omega) (by first | assumption | omega) (by first | assumption | omega) (by first | assumption | omega)) (fun y19 hy18 => ?_)
    rcases hy18 with hy18 | ⟨p24,p25,q20,q21,q22,q23,_⟩
    ·exact Tm.ite (fun _ => Tm.ret (by left; omega)) (fun h => by simp at h; omega)
    refine Tm.ite (fun h26 => ?_) (fun h26 => ?_)
    ·try simp only [bz0,bz1,bz2,bz3,bz4,bz5,bz6,bz7,bz8,bz9,bza] at h26
     exact Tm.ret (by first | (left; omega) | (right; refine ⟨?_,?_,?_,?_,?_,?_,?_,?_,?_,?_,?_,trivial⟩ <;> first | assumption | omega))
    ·try simp only [bz0,bz1,bz2,bz3,bz4,bz5,bz6,bz7,bz8,bz9,bza] at h26
     exact Tm.ret (by first | (left; omega) | (right; refine ⟨?_,?_,?_,?_,?_,?_,?_,?_,?_,?_,?_,trivial⟩ <;> first | assumption | omega))
theorem YY.tm {ι α : Type} {ok : ι → Prop} {ψ : α → Prop} {p : ι → Nat} {B : Nat} (hp : ∀ i,ok i → B ≤ p i) {a0 a1 φ} (h : Tm (fun k => B ≤ k) (fun k => YY.t k a0 a1) φ) {G : ι → Int → Option α} (hG : ∀ z0,φ z0 → Tm ok (fun i => G i z0) ψ) : Tm ok (fun i => YY.f (p i) a0 a1 (G i)) ψ := bd1_tm (t := fun k => YY.t k a0 a1) hp h hG
def Ya (B : Nat) (r : List D) : Prop := ∃ (c0 : Int) (c1 : BA) (c2 : Int) (c3 : Int) (c4 : Int) (c5 : Bool) (c6 : LD) (c7 : Int) (c8 : BA) (c9 : Int) (c10 : LD) (c11 : LD) (c12 : Int) (c13 : BA) (c14 : Int) (c15 : LD) (c16 : LD),r = [.int .i64 c0,.str c1,.int .i64 c2,.int .i64 c3,.int .i64 c4,.bool c5,.sl c6,.int .i64 c7,.str c8,.int .i64 c9,.sl c10,.sl c11,.int .i64 c12,.str c13,.int .i64 c14,.sl c15,.sl c16] ∧ (Lit.int .i64 c0).wf = true ∧ c1.size ≤ B ∧ (Lit.int .i64 c2).wf = true ∧ (Lit.int .i64 c3).wf = true ∧ (Lit.int .i64 c4).wf = true ∧ ZB RS B c6 ∧ (Lit.int .i64 c7).wf = true ∧ c8.size ≤ B ∧ (Lit.int .i64 c9).wf = true ∧ ZB RS B c10 ∧ ZB Yq B c11 ∧ (Lit.int .i64 c12).wf = true ∧ c13.size ≤ B ∧ (Lit.int .i64 c14).wf = true ∧ ZB RS B c15 ∧ ZB Yq B c16 ∧ True
theorem Ya.open {B : Nat} {r : List D} (h : Ya B r) : ∃ (c0 : Int) (c1 : BA) (c2 : Int) (c3 : Int) (c4 : Int) (c5 : Bool) (c6 : LD) (c7 : Int) (c8 : BA) (c9 : Int) (c10 : LD) (c11 : LD) (c12 : Int) (c13 : BA) (c14 : Int) (c15 : LD) (c16 : LD),r = [.int .i64 c0,.str c1,.int .i64 c2,.int .i64 c3,.int .i64 c4,.bool c5,.sl c6,.int .i64 c7,.str c8,.int .i64 c9,.sl c10,.sl c11,.int .i64 c12,.str c13,.int .i64 c14,.sl c15,.sl c16] ∧ (Lit.int .i64 c0).wf = true ∧ c1.size ≤ B ∧ (Lit.int .i64 c2).wf = true ∧ (Lit.int .i64 c3).wf = true ∧ (Lit.int .i64 c4).wf = true ∧ ZB RS B c6 ∧ (Lit.int .i64 c7).wf = true ∧ c8.size ≤ B ∧ (Lit.int .i64 c9).wf = true ∧ ZB RS B c10 ∧ ZB Yq B c11 ∧ (Lit.int .i64 c12).wf = true ∧ c13.size ≤ B ∧ (Lit.int .i64 c14).wf = true ∧ ZB RS B c15 ∧ ZB Yq B c16 ∧ True := h
theorem Ya.mono {B B' : Nat} (hb : B ≤ B') {r : List D} (h : Ya B r) : Ya B' r := by
 obtain ⟨c0,c1,c2,c3,c4,c5,c6,c7,c8,c9,c10,c11,c12,c13,c14,c15,c16,rfl,k0,k1,k2,k3,k4,k6,k7,k8,k9,k10,k11,k12,k13,k14,k15,k16,_⟩ := h
 exact ⟨_,_,_,_,_,_,_,_,_,_,_,_,_,_,_,_,_,rfl,k0,(Nat.le_trans k1 hb),k2,k3,k4,⟨Nat.le_trans k6.1 hb,fun r hr => (k6.2 r hr).mono hb⟩,k7,(Nat.le_trans k8 hb),k9,⟨Nat.le_trans k10.1 hb,fun r hr => (k10.2 r hr).mono hb⟩,⟨Nat.le_trans k11.1 hb,fun r hr => (k11.2 r hr).mono hb⟩,k12,(Nat.le_trans k13 hb),k14,⟨Nat.le_trans k15.1 hb,fun r hr => (k15.2 r hr).mono hb⟩,⟨Nat.le_trans k16.1 hb,fun r hr => (k16.2 r hr).mono hb⟩,trivial⟩
theorem Ya.wide {xs : LD} (h : ZB Ya lim xs) : ZB Ya 2097152 xs := ⟨Nat.le_trans h.1 (by decide),fun r hr => (h.2 r hr).mono (by decide)⟩
theorem Ya.len {B : Nat} {r : List D} (h : Ya B r) : r.length = 17 := by
 obtain ⟨c0,c1,c2,c3,c4,c5,c6,c7,c8,c9,c10,c11,c12,c13,c14,c15,c16,rfl,_⟩ := h.open
 rfl
theorem Ya.gets {B : Nat} {xs : LD} (h : ∀ r ∈ xs,Ya B r) {v : Int} (h0 : 0 ≤ v) (h1 : v < xs.length) : gR xs v = [.int .i64 (gI xs v 0),.str (gS xs v 1),.int .i64 (gI xs v 2),.int .i64 (gI xs v 3),.int .i64 (gI xs v 4),.bool (gB xs v 5),.sl (gL xs v 6),.int .i64 (gI xs v 7),.str (gS xs v 8),.int .i64 (gI xs v 9),.sl (gL xs v 10),.sl (gL xs v 11),.int .i64 (gI xs v 12),.str (gS xs v 13),.int .i64 (gI xs v 14),.sl (gL xs v 15),.sl (gL xs v 16)] ∧ (Lit.int .i64 (gI xs v 0)).wf = true ∧ (gS xs v 1).size ≤ B ∧ (Lit.int .i64 (gI xs v 2)).wf = true ∧ (Lit.int .i64 (gI xs v 3)).wf = true ∧ (Lit.int .i64 (gI xs v 4)).wf = true ∧ ZB RS B (gL xs v 6) ∧ (Lit.int .i64 (gI xs v 7)).wf = true ∧ (gS xs v 8).size ≤ B ∧ (Lit.int .i64 (gI xs v 9)).wf = true ∧ ZB RS B (gL xs v 10) ∧ ZB Yq B (gL xs v 11) ∧ (Lit.int .i64 (gI xs v 12)).wf = true ∧ (gS xs v 13).size ≤ B ∧ (Lit.int .i64 (gI xs v 14)).wf = true ∧ ZB RS B (gL xs v 15) ∧ ZB Yq B (gL xs v 16) ∧ True := by
 obtain ⟨c0,c1,c2,c3,c4,c5,c6,c7,c8,c9,c10,c11,c12,c13,c14,c15,c16,e,k0,k1,k2,k3,k4,k6,k7,k8,k9,k10,k11,k12,k13,k14,k15,k16,_⟩ := (h (gR xs v) (gR_mem h0 h1)).open
 unfold gB gI gL gS
 rw [e]
 exact ⟨rfl,k0,k1,k2,k3,k4,k6,k7,k8,k9,k10,k11,k12,k13,k14,k15,k16,trivial⟩
theorem Ya.rows {B : Nat} {xs : LD} (h : ∀ r ∈ xs,Ya B r) {v : Int} (h0 : 0 ≤ v) (h1 : v < xs.length) {β : Type} (F : List D → Option β) : atRow xs v F = F [.int .i64 (gI xs v 0),.str (gS xs v 1),.int .i64 (gI xs v 2),.int .i64 (gI xs v 3),.int .i64 (gI xs v 4),.bool (gB xs v 5),.sl (gL xs v 6),.int .i64 (gI xs v 7),.str (gS xs v 8),.int .i64 (gI xs v 9),.sl (gL xs v 10),.sl (gL xs v 11),.int .i64 (gI xs v 12),.str (gS xs v 13),.int .i64 (gI xs v 14),.sl (gL xs v 15),.sl (gL xs v 16)] := by
 rw [← (Ya.gets h h0 h1).1]
 exact Zck h0 h1 F
theorem Ya.get {B : Nat} {xs : LD} (h : ZB Ya B xs) {v : Int} (h0 : 0 ≤ v) (h1 : v < xs.length) : gR xs v = [.int .i64 (gI xs v 0),.str (gS xs v 1),.int .i64 (gI xs v 2),.int .i64 (gI xs v 3),.int .i64 (gI xs v 4),.bool (gB xs v 5),.sl (gL xs v 6),.int .i64 (gI xs v 7),.str (gS xs v 8),.int .i64 (gI xs v 9),.sl (gL xs v 10),.sl (gL xs v 11),.int .i64 (gI xs v 12),.str (gS xs v 13),.int .i64 (gI xs v 14),.sl (gL xs v 15),.sl (gL xs v 16)] ∧ (Lit.int .i64 (gI xs v 0)).wf = true ∧ (gS xs v 1).size ≤ B ∧ (Lit.int .i64 (gI xs v 2)).wf = true ∧ (Lit.int .i64 (gI xs v 3)).wf = true ∧ (Lit.int .i64 (gI xs v 4)).wf = true ∧ ZB RS B (gL xs v 6) ∧ (Lit.int .i64 (gI xs v 7)).wf = true ∧ (gS xs v 8).size ≤ B ∧ (Lit.int .i64 (gI xs v 9)).wf = true ∧ ZB RS B (gL xs v 10) ∧ ZB Yq B (gL xs v 11) ∧ (Lit.int .i64 (gI xs v 12)).wf = true ∧ (gS xs v 13).size ≤ B ∧ (Lit.int .i64 (gI xs v 14)).wf = true ∧ ZB RS B (gL xs v 15) ∧ ZB Yq B (gL xs v 16) ∧ True := Ya.gets h.2 h0 h1
theorem Ya.row {B : Nat} {xs : LD} (h : ZB Ya B xs) {v : Int} (h0 : 0 ≤ v) (h1 : v < xs.length) {β : Type} (F : List D → Option β) : atRow xs v F = F [.int .i64 (gI xs v 0),.str (gS xs v 1),.int .i64 (gI xs v 2),.int .i64 (gI xs v 3),.int .i64 (gI xs v 4),.bool (gB xs v 5),.sl (gL xs v 6),.int .i64 (gI xs v 7),.str (gS xs v 8),.int .i64 (gI xs v 9),.sl (gL xs v 10),.sl (gL xs v 11),.int .i64 (gI xs v 12),.str (gS xs v 13),.int .i64 (gI xs v 14),.sl (gL xs v 15),.sl (gL xs v 16)] := Ya.rows h.2 h0 h1 F
set_option maxRecDepth 100000 in
theorem YY.T {a0 : LD} {a1 : Int} (h0 : 0 ≤ a1) (h1 : a1 ≤ 1048576) (ga0 : ZB Ya maxLen a0) : Tm (Zai 1) (fun k => YY.t k a0 a1) (fun r => r < 0 ∨ 0 ≤ r ∧ r ≤ a1 ∧ ZB Ya lim a0 ∧ ((Zu a0 : Nat) : Int) ≤ 64 * (a1 - r) ∧ True) := by
 unfold YY.t YY.g
 have hm := maxLen_eq
 have hlim : lim = 1048576 := rfl
 have hlen := ga0.1
 try rw [Z9 (x := a1 - (a0.length : Int)) (by omega) (by omega)]
 refine Tm.ite (fun h1 => ?_) (fun h1 => ?_)
 ·try simp only [bz0,bz1,bz2,bz3,bz4,bz5,bz6,bz7,bz8,bz9,bza] at h1
  exact Tm.ret (by first | (left; omega) | (right; refine ⟨?_,?_,?_,?_,trivial⟩ <;> first | assumption | omega))
 ·try simp only [bz0,bz1,bz2,bz3,bz4,bz5,bz6,bz7,bz8,bz9,bza] at h1
  refine Tm.loop (okk := (Zai 1)) (p := fun k => k) (fun i hi => up0 hi) (b := fun k => YY.l0 k a0 (fun z0 => some z0)) (fun v => match v with | (u0,i) => (((a0.length : Int)) - i).toNat) (fun v => match v with | (u0,i) => 0 ≤ u0 ∧ u0 ≤ a1 ∧ 0 ≤ i ∧ i ≤ (a0.length : Int) ∧ (∀ r ∈ a0.take i.toNat,Ya lim r) ∧ ((Zu (a0.take i.toNat) : Nat) : Int) ≤ 64 * (a1 - a0.length - u0 + i)) ?_ ?_ ?_
  ·rintro ⟨u0,i⟩ hI
   try simp only [] at hI ⊢
   have : big = 2 ^ 64 := rfl
   have := ga0.1
   omega
  ·exact ⟨by omega,by omega,by omega,by simp,by simp,by simp [Zu]⟩
  ·rintro ⟨u0,i⟩ hI L hL
   try simp only [] at hI
   obtain ⟨u0a,u0b,i0,i1,hr,hwt⟩ := hI
   simp only [YY.l0,atR,rdQ,Q.ask]
   refine Tm.ite (fun h2 => ?_) (fun h2 => ?_)
   ·try simp only [bz0,bz1,bz2,bz3,bz4,bz5,bz6,bz7,bz8,bz9,bza] at h2
    refine Tm.atRow (by first | assumption | omega) (by first | assumption | omega) (fun x3 hx4 hm5 => ?_)
    obtain ⟨c6,c7,c8,c9,c10,c11,c12,c13,c14,c15,c16,c17,c18,c19,c20,c21,c22,rfl,g23,g24,g25,g26,g27,g28,g29,g30,g31,g32,g33,g34,g35,g36,g37,g38,_⟩ := (ga0.2 x3 hm5).open
    refine Tm.uncons ?_
    refine Tm.dInt ?_
    refine Tm.uncons ?_
    refine Tm.dStr ?_
    refine Tm.uncons ?_
    refine Tm.dInt ?_
    refine Tm.uncons ?_
    refine Tm.dInt ?_
    refine Tm.uncons ?_
    refine Tm.dInt ?_
    refine Tm.uncons ?_
    refine Tm.dBool ?_
    refine Tm.uncons ?_
    refine Tm.dSl ?_
    refine Tm.uncons ?_
    refine Tm.dInt ?_
    refine Tm.uncons ?_
    refine Tm.dStr ?_
    refine Tm.uncons ?_
    refine Tm.dInt ?_
    refine Tm.uncons ?_
    refine Tm.dSl ?_
    refine Tm.uncons ?_
    refine Tm.dSl ?_
    refine Tm.uncons ?_
    refine Tm.dInt ?_
    refine Tm.uncons ?_
    refine Tm.dStr ?_
    refine Tm.uncons ?_
    refine Tm.dInt ?_
    refine Tm.uncons ?_
    refine Tm.dSl ?_
    refine Tm.uncons ?_
    refine Tm.dSl ?_
    refine Tm.atEnd ?_
    refine YaF.tm (fun i hi => hi.1) (YaF.T (by first | assumption | omega) (by first | assumption | omega) (by first | assumption | omega) (by first | assumption | omega) (by first | assumption | omega) (by first | assumption | omega) (by first | assumption | omega) (by first | assumption | omega) (by first | assumption | omega) (by first | assumption | omega)) (fun y40 hy39 => ?_)
    rcases hy39 with hy39 | ⟨p50,p51,q41,q42,q43,q44,q45,q46,q47,q48,q49,_⟩
    ·exact Tm.ite (fun _ => Tm.ret (by left; omega)) (fun h => by simp at h; omega)
    refine Tm.ite (fun h52 => ?_) (fun h52 => ?_)
    ·try simp only [bz0,bz1,bz2,bz3,bz4,bz5,bz6,bz7,bz8,bz9,bza] at h52
     exact Tm.ret (by first | (left; omega) | (rw [List.take_of_length_le (by omega)] at hwt; exact .inr ⟨by omega,by omega,⟨by simp only [lim]; omega,all_rows (by omega) hr⟩,by omega,trivial⟩))
    ·try simp only [bz0,bz1,bz2,bz3,bz4,bz5,bz6,bz7,bz8,bz9,bza] at h52
     try rw [Z9 (x := i + 1) (by omega) (by omega)]
     have hwx := wt_take i0 hx4
     simp only [ZbY,wtD] at hwx
     refine hL (y40,(i + 1)) ⟨by omega,by omega,by omega,by omega,take_rows i0 hx4 hr ⟨_,_,_,_,_,_,_,_,_,_,_,_,_,_,_,_,_,rfl,by first | assumption | omega,by first | assumption | omega,by first | assumption | omega,by first | assumption | omega,by first | assumption | omega,by first | assumption | omega,by first | assumption | omega,by first | assumption | omega,by first | assumption | omega,by first | assumption | omega,by first | assumption | omega,by first | assumption | omega,by first | assumption | omega,by first | assumption | omega,by first | assumption | omega,by first | assumption | omega,trivial⟩,by omega⟩ (by (try simp only []); omega)
   ·try simp only [bz0,bz1,bz2,bz3,bz4,bz5,bz6,bz7,bz8,bz9,bza] at h2
    exact Tm.ret (by first | (left; omega) | (rw [List.take_of_length_le (by omega)] at hwt; exact .inr ⟨by omega,by omega,⟨by simp only [lim]; omega,all_rows (by omega) hr⟩,by omega,trivial⟩))
theorem Yax.tm {ι α : Type} {ok : ι → Prop} {ψ : α → Prop} {p : ι → Nat} {B : Nat} (hp : ∀ i,ok i → B ≤ p i) {aB aA a1 φ} (h : Tm (fun k => B ≤ k) (fun k => Yax.t k aB aA a1) φ) {G : ι → Int → Option α} (hG : ∀ z0,φ z0 → Tm ok (fun i => G i z0) ψ) : Tm ok (fun i => Yax.f (p i) aB aA a1 (G i)) ψ := bd1_tm (t := fun k => Yax.t k aB aA a1) hp h hG
theorem Yax.T {aB : Int} {aA : LD} {a1 : Int} (h0 : 0 ≤ a1) (h1 : a1 ≤ 1048576) (ga0_1 : ZB Ya maxLen aA) : Tm (Zai 1) (fun k => Yax.t k aB aA a1) (fun r => r < 0 ∨ 0 ≤ r ∧ r ≤ a1 ∧ ZB Ya lim aA ∧ ((Zu aA : Nat) : Int) ≤ 64 * (a1 - r) ∧ True) := by
 unfold Yax.t Yax.g
 have hm := maxLen_eq
 have hlim : lim = 1048576 := rfl
 refine YY.tm (fun i hi => hi) (YY.T (by first | assumption | omega) (by first | assumption | omega) (by first | assumption | omega)) (fun y2 hy1 => ?_)
 rcases hy1 with hy1 | ⟨p5,p6,q3,q4,_⟩
 ·exact Tm.ite (fun _ => Tm.ret (by left; omega)) (fun h => by simp at h; omega)
 refine Tm.ite (fun h7 => ?_) (fun h7 => ?_)
 ·try simp only [bz0,bz1,bz2,bz3,bz4,bz5,bz6,bz7,bz8,bz9,bza] at h7
  exact Tm.ret (by first | (left; omega) | (right; refine ⟨?_,?_,?_,?_,trivial⟩ <;> first | assumption | omega))
 ·try simp only [bz0,bz1,bz2,bz3,bz4,bz5,bz6,bz7,bz8,bz9,bza] at h7
  exact Tm.ret (by first | (left; omega) | (right; refine ⟨?_,?_,?_,?_,trivial⟩ <;> first | assumption | omega))
theorem Yay.tm {ι α : Type} {ok : ι → Prop} {ψ : α → Prop} {p : ι → Nat} {B : Nat} (hp : ∀ i,ok i → B ≤ p i) {aB aA aH aF aI bD aV bA aP bB aQ aW aY aR bC aT aX bZ cA a1 φ} (h : Tm (fun k => B ≤ k) (fun k => Yay.t k aB aA aH aF aI bD aV bA aP bB aQ aW aY aR bC aT aX bZ cA a1) φ) {G : ι → Int → Option α} (hG : ∀ z0,φ z0 → Tm ok (fun i => G i z0) ψ) : Tm ok (fun i => Yay.f (p i) aB aA aH aF aI bD aV bA aP bB aQ aW aY aR bC aT aX bZ cA a1 (G i)) ψ := bd1_tm (t := fun k => Yay.t k aB aA aH aF aI bD aV bA aP bB aQ aW aY aR bC aT aX bZ cA a1) hp h hG
theorem Yay.T {aB : Int} {aA : Bool} {aH : Int} {aF : BA} {aI bD aV : Int} {bA : Bool} {aP : LD} {bB : Int} {aQ : BA} {aW : Int} {aY aR : LD} {bC : Int} {aT : BA} {aX : Int} {bZ cA : LD} {a1 : Int} (h0 : 0 ≤ a1) (h1 : a1 ≤ 1048576) (ga0_3 : aF.size ≤ maxLen) (ga0_8 : ZB RS maxLen aP) (ga0_10 : aQ.size ≤ maxLen) (ga0_12 : ZB RS maxLen aY) (ga0_13 : ZB Yq maxLen aR) (ga0_15 : aT.size ≤ maxLen) (ga0_17 : ZB RS maxLen bZ) (ga0_18 : ZB Yq maxLen cA) : Tm (Zai 1) (fun k => Yay.t k aB aA aH aF aI bD aV bA aP bB aQ aW aY aR bC aT aX bZ cA a1) (fun r => r < 0 ∨ 0 ≤ r ∧ r ≤ a1 ∧ aF.size ≤ lim ∧ ZB RS lim aP ∧ aQ.size ≤ lim ∧ ZB RS lim aY ∧ ZB Yq lim aR ∧ aT.size ≤ lim ∧ ZB RS lim bZ ∧ ZB Yq lim cA ∧ ((Zu aP + Zu aY + Zu aR + Zu bZ + Zu cA : Nat) : Int) ≤ 64 * (a1 - r) ∧ True) := by
 unfold Yay.t Yay.g
 have hm := maxLen_eq
 have hlim : lim = 1048576 := rfl
 refine YaF.tm (fun i hi => hi) (YaF.T (by first | assumption | omega) (by first | assumption | omega) (by first | assumption | omega) (by first | assumption | omega) (by first | assumption | omega) (by first | assumption | omega) (by first | assumption | omega) (by first | assumption | omega) (by first | assumption | omega) (by first | assumption | omega)) (fun y2 hy1 => ?_)
 rcases hy1 with hy1 | ⟨p12,p13,q3,q4,q5,q6,q7,q8,q9,q10,q11,_⟩
 ·exact Tm.ite (fun _ => Tm.ret (by left; omega)) (fun h => by simp at h; omega)
 refine Tm.ite (fun h14 => ?_) (fun h14 => ?_)
 ·try simp only [bz0,bz1,bz2,bz3,bz4,bz5,bz6,bz7,bz8,bz9,bza] at h14
  exact Tm.ret (by first | (left; omega) | (right; refine ⟨?_,?_,?_,?_,?_,?_,?_,?_,?_,?_,?_,trivial⟩ <;> first | assumption | omega))
 ·try simp only [bz0,bz1,bz2,bz3,bz4,bz5,bz6,bz7,bz8,bz9,bza] at h14
  exact Tm.ret (by first | (left; omega) | (right; refine ⟨?_,?_,?_,?_,?_,?_,?_,?_,?_,?_,?_,trivial⟩ <;> first | assumption | omega))
theorem YK.tm {ι α : Type} {ok : ι → Prop} {ψ : α → Prop} {p : ι → Nat} {B : Nat} (hp : ∀ i,ok i → B ≤ p i) {a0 a1 φ} (h : Tm (fun k => B ≤ k) (fun k => YK.t k a0 a1) φ) {G : ι → Int → Option α} (hG : ∀ z0,φ z0 → Tm ok (fun i => G i z0) ψ) : Tm ok (fun i => YK.f (p i) a0 a1 (G i)) ψ := bd1_tm (t := fun k => YK.t k a0 a1) hp h hG
def Yb (B : Nat) (r : List D) : Prop := ∃ (c0 : Int) (c1 : Bool) (c2 : Int) (c3 : BA) (c4 : Int) (c5 : Int) (c6 : Int) (c7 : Bool) (c8 : LD) (c9 : Int) (c10 : BA) (c11 : Int) (c12 : LD) (c13 : LD) (c14 : Int) (c15 : BA) (c16 : Int) (c17 : LD) (c18 : LD),r = [.int .i64 c0,.bool c1,.int .i64 c2,.str c3,.int .i64 c4,.int .i64 c5,.int .i64 c6,.bool c7,.sl c8,.int .i64 c9,.str c10,.int .i64 c11,.sl c12,.sl c13,.int .i64 c14,.str c15,.int .i64 c16,.sl c17,.sl c18] ∧ (Lit.int .i64 c0).wf = true ∧ (Lit.int .i64 c2).wf = true ∧ c3.size ≤ B ∧ (Lit.int .i64 c4).wf = true ∧ (Lit.int .i64 c5).wf = true ∧ (Lit.int .i64 c6).wf = true ∧ ZB RS B c8 ∧ (Lit.int .i64 c9).wf = true ∧ c10.size ≤ B ∧ (Lit.int .i64 c11).wf = true ∧ ZB RS B c12 ∧ ZB Yq B c13 ∧ (Lit.int .i64 c14).wf = true ∧ c15.size ≤ B ∧ (Lit.int .i64 c16).wf = true ∧ ZB RS B c17 ∧ ZB Yq B c18 ∧ True
theorem Yb.open {B : Nat} {r : List D} (h : Yb B r) : ∃ (c0 : Int) (c1 : Bool) (c2 : Int) (c3 : BA) (c4 : Int) (c5 : Int) (c6 : Int) (c7 : Bool) (c8 : LD) (c9 : Int) (c10 : BA) (c11 : Int) (c12 : LD) (c13 : LD) (c14 : Int) (c15 : BA) (c16 : Int) (c17 : LD) (c18 : LD),r = [.int .i64 c0,.bool c1,.int .i64 c2,.str c3,.int .i64 c4,.int .i64 c5,.int .i64 c6,.bool c7,.sl c8,.int .i64 c9,.str c10,.int .i64 c11,.sl c12,.sl c13,.int .i64 c14,.str c15,.int .i64 c16,.sl c17,.sl c18] ∧ (Lit.int .i64 c0).wf = true ∧ (Lit.int .i64 c2).wf = true ∧ c3.size ≤ B ∧ (Lit.int .i64 c4).wf = true ∧ (Lit.int .i64 c5).wf = true ∧ (Lit.int .i64 c6).wf = true ∧ ZB RS B c8 ∧ (Lit.int .i64 c9).wf = true ∧ c10.size ≤ B ∧ (Lit.int .i64 c11).wf = true ∧ ZB RS B c12 ∧ ZB Yq B c13 ∧ (Lit.int .i64 c14).wf = true ∧ c15.size ≤ B ∧ (Lit.int .i64 c16).wf = true ∧ ZB RS B c17 ∧ ZB Yq B c18 ∧ True := h
theorem Yb.mono {B B' : Nat} (hb : B ≤ B') {r : List D} (h : Yb B r) : Yb B' r := by
 obtain ⟨c0,c1,c2,c3,c4,c5,c6,c7,c8,c9,c10,c11,c12,c13,c14,c15,c16,c17,c18,rfl,k0,k2,k3,k4,k5,k6,k8,k9,k10,k11,k12,k13,k14,k15,k16,k17,k18,_⟩ := h
 exact ⟨_,_,_,_,_,_,_,_,_,_,_,_,_,_,_,_,_,_,_,rfl,k0,k2,(Nat.le_trans k3 hb),k4,k5,k6,⟨Nat.le_trans k8.1 hb,fun r hr => (k8.2 r hr).mono hb⟩,k9,(Nat.le_trans k10 hb),k11,⟨Nat.le_trans k12.1 hb,fun r hr => (k12.2 r hr).mono hb⟩,⟨Nat.le_trans k13.1 hb,fun r hr => (k13.2 r hr).mono hb⟩,k14,(Nat.le_trans k15 hb),k16,⟨Nat.le_trans k17.1 hb,fun r hr => (k17.2 r hr).mono hb⟩,⟨Nat.le_trans k18.1 hb,fun r hr => (k18.2 r hr).mono hb⟩,trivial⟩
theorem Yb.wide {xs : LD} (h : ZB Yb lim xs) : ZB Yb 2097152 xs := ⟨Nat.le_trans h.1 (by decide),fun r hr => (h.2 r hr).mono (by decide)⟩
theorem Yb.len {B : Nat} {r : List D} (h : Yb B r) : r.length = 19 := by
 obtain ⟨c0,c1,c2,c3,c4,c5,c6,c7,c8,c9,c10,c11,c12,c13,c14,c15,c16,c17,c18,rfl,_⟩ := h.open
 rfl
theorem Yb.gets {B : Nat} {xs : LD} (h : ∀ r ∈ xs,Yb B r) {v : Int} (h0 : 0 ≤ v) (h1 : v < xs.length) : gR xs v = [.int .i64 (gI xs v 0),.bool (gB xs v 1),.int .i64 (gI xs v 2),.str (gS xs v 3),.int .i64 (gI xs v 4),.int .i64 (gI xs v 5),.int .i64 (gI xs v 6),.bool (gB xs v 7),.sl (gL xs v 8),.int .i64 (gI xs v 9),.str (gS xs v 10),.int .i64 (gI xs v 11),.sl (gL xs v 12),.sl (gL xs v 13),.int .i64 (gI xs v 14),.str (gS xs v 15),.int .i64 (gI xs v 16),.sl (gL xs v 17),.sl (gL xs v 18)] ∧ (Lit.int .i64 (gI xs v 0)).wf = true ∧ (Lit.int .i64 (gI xs v 2)).wf = true ∧ (gS xs v 3).size ≤ B ∧ (Lit.int .i64 (gI xs v 4)).wf = true ∧ (Lit.int .i64 (gI xs v 5)).wf = true ∧ (Lit.int .i64 (gI xs v 6)).wf = true ∧ ZB RS B (gL xs v 8) ∧ (Lit.int .i64 (gI xs v 9)).wf = true ∧ (gS xs v 10).size ≤ B ∧ (Lit.int .i64 (gI xs v 11)).wf = true ∧ ZB RS B (gL xs v 12) ∧ ZB Yq B (gL xs v 13) ∧ (Lit.int .i64 (gI xs v 14)).wf = true ∧ (gS xs v 15).size ≤ B ∧ (Lit.int .i64 (gI xs v 16)).wf = true ∧ ZB RS B (gL xs v 17) ∧ ZB Yq B (gL xs v 18) ∧ True := by
 obtain ⟨c0,c1,c2,c3,c4,c5,c6,c7,c8,c9,c10,c11,c12,c13,c14,c15,c16,c17,c18,e,k0,k2,k3,k4,k5,k6,k8,k9,k10,k11,k12,k13,k14,k15,k16,k17,k18,_⟩ := (h (gR xs v) (gR_mem h0 h1)).open
 unfold gB gI gL gS
 rw [e]
 exact ⟨rfl,k0,k2,k3,k4,k5,k6,k8,k9,k10,k11,k12,k13,k14,k15,k16,k17,k18,trivial⟩
theorem Yb.rows {B : Nat} {xs : LD} (h : ∀ r ∈ xs,Yb B r) {v : Int} (h0 : 0 ≤ v) (h1 : v < xs.length) {β : Type} (F : List D → Option β) : atRow xs v F = F [.int .i64 (gI xs v 0),.bool (gB xs v 1),.int .i64 (gI xs v 2),.str (gS xs v 3),.int .i64 (gI xs v 4),.int .i64 (gI xs v 5),.int .i64 (gI xs v 6),.bool (gB xs v 7),.sl (gL xs v 8),.int .i64 (gI xs v 9),.str (gS xs v 10),.int .i64 (gI xs v 11),.sl (gL xs v 12),.sl (gL xs v 13),.int .i64 (gI xs v 14),.str (gS xs v 15),.int .i64 (gI xs v 16),.sl (gL xs v 17),.sl (gL xs v 18)] := by
 rw [← (Yb.gets h h0 h1).1]
 exact Zck h0 h1 F
theorem Yb.get {B : Nat} {xs : LD} (h : ZB Yb B xs) {v : Int} (h0 : 0 ≤ v) (h1 : v < xs.length) : gR xs v = [.int .i64 (gI xs v 0),.bool (gB xs v 1),.int .i64 (gI xs v 2),.str (gS xs v 3),.int .i64 (gI xs v 4),.int .i64 (gI xs v 5),.int .i64 (gI xs v 6),.bool (gB xs v 7),.sl (gL xs v 8),.int .i64 (gI xs v 9),.str (gS xs v 10),.int .i64 (gI xs v 11),.sl (gL xs v 12),.sl (gL xs v 13),.int .i64 (gI xs v 14),.str (gS xs v 15),.int .i64 (gI xs v 16),.sl (gL xs v 17),.sl (gL xs v 18)] ∧ (Lit.int .i64 (gI xs v 0)).wf = true ∧ (Lit.int .i64 (gI xs v 2)).wf = true ∧ (gS xs v 3).size ≤ B ∧ (Lit.int .i64 (gI xs v 4)).wf = true ∧ (Lit.int .i64 (gI xs v 5)).wf = true ∧ (Lit.int .i64 (gI xs v 6)).wf = true ∧ ZB RS B (gL xs v 8) ∧ (Lit.int .i64 (gI xs v 9)).wf = true ∧ (gS xs v 10).size ≤ B ∧ (Lit.int .i64 (gI xs v 11)).wf = true ∧ ZB RS B (gL xs v 12) ∧ ZB Yq B (gL xs v 13) ∧ (Lit.int .i64 (gI xs v 14)).wf = true ∧ (gS xs v 15).size ≤ B ∧ (Lit.int .i64 (gI xs v 16)).wf = true ∧ ZB RS B (gL xs v 17) ∧ ZB Yq B (gL xs v 18) ∧ True := Yb.gets h.2 h0 h1
theorem Yb.row {B : Nat} {xs : LD} (h : ZB Yb B xs) {v : Int} (h0 : 0 ≤ v) (h1 : v < xs.length) {β : Type} (F : List D → Option β) : atRow xs v F = F [.int .i64 (gI xs v 0),.bool (gB xs v 1),.int .i64 (gI xs v 2),.str (gS xs v 3),.int .i64 (gI xs v 4),.int .i64 (gI xs v 5),.int .i64 (gI xs v 6),.bool (gB xs v 7),.sl (gL xs v 8),.int .i64 (gI xs v 9),.str (gS xs v 10),.int .i64 (gI xs v 11),.sl (gL xs v 12),.sl (gL xs v 13),.int .i64 (gI xs v 14),.str (gS xs v 15),.int .i64 (gI xs v 16),.sl (gL xs v 17),.sl (gL xs v 18)] := Yb.rows h.2 h0 h1 F
set_option maxRecDepth 100000 in
theorem YK.T {a0 : LD} {a1 : Int} (h0 : 0 ≤ a1) (h1 : a1 ≤ 1048576) (ga0 : ZB Yb maxLen a0) : Tm (Zai 1) (fun k => YK.t k a0 a1) (fun r => r < 0 ∨ 0 ≤ r ∧ r ≤ a1 ∧ ZB Yb lim a0 ∧ ((Zu a0 : Nat) : Int) ≤ 64 * (a1 - r) ∧ True) := by
 unfold YK.t YK.g
 have hm := maxLen_eq
 have hlim : lim = 1048576 := rfl
 have hlen := ga0.1
 try rw [Z9 (x := a1 - (a0.length : Int)) (by omega) (by omega)]
 refine Tm.ite (fun h1 => ?_) (fun h1 => ?_)
 ·try simp only [bz0,bz1,bz2,bz3,bz4,bz5,bz6,bz7,bz8,bz9,bza] at h1
  exact Tm.ret (by first | (left; omega) | (right; refine ⟨?_,?_,?_,?_,trivial⟩ <;> first | assumption | omega))
 ·try simp only [bz0,bz1,bz2,bz3,bz4,bz5,bz6,bz7,bz8,bz9,bza] at h1
  refine Tm.loop (okk := (Zai 1)) (p := fun k => k) (fun i hi => up0 hi) (b := fun k => YK.l0 k a0 (fun z0 => some z0)) (fun v => match v with | (u0,i) => (((a0.length : Int)) - i).toNat) (fun v => match v with | (u0,i) => 0 ≤ u0 ∧ u0 ≤ a1 ∧ 0 ≤ i ∧ i ≤ (a0.length : Int) ∧ (∀ r ∈ a0.take i.toNat,Yb lim r) ∧ ((Zu (a0.take i.toNat) : Nat) : Int) ≤ 64 * (a1 - a0.length - u0 + i)) ?_ ?_ ?_
  ·rintro ⟨u0,i⟩ hI
   try simp only [] at hI ⊢
   have : big = 2 ^ 64 := rfl
   have := ga0.1
   omega
  ·exact ⟨by omega,by omega,by omega,by simp,by simp,by simp [Zu]⟩
  ·rintro ⟨u0,i⟩ hI L hL
   try simp only [] at hI
   obtain ⟨u0a,u0b,i0,i1,hr,hwt⟩ := hI
   simp only [YK.l0,atR,rdQ,Q.ask]
   refine Tm.ite (fun h2 => ?_) (fun h2 => ?_)
   ·try simp only [bz0,bz1,bz2,bz3,bz4,bz5,bz6,bz7,bz8,bz9,bza] at h2
    refine Tm.atRow (by first | assumption | omega) (by first | assumption | omega) (fun x3 hx4 hm5 => ?_)
    obtain ⟨c6,c7,c8,c9,c10,c11,c12,c13,c14,c15,c16,c17,c18,c19,c20,c21,c22,c23,c24,rfl,g25,g26,g27,g28,g29,g30,g31,g32,g33,g34,g35,g36,g37,g38,g39,g40,g41,_⟩ := (ga0.2 x3 hm5).open
    refine Tm.uncons ?_
    refine Tm.dInt ?_
    refine Tm.uncons ?_
    refine Tm.dBool ?_
    refine Tm.uncons ?_
    refine Tm.dInt ?_
    refine Tm.uncons ?_
    refine Tm.dStr ?_
    refine Tm.uncons ?_
    refine Tm.dInt ?_
    refine Tm.uncons ?_
    refine Tm.dInt ?_
    refine Tm.uncons ?_
    refine Tm.dInt ?_
    refine Tm.uncons ?_
    refine Tm.dBool ?_
    refine Tm.uncons ?_
    refine Tm.dSl ?_
    refine Tm.uncons ?_
    refine Tm.dInt ?_
    refine Tm.uncons ?_
    refine Tm.dStr ?_
    refine Tm.uncons ?_
    refine Tm.dInt ?_
    refine Tm.uncons ?_
    refine Tm.dSl ?_
    refine Tm.uncons ?_
    refine Tm.dSl ?_
    refine Tm.uncons ?_
    refine Tm.dInt ?_
    refine Tm.uncons ?_
    refine Tm.dStr ?_
    refine Tm.uncons ?_
    refine Tm.dInt ?_
    refine Tm.uncons ?_
    refine Tm.dSl ?_
    refine Tm.uncons ?_
    refine Tm.dSl ?_
    refine Tm.atEnd ?_
    refine Yay.tm (fun i hi => hi.1) (Yay.T (by first | assumption | omega) (by first | assumption | omega) (by first | assumption | omega) (by first | assumption | omega) (by first | assumption | omega) (by first | assumption | omega) (by first | assumption | omega) (by first | assumption | omega) (by first | assumption | omega) (by first | assumption | omega)) (fun y43 hy42 => ?_)
    rcases hy42 with hy42 | ⟨p53,p54,q44,q45,q46,q47,q48,q49,q50,q51,q52,_⟩
    ·exact Tm.ite (fun _ => Tm.ret (by left; omega)) (fun h => by simp at h; omega)
    refine Tm.ite (fun h55 => ?_) (fun h55 => ?_)
    ·try simp only [bz0,bz1,bz2,bz3,bz4,bz5,bz6,bz7,bz8,bz9,bza] at h55
     exact Tm.ret (by first | (left; omega) | (rw [List.take_of_length_le (by omega)] at hwt; exact .inr ⟨by omega,by omega,⟨by simp only [lim]; omega,all_rows (by omega) hr⟩,by omega,trivial⟩))
    ·try simp only [bz0,bz1,bz2,bz3,bz4,bz5,bz6,bz7,bz8,bz9,bza] at h55
     try rw [Z9 (x := i + 1) (by omega) (by omega)]
     have hwx := wt_take i0 hx4
     simp only [ZbY,wtD] at hwx
     refine hL (y43,(i + 1)) ⟨by omega,by omega,by omega,by omega,take_rows i0 hx4 hr ⟨_,_,_,_,_,_,_,_,_,_,_,_,_,_,_,_,_,_,_,rfl,by first | assumption | omega,by first | assumption | omega,by first | assumption | omega,by first | assumption | omega,by first | assumption | omega,by first | assumption | omega,by first | assumption | omega,by first | assumption | omega,by first | assumption | omega,by first | assumption | omega,by first | assumption | omega,by first | assumption | omega,by first | assumption | omega,by first | assumption | omega,by first | assumption | omega,by first | assumption | omega,by first | assumption | omega,trivial⟩,by omega⟩ (by (try simp only []); omega)
   ·try simp only [bz0,bz1,bz2,bz3,bz4,bz5,bz6,bz7,bz8,bz9,bza] at h2
    exact Tm.ret (by first | (left; omega) | (rw [List.take_of_length_le (by omega)] at hwt; exact .inr ⟨by omega,by omega,⟨by simp only [lim]; omega,all_rows (by omega) hr⟩,by omega,trivial⟩))
theorem YaJ.tm {ι α : Type} {ok : ι → Prop} {ψ : α → Prop} {p : ι → Nat} {B : Nat} (hp : ∀ i,ok i → B ≤ p i) {aB aA aH aF a1 φ} (h : Tm (fun k => B ≤ k) (fun k => YaJ.t k aB aA aH aF a1) φ) {G : ι → Int → Option α} (hG : ∀ z0,φ z0 → Tm ok (fun i => G i z0) ψ) : Tm ok (fun i => YaJ.f (p i) aB aA aH aF a1 (G i)) ψ := bd1_tm (t := fun k => YaJ.t k aB aA aH aF a1) hp h hG
theorem YaJ.T {aB : LD} {aA aH : Int} {aF : LD} {a1 : Int} (h0 : 0 ≤ a1) (h1 : a1 ≤ 1048576) (ga0_0 : ZB Ya maxLen aB) (ga0_3 : ZB Yb maxLen aF) : Tm (Zai 1) (fun k => YaJ.t k aB aA aH aF a1) (fun r => r < 0 ∨ 0 ≤ r ∧ r ≤ a1 ∧ ZB Ya lim aB ∧ ZB Yb lim aF ∧ ((Zu aB + Zu aF : Nat) : Int) ≤ 64 * (a1 - r) ∧ True) := by
 unfold YaJ.t YaJ.g
 have hm := maxLen_eq
 have hlim : lim = 1048576 := rfl
 refine YY.tm (fun i hi => hi) (YY.T (by first | assumption | omega) (by first | assumption | omega) (by first | assumption | omega)) (fun y2 hy1 => ?_)
 rcases hy1 with hy1 | ⟨p5,p6,q3,q4,_⟩
 ·exact Tm.ite (fun _ => Tm.ret (by left; omega)) (fun h => by simp at h; omega)
 refine Tm.ite (fun h7 => ?_) (fun h7 => ?_)
 ·try simp only [bz0,bz1,bz2,bz3,bz4,bz5,bz6,bz7,bz8,bz9,bza] at h7
  exact Tm.ret (by first | (left; omega) | (right; refine ⟨?_,?_,?_,?_,?_,trivial⟩ <;> first | assumption | omega))
 ·try simp only [bz0,bz1,bz2,bz3,bz4,bz5,bz6,bz7,bz8,bz9,bza] at h7
  refine YK.tm (fun i hi => hi) (YK.T (by first | assumption | omega) (by first | assumption | omega) (by first | assumption | omega)) (fun y9 hy8 => ?_)
  rcases hy8 with hy8 | ⟨p12,p13,q10,q11,_⟩
  ·exact Tm.ite (fun _ => Tm.ret (by left; omega)) (fun h => by simp at h; omega)
  refine Tm.ite (fun h14 => ?_) (fun h14 => ?_)
  ·try simp only [bz0,bz1,bz2,bz3,bz4,bz5,bz6,bz7,bz8,bz9,bza] at h14
   exact Tm.ret (by first | (left; omega) | (right; refine ⟨?_,?_,?_,?_,?_,trivial⟩ <;> first | assumption | omega))
  ·try simp only [bz0,bz1,bz2,bz3,bz4,bz5,bz6,bz7,bz8,bz9,bza] at h14
   exact Tm.ret (by first | (left; omega) | (right; refine ⟨?_,?_,?_,?_,?_,trivial⟩ <;> first | assumption | omega))
theorem YB.tm {ι α : Type} {ok : ι → Prop} {ψ : α → Prop} {p : ι → Nat} {B : Nat} (hp : ∀ i,ok i → B ≤ p i) {a0 φ} (h : Tm (fun k => B ≤ k) (fun k => YB.t k a0) φ) {G : ι → LC → Option α} (hG : ∀ z0,φ z0 → Tm ok (fun i => G i z0) ψ) : Tm ok (fun i => YB.f (p i) a0 (G i)) ψ := bd1_tm (t := fun k => YB.t k a0) hp h hG
set_option maxRecDepth 100000 in
theorem YB.T {a0 : LD} (ga0 : ZB RS lim a0) : Tm Fuel (fun k => YB.t k a0) (fun z => z = Zc a0 ∧ True) := by
 unfold YB.t YB.g
 have hm := maxLen_eq
 have hlim : lim = 1048576 := rfl
 have hlen := ga0.1
 refine Tm.guard (by first | omega | (simp only [lim,maxLen_eq,Z8] at *; omega) | (simp only [lim,Z8] at *; refine ⟨?_,?_,?_,?_⟩ <;> omega)) ?_
 refine Tm.loop (okk := Fuel) (p := fun k => k) (fun i hi => hi) (b := fun k => YB.l0 k a0 (fun z0 => some z0)) (fun v => match v with | (i,u1) => (((a0.length : Int)) - i).toNat) (fun v => match v with | (i,u1) => 0 ≤ i ∧ i ≤ (a0.length : Int) ∧ Filled a0 ([.d (.str (⟨#[]⟩ : BA))] : List C) i u1) ?_ ?_ ?_
 ·rintro ⟨i,u1⟩ hI
  try simp only [] at hI ⊢
  have : big = 2 ^ 64 := rfl
  have := ga0.1
  simp only [lim] at this
  omega
 ·exact ⟨by omega,by simp,Filled.start _ _⟩
 ·rintro ⟨i,u1⟩ hI L hL
  try simp only [] at hI
  obtain ⟨i0,i1,hF⟩ := hI
  have hFl := hF.len i1
  simp only [YB.l0,atR,rdQ,Q.ask]
  refine Tm.ite (fun h1 => ?_) (fun h1 => ?_)
  ·try simp only [bz0,bz1,bz2,bz3,bz4,bz5,bz6,bz7,bz8,bz9,bza] at h1
   refine Tm.atRow (by first | assumption | omega) (by first | assumption | omega) (fun x2 hx3 hm4 => ?_)
   obtain ⟨c5,rfl,g6,_⟩ := (ga0.2 x2 hm4).open
   refine Tm.uncons ?_
   refine Tm.dStr ?_
   refine Tm.atEnd ?_
   refine Tm.guard (by first | omega | (simp only [lim,maxLen_eq,Z8] at *; omega) | (simp only [lim,Z8] at *; refine ⟨?_,?_,?_,?_⟩ <;> omega)) ?_
   refine Tm.guard (by first | omega | (simp only [lim,maxLen_eq,Z8] at *; omega) | (simp only [lim,Z8] at *; refine ⟨?_,?_,?_,?_⟩ <;> omega)) ?_
   try rw [Z9 (x := i + 1) (by omega) (by omega)]
   refine hL (_,_) ⟨by omega,by omega,hF.next i0 hx3 rfl (by simp [ZN,deepD])⟩ (by (try simp only []); omega)
  ·try simp only [bz0,bz1,bz2,bz3,bz4,bz5,bz6,bz7,bz8,bz9,bza] at h1
   exact Tm.ret (by exact ⟨hF.all (by omega),trivial⟩)
theorem Ys.tm {ι α : Type} {ok : ι → Prop} {ψ : α → Prop} {p : ι → Nat} {B : Nat} (hp : ∀ i,ok i → B ≤ p i) {a0 φ} (h : Tm (fun k => B ≤ k) (fun k => Ys.t k a0) φ) {G : ι → LC → Option α} (hG : ∀ z0,φ z0 → Tm ok (fun i => G i z0) ψ) : Tm ok (fun i => Ys.f (p i) a0 (G i)) ψ := bd1_tm (t := fun k => Ys.t k a0) hp h hG
theorem YQ.tm {ι α : Type} {ok : ι → Prop} {ψ : α → Prop} {p : ι → Nat} {B : Nat} (hp : ∀ i,ok i → B ≤ p i) {aB aA aH aF aI φ} (h : Tm (fun k => B ≤ k) (fun k => YQ.t k aB aA aH aF aI) φ) {G : ι → Int → BA → Int → LC → LC → Option α} (hG : ∀ z0 z1 z2 z3 z4,φ (z0,z1,z2,z3,z4) → Tm ok (fun i => G i z0 z1 z2 z3 z4) ψ) : Tm ok (fun i => YQ.f (p i) aB aA aH aF aI (G i)) ψ := bd5_tm (t := fun k => YQ.t k aB aA aH aF aI) hp h hG
set_option maxRecDepth 100000 in
theorem toVal (n : Nat) : (∀ (a : LD),a.length ≤ lim → (∀ x ∈ a,Y9 lim n x) → Tm (fun k => big + 2 * n + 1 ≤ k) (fun k => Ys.t k a) (fun z => z = Zc a)) ∧
  (∀ (c0 : Int) (c1 : BA) (c2 : Int) (c3 c4 : LD),c1.size ≤ lim → ZB RS lim c3 → c4.length ≤ lim → (∀ x ∈ c4,Y9 lim n x) → Tm (fun k => big + 2 * n + 2 ≤ k) (fun k => YQ.t k c0 c1 c2 c3 c4) (fun z => z.1 = c0 ∧ z.2.1 = c1 ∧ z.2.2.1 = c2 ∧ z.2.2.2.1 = Zc c3 ∧ z.2.2.2.2 = Zc c4)) := by
 have hm : Z8 = 2 ^ 36 := rfl
 have hlim : lim = 1048576 := rfl
 have hb : big = 2 ^ 64 := rfl
 induction n using Nat.strongRecOn with
 | ind n ih =>
 have S : ∀ (a : LD),a.length ≤ lim → (∀ x ∈ a,Y9 lim n x) → Tm (fun k => big + 2 * n + 1 ≤ k) (fun k => Ys.t k a) (fun z => z = Zc a) := by
  intro a hlen g
  refine Tm.succ (g := fun k => Ys.g k a (fun z0 => some z0)) (fun k => Ys.t_succ k a) ?_
  unfold Ys.g Ys.body Ys.m
  refine Tm.guard ⟨by omega,by omega,by omega,by omega⟩ ?_
  refine Tm.loop (okk := fun k => big + 2 * n ≤ k) (p := fun k => k) (fun i hi => by omega) (b := fun k => Ys.l0 k (Ys.f k) (YQ.f k) a (fun z0 => some z0)) (fun v => match v with | (i,u1) => (((a.length : Int)) - i).toNat) (fun v => match v with | (i,u1) => 0 ≤ i ∧ i ≤ (a.length : Int) ∧ Filled a ([.d (.int .i64 0),.d (.str (⟨#[]⟩ : BA)),.d (.int .i64 0),.own ([] : LC),.own ([] : LC)] : List C) i u1) ?_ ?_ ?_
  ·rintro ⟨i,u1⟩ hI
   simp only [] at hI ⊢
   omega
  ·exact ⟨by omega,by simp,Filled.start _ _⟩
  ·rintro ⟨i,u1⟩ hI L hL
   simp only [] at hI
   obtain ⟨i0,i1,hF⟩ := hI
   have hFl := hF.len i1
   simp only [Ys.l0,atR,rdQ,Q.ask]
   refine Tm.ite (fun h4 => ?_) (fun h4 => ?_)
   ·simp only [decide_eq_true_eq] at h4
    refine Tm.atRow (by omega) (by omega) (fun x5 hx6 hm7 => ?_)
    obtain ⟨n',hn',c0,c1,c2,c3,c4,rfl,w0,g1,w2,g3,l4,g4⟩ : ∃ n',n = n' + 1 ∧ ∃ c0 c1 c2 c3 c4,x5 = [.int .i64 c0,.str c1,.int .i64 c2,.sl c3,.sl c4] ∧ (Lit.int .i64 c0).wf = true ∧ c1.size ≤ lim ∧ (Lit.int .i64 c2).wf = true ∧ ZB RS lim c3 ∧ c4.length ≤ lim ∧ ∀ x ∈ c4,Y9 lim n' x := by
     have := g x5 hm7
     cases this with
     | mk c0 c1 c2 c3 c4 w0 g1 w2 g3 l4 g4 => exact ⟨_,rfl,_,_,_,_,_,rfl,w0,g1,w2,g3,l4,g4⟩
    refine Tm.uncons (Tm.dInt (Tm.uncons (Tm.dStr (Tm.uncons (Tm.dInt (Tm.uncons (Tm.dSl (Tm.uncons (Tm.dSl (Tm.atEnd ?_))))))))))
    refine YQ.tm (B := big + 2 * n' + 2) (fun i hi => by have := hi.1; omega) ((ih n' (by omega)).2 c0 c1 c2 c3 c4 g1 g3 l4 g4) (fun y0 y1 y2 y3 y4 hy => ?_)
    simp only [] at hy
    obtain ⟨rfl,rfl,rfl,e3,e4⟩ := hy
    refine Tm.guard (by omega) (Tm.guard (by omega) ?_)
    rw [Z9 (x := i + 1) (by omega) (by omega)]
    exact hL (_,_) ⟨by omega,by omega,hF.next i0 hx6 rfl (by simp [ZN,deepD,e3,e4])⟩ (by simp only []; omega)
   ·simp only [decide_eq_false_iff_not,Int.not_lt] at h4
    exact Tm.ret (hF.all (by omega))
 refine ⟨S,?_⟩
 intro c0 c1 c2 c3 c4 g1 g3 l4 g4
 refine Tm.succ (g := fun k => YQ.g k c0 c1 c2 c3 c4 (fun z0 z1 z2 z3 z4 => some (z0,z1,z2,z3,z4))) (fun k => YQ.t_succ k c0 c1 c2 c3 c4) ?_
 unfold YQ.g YQ.body
 refine YB.tm (B := big) (fun i hi => by omega) (YB.T g3) (fun y hy => ?_)
 refine Ys.tm (B := big + 2 * n + 1) (fun i hi => hi) (S c4 l4 g4) (fun y' hy' => ?_)
 exact Tm.ret ⟨rfl,rfl,rfl,hy.1,hy'⟩
theorem YQ.T {aB : Int} {aA : BA} {aH : Int} {aF aI : LD} (g1 : aA.size ≤ lim) (g3 : ZB RS lim aF) (g4 : ZB Yq lim aI) : Tm (Zai 1) (fun k => YQ.t k aB aA aH aF aI) (fun z => z.1 = aB ∧ z.2.1 = aA ∧ z.2.2.1 = aH ∧ z.2.2.2.1 = Zc aF ∧ z.2.2.2.2 = Zc aI ∧ True) := by
 have hlim : lim = 1048576 := rfl
 have g' : ∀ x ∈ aI,Y9 lim 1099511627776 x := fun x hx => by
  obtain ⟨h,hh,hx⟩ := g4.2 x hx
  exact hx.mono (hh (by decide))
 exact (((toVal 1099511627776).2 aB aA aH aF aI g1 g3 g4.1 g').up (big_lv1 (n := 2 * 1099511627776 + 2) (by omega))).mono fun r hr => ⟨hr.1,hr.2.1,hr.2.2.1,hr.2.2.2.1,hr.2.2.2.2,trivial⟩
theorem Yaw.f_of {β : Type} {k : Nat} {aB : Int} {aA : BA} {aH aF aI : Int} {bD : Bool} {aV : LD} {bA : Int} {aP : BA} {bB : Int} {aQ aW : LD} {aY : Int} {aR : BA} {bC : Int} {aT aX : LD} {z0 : Int} {z1 : BA} {z2 z3 z4 : Int} {z5 : Bool} {z6 : LC} {z7 : Int} {z8 : BA} {z9 : Int} {z10 z11 : LC} {z12 : Int} {z13 : BA} {z14 : Int} {z15 z16 : LC} (h : Yaw.t k aB aA aH aF aI bD aV bA aP bB aQ aW aY aR bC aT aX = some (z0,z1,z2,z3,z4,z5,z6,z7,z8,z9,z10,z11,z12,z13,z14,z15,z16)) (K : Int → BA → Int → Int → Int → Bool → LC → Int → BA → Int → LC → LC → Int → BA → Int → LC → LC → Option β) : Yaw.f k aB aA aH aF aI bD aV bA aP bB aQ aW aY aR bC aT aX K = K z0 z1 z2 z3 z4 z5 z6 z7 z8 z9 z10 z11 z12 z13 z14 z15 z16 := by
 unfold Yaw.f
 rw [h]
theorem Yaw.tm {ι α : Type} {ok : ι → Prop} {ψ : α → Prop} {p : ι → Nat} {B : Nat} (hp : ∀ i,ok i → B ≤ p i) {aB : Int} {aA : BA} {aH aF aI : Int} {bD : Bool} {aV : LD} {bA : Int} {aP : BA} {bB : Int} {aQ aW : LD} {aY : Int} {aR : BA} {bC : Int} {aT aX : LD} {φ : Int × BA × Int × Int × Int × Bool × LC × Int × BA × Int × LC × LC × Int × BA × Int × LC × LC → Prop} (h : Tm (fun k => B ≤ k) (fun k => Yaw.t k aB aA aH aF aI bD aV bA aP bB aQ aW aY aR bC aT aX) φ) {G : ι → Int → BA → Int → Int → Int → Bool → LC → Int → BA → Int → LC → LC → Int → BA → Int → LC → LC → Option α} (hG : ∀ z0 z1 z2 z3 z4 z5 z6 z7 z8 z9 z10 z11 z12 z13 z14 z15 z16,φ (z0,z1,z2,z3,z4,z5,z6,z7,z8,z9,z10,z11,z12,z13,z14,z15,z16) → Tm ok (fun ι0 => G ι0 z0 z1 z2 z3 z4 z5 z6 z7 z8 z9 z10 z11 z12 z13 z14 z15 z16) ψ) : Tm ok (fun ι0 => Yaw.f (p ι0) aB aA aH aF aI bD aV bA aP bB aQ aW aY aR bC aT aX (G ι0)) ψ := by
 obtain ⟨⟨z0,z1,z2,z3,z4,z5,z6,z7,z8,z9,z10,z11,z12,z13,z14,z15,z16⟩,h1,h2⟩ := h
 exact (hG z0 z1 z2 z3 z4 z5 z6 z7 z8 z9 z10 z11 z12 z13 z14 z15 z16 h1).congr fun i0 hi0 => Yaw.f_of (h2 (p i0) (hp i0 hi0)) _
theorem Yaw.T {aB : Int} {aA : BA} {aH aF aI : Int} {bD : Bool} {aV : LD} {bA : Int} {aP : BA} {bB : Int} {aQ aW : LD} {aY : Int} {aR : BA} {bC : Int} {aT aX : LD} (ga0_1 : aA.size ≤ lim) (ga0_6 : ZB RS lim aV) (ga0_8 : aP.size ≤ lim) (ga0_10 : ZB RS lim aQ) (ga0_11 : ZB Yq lim aW) (ga0_13 : aR.size ≤ lim) (ga0_15 : ZB RS lim aT) (ga0_16 : ZB Yq lim aX) : Tm (Zai 1) (fun k => Yaw.t k aB aA aH aF aI bD aV bA aP bB aQ aW aY aR bC aT aX) (fun z => z.1 = aB ∧ z.2.1 = aA ∧ z.2.2.1 = aH ∧ z.2.2.2.1 = aF ∧ z.2.2.2.2.1 = aI ∧ z.2.2.2.2.2.1 = bD ∧ z.2.2.2.2.2.2.1 = Zc aV ∧ z.2.2.2.2.2.2.2.1 = bA ∧ z.2.2.2.2.2.2.2.2.1 = aP ∧ z.2.2.2.2.2.2.2.2.2.1 = bB ∧ z.2.2.2.2.2.2.2.2.2.2.1 = Zc aQ ∧ z.2.2.2.2.2.2.2.2.2.2.2.1 = Zc aW ∧ z.2.2.2.2.2.2.2.2.2.2.2.2.1 = aY ∧ z.2.2.2.2.2.2.2.2.2.2.2.2.2.1 = aR ∧ z.2.2.2.2.2.2.2.2.2.2.2.2.2.2.1 = bC ∧ z.2.2.2.2.2.2.2.2.2.2.2.2.2.2.2.1 = Zc aT ∧ z.2.2.2.2.2.2.2.2.2.2.2.2.2.2.2.2 = Zc aX ∧ True) := by
 unfold Yaw.t Yaw.g
 have hm := maxLen_eq
 have hlim : lim = 1048576 := rfl
 refine YB.tm (fun i hi => up0 hi) (YB.T (by first | assumption | omega)) (fun y2 hy1 => ?_)
 try simp only [] at hy1
 obtain ⟨rfl,_⟩ := hy1
 try simp only [ZK]
 refine YQ.tm (fun i hi => hi) (YQ.T (by first | assumption | omega) (by first | assumption | omega) (by first | assumption | omega)) (fun y4 y5 y6 y7 y8 hy3 => ?_)
 try simp only [] at hy3
 obtain ⟨rfl,rfl,rfl,rfl,rfl,_⟩ := hy3
 try simp only [ZK]
 refine YQ.tm (fun i hi => hi) (YQ.T (by first | assumption | omega) (by first | assumption | omega) (by first | assumption | omega)) (fun y10 y11 y12 y13 y14 hy9 => ?_)
 try simp only [] at hy9
 obtain ⟨rfl,rfl,rfl,rfl,rfl,_⟩ := hy9
 try simp only [ZK]
 exact Tm.ret (by exact ⟨by first | rfl | assumption,by first | rfl | assumption,by first | rfl | assumption,by first | rfl | assumption,by first | rfl | assumption,by first | rfl | assumption,by first | rfl | assumption,by first | rfl | assumption,by first | rfl | assumption,by first | rfl | assumption,by first | rfl | assumption,by first | rfl | assumption,by first | rfl | assumption,by first | rfl | assumption,by first | rfl | assumption,by first | rfl | assumption,by first | rfl | assumption,trivial⟩)
theorem YU.tm {ι α : Type} {ok : ι → Prop} {ψ : α → Prop} {p : ι → Nat} {B : Nat} (hp : ∀ i,ok i → B ≤ p i) {a0 φ} (h : Tm (fun k => B ≤ k) (fun k => YU.t k a0) φ) {G : ι → LC → Option α} (hG : ∀ z0,φ z0 → Tm ok (fun i => G i z0) ψ) : Tm ok (fun i => YU.f (p i) a0 (G i)) ψ := bd1_tm (t := fun k => YU.t k a0) hp h hG
set_option maxRecDepth 100000 in
theorem YU.T {a0 : LD} (ga0 : ZB Ya lim a0) : Tm (Zai 1) (fun k => YU.t k a0) (fun z => z = Zc a0 ∧ True) := by
 unfold YU.t YU.g YU.m
 have hm := maxLen_eq
 have hlim : lim = 1048576 := rfl
 have hlen := ga0.1
 refine Tm.guard (by first | omega | (simp only [lim,maxLen_eq,Z8] at *; omega) | (simp only [lim,Z8] at *; refine ⟨?_,?_,?_,?_⟩ <;> omega)) ?_
 refine Tm.loop (okk := (Zai 1)) (p := fun k => k) (fun i hi => up0 hi) (b := fun k => YU.l0 k a0 (fun z0 => some z0)) (fun v => match v with | (i,u1) => (((a0.length : Int)) - i).toNat) (fun v => match v with | (i,u1) => 0 ≤ i ∧ i ≤ (a0.length : Int) ∧ Filled a0 ([.d (.int .i64 0),.d (.str (⟨#[]⟩ : BA)),.d (.int .i64 0),.d (.int .i64 0),.d (.int .i64 0),.d (.bool false),.own ([] : LC),.d (.int .i64 0),.d (.str (⟨#[]⟩ : BA)),.d (.int .i64 0),.own ([] : LC),.own ([] : LC),.d (.int .i64 0),.d (.str (⟨#[]⟩ : BA)),.d (.int .i64 0),.own ([] : LC),.own ([] : LC)] : List C) i u1) ?_ ?_ ?_
 ·rintro ⟨i,u1⟩ hI
  try simp only [] at hI ⊢
  have : big = 2 ^ 64 := rfl
  have := ga0.1
  simp only [lim] at this
  omega
 ·exact ⟨by omega,by simp,Filled.start _ _⟩
 ·rintro ⟨i,u1⟩ hI L hL
  try simp only [] at hI
  obtain ⟨i0,i1,hF⟩ := hI
  have hFl := hF.len i1
  simp only [YU.l0,atR,rdQ,Q.ask]
  refine Tm.ite (fun h1 => ?_) (fun h1 => ?_)
  ·try simp only [bz0,bz1,bz2,bz3,bz4,bz5,bz6,bz7,bz8,bz9,bza] at h1
   refine Tm.atRow (by first | assumption | omega) (by first | assumption | omega) (fun x2 hx3 hm4 => ?_)
   obtain ⟨c5,c6,c7,c8,c9,c10,c11,c12,c13,c14,c15,c16,c17,c18,c19,c20,c21,rfl,g22,g23,g24,g25,g26,g27,g28,g29,g30,g31,g32,g33,g34,g35,g36,g37,_⟩ := (ga0.2 x2 hm4).open
   refine Tm.uncons ?_
   refine Tm.dInt ?_
   refine Tm.uncons ?_
   refine Tm.dStr ?_
   refine Tm.uncons ?_
   refine Tm.dInt ?_
   refine Tm.uncons ?_
   refine Tm.dInt ?_
   refine Tm.uncons ?_
   refine Tm.dInt ?_
   refine Tm.uncons ?_
   refine Tm.dBool ?_
   refine Tm.uncons ?_
   refine Tm.dSl ?_
   refine Tm.uncons ?_
   refine Tm.dInt ?_
   refine Tm.uncons ?_
   refine Tm.dStr ?_
   refine Tm.uncons ?_
   refine Tm.dInt ?_
   refine Tm.uncons ?_
   refine Tm.dSl ?_
   refine Tm.uncons ?_
   refine Tm.dSl ?_
   refine Tm.uncons ?_
   refine Tm.dInt ?_
   refine Tm.uncons ?_
   refine Tm.dStr ?_
   refine Tm.uncons ?_
   refine Tm.dInt ?_
   refine Tm.uncons ?_
   refine Tm.dSl ?_
   refine Tm.uncons ?_
   refine Tm.dSl ?_
   refine Tm.atEnd ?_
   refine Yaw.tm (fun i hi => hi.1) (Yaw.T (by first | assumption | omega) (by first | assumption | omega) (by first | assumption | omega) (by first | assumption | omega) (by first | assumption | omega) (by first | assumption | omega) (by first | assumption | omega) (by first | assumption | omega)) (fun y39 y40 y41 y42 y43 y44 y45 y46 y47 y48 y49 y50 y51 y52 y53 y54 y55 hy38 => ?_)
   try simp only [] at hy38
   obtain ⟨rfl,rfl,rfl,rfl,rfl,rfl,rfl,rfl,rfl,rfl,rfl,rfl,rfl,rfl,rfl,rfl,rfl,_⟩ := hy38
   try simp only [ZK]
   refine Tm.guard (by first | omega | (simp only [lim,maxLen_eq,Z8] at *; omega) | (simp only [lim,Z8] at *; refine ⟨?_,?_,?_,?_⟩ <;> omega)) ?_
   refine Tm.guard (by first | omega | (simp only [lim,maxLen_eq,Z8] at *; omega) | (simp only [lim,Z8] at *; refine ⟨?_,?_,?_,?_⟩ <;> omega)) ?_
   try rw [Z9 (x := i + 1) (by omega) (by omega)]
   refine hL (_,_) ⟨by omega,by omega,hF.next i0 hx3 rfl (by simp [ZN,deepD])⟩ (by (try simp only []); omega)
  ·try simp only [bz0,bz1,bz2,bz3,bz4,bz5,bz6,bz7,bz8,bz9,bza] at h1
   exact Tm.ret (by exact ⟨hF.all (by omega),trivial⟩)
theorem Yac.tm {ι α : Type} {ok : ι → Prop} {ψ : α → Prop} {p : ι → Nat} {B : Nat} (hp : ∀ i,ok i → B ≤ p i) {aB aA φ} (h : Tm (fun k => B ≤ k) (fun k => Yac.t k aB aA) φ) {G : ι → Int → LC → Option α} (hG : ∀ z0 z1,φ (z0,z1) → Tm ok (fun i => G i z0 z1) ψ) : Tm ok (fun i => Yac.f (p i) aB aA (G i)) ψ := bd2_tm (t := fun k => Yac.t k aB aA) hp h hG
theorem Yac.T {aB : Int} {aA : LD} (ga0_1 : ZB Ya lim aA) : Tm (Zai 1) (fun k => Yac.t k aB aA) (fun z => z.1 = aB ∧ z.2 = Zc aA ∧ True) := by
 unfold Yac.t Yac.g
 have hm := maxLen_eq
 have hlim : lim = 1048576 := rfl
 refine YU.tm (fun i hi => hi) (YU.T (by first | assumption | omega)) (fun y2 hy1 => ?_)
 try simp only [] at hy1
 obtain ⟨rfl,_⟩ := hy1
 try simp only [ZK]
 exact Tm.ret (by exact ⟨by first | rfl | assumption,by first | rfl | assumption,trivial⟩)
theorem Yal.f_of {β : Type} {k : Nat} {aB : Int} {aA : Bool} {aH : Int} {aF : BA} {aI bD aV : Int} {bA : Bool} {aP : LD} {bB : Int} {aQ : BA} {aW : Int} {aY aR : LD} {bC : Int} {aT : BA} {aX : Int} {bZ cA : LD} {z0 : Int} {z1 : Bool} {z2 : Int} {z3 : BA} {z4 z5 z6 : Int} {z7 : Bool} {z8 : LC} {z9 : Int} {z10 : BA} {z11 : Int} {z12 z13 : LC} {z14 : Int} {z15 : BA} {z16 : Int} {z17 z18 : LC} (h : Yal.t k aB aA aH aF aI bD aV bA aP bB aQ aW aY aR bC aT aX bZ cA = some (z0,z1,z2,z3,z4,z5,z6,z7,z8,z9,z10,z11,z12,z13,z14,z15,z16,z17,z18)) (K : Int → Bool → Int → BA → Int → Int → Int → Bool → LC → Int → BA → Int → LC → LC → Int → BA → Int → LC → LC → Option β) : Yal.f k aB aA aH aF aI bD aV bA aP bB aQ aW aY aR bC aT aX bZ cA K = K z0 z1 z2 z3 z4 z5 z6 z7 z8 z9 z10 z11 z12 z13 z14 z15 z16 z17 z18 := by
 unfold Yal.f
 rw [h]
theorem Yal.tm {ι α : Type} {ok : ι → Prop} {ψ : α → Prop} {p : ι → Nat} {B : Nat} (hp : ∀ i,ok i → B ≤ p i) {aB : Int} {aA : Bool} {aH : Int} {aF : BA} {aI bD aV : Int} {bA : Bool} {aP : LD} {bB : Int} {aQ : BA} {aW : Int} {aY aR : LD} {bC : Int} {aT : BA} {aX : Int} {bZ cA : LD} {φ : Int × Bool × Int × BA × Int × Int × Int × Bool × LC × Int × BA × Int × LC × LC × Int × BA × Int × LC × LC → Prop} (h : Tm (fun k => B ≤ k) (fun k => Yal.t k aB aA aH aF aI bD aV bA aP bB aQ aW aY aR bC aT aX bZ cA) φ) {G : ι → Int → Bool → Int → BA → Int → Int → Int → Bool → LC → Int → BA → Int → LC → LC → Int → BA → Int → LC → LC → Option α} (hG : ∀ z0 z1 z2 z3 z4 z5 z6 z7 z8 z9 z10 z11 z12 z13 z14 z15 z16 z17 z18,φ (z0,z1,z2,z3,z4,z5,z6,z7,z8,z9,z10,z11,z12,z13,z14,z15,z16,z17,z18) → Tm ok (fun ι0 => G ι0 z0 z1 z2 z3 z4 z5 z6 z7 z8 z9 z10 z11 z12 z13 z14 z15 z16 z17 z18) ψ) : Tm ok (fun ι0 => Yal.f (p ι0) aB aA aH aF aI bD aV bA aP bB aQ aW aY aR bC aT aX bZ cA (G ι0)) ψ := by
 obtain ⟨⟨z0,z1,z2,z3,z4,z5,z6,z7,z8,z9,z10,z11,z12,z13,z14,z15,z16,z17,z18⟩,h1,h2⟩ := h
 exact (hG z0 z1 z2 z3 z4 z5 z6 z7 z8 z9 z10 z11 z12 z13 z14 z15 z16 z17 z18 h1).congr fun i0 hi0 => Yal.f_of (h2 (p i0) (hp i0 hi0)) _
theorem Yal.T {aB : Int} {aA : Bool} {aH : Int} {aF : BA} {aI bD aV : Int} {bA : Bool} {aP : LD} {bB : Int} {aQ : BA} {aW : Int} {aY aR : LD} {bC : Int} {aT : BA} {aX : Int} {bZ cA : LD} (ga0_3 : aF.size ≤ lim) (ga0_8 : ZB RS lim aP) (ga0_10 : aQ.size ≤ lim) (ga0_12 : ZB RS lim aY) (ga0_13 : ZB Yq lim aR) (ga0_15 : aT.size ≤ lim) (ga0_17 : ZB RS lim bZ) (ga0_18 : ZB Yq lim cA) : Tm (Zai 1) (fun k => Yal.t k aB aA aH aF aI bD aV bA aP bB aQ aW aY aR bC aT aX bZ cA) (fun z => z.1 = aB ∧ z.2.1 = aA ∧ z.2.2.1 = aH ∧ z.2.2.2.1 = aF ∧ z.2.2.2.2.1 = aI ∧ z.2.2.2.2.2.1 = bD ∧ z.2.2.2.2.2.2.1 = aV ∧ z.2.2.2.2.2.2.2.1 = bA ∧ z.2.2.2.2.2.2.2.2.1 = Zc aP ∧ z.2.2.2.2.2.2.2.2.2.1 = bB ∧ z.2.2.2.2.2.2.2.2.2.2.1 = aQ ∧ z.2.2.2.2.2.2.2.2.2.2.2.1 = aW ∧ z.2.2.2.2.2.2.2.2.2.2.2.2.1 = Zc aY ∧ z.2.2.2.2.2.2.2.2.2.2.2.2.2.1 = Zc aR ∧ z.2.2.2.2.2.2.2.2.2.2.2.2.2.2.1 = bC ∧ z.2.2.2.2.2.2.2.2.2.2.2.2.2.2.2.1 = aT ∧ z.2.2.2.2.2.2.2.2.2.2.2.2.2.2.2.2.1 = aX ∧ z.2.2.2.2.2.2.2.2.2.2.2.2.2.2.2.2.2.1 = Zc bZ ∧ z.2.2.2.2.2.2.2.2.2.2.2.2.2.2.2.2.2.2 = Zc cA ∧ True) := by
 unfold Yal.t Yal.g
 have hm := maxLen_eq
 have hlim : lim = 1048576 := rfl
 refine Yaw.tm (fun i hi => hi) (Yaw.T (by first | assumption | omega) (by first | assumption | omega) (by first | assumption | omega) (by first | assumption | omega) (by first | assumption | omega) (by first | assumption | omega) (by first | assumption | omega) (by first | assumption | omega)) (fun y2 y3 y4 y5 y6 y7 y8 y9 y10 y11 y12 y13 y14 y15 y16 y17 y18 hy1 => ?_)
 try simp only [] at hy1
 obtain ⟨rfl,rfl,rfl,rfl,rfl,rfl,rfl,rfl,rfl,rfl,rfl,rfl,rfl,rfl,rfl,rfl,rfl,_⟩ := hy1
 try simp only [ZK]
 exact Tm.ret (by exact ⟨by first | rfl | assumption,by first | rfl | assumption,by first | rfl | assumption,by first | rfl | assumption,by first | rfl | assumption,by first | rfl | assumption,by first | rfl | assumption,by first | rfl | assumption,by first | rfl | assumption,by first | rfl | assumption,by first | rfl | assumption,by first | rfl | assumption,by first | rfl | assumption,by first | rfl | assumption,by first | rfl | assumption,by first | rfl | assumption,by first | rfl | assumption,by first | rfl | assumption,by first | rfl | assumption,trivial⟩)
theorem YH.tm {ι α : Type} {ok : ι → Prop} {ψ : α → Prop} {p : ι → Nat} {B : Nat} (hp : ∀ i,ok i → B ≤ p i) {a0 φ} (h : Tm (fun k => B ≤ k) (fun k => YH.t k a0) φ) {G : ι → LC → Option α} (hG : ∀ z0,φ z0 → Tm ok (fun i => G i z0) ψ) : Tm ok (fun i => YH.f (p i) a0 (G i)) ψ := bd1_tm (t := fun k => YH.t k a0) hp h hG
set_option maxRecDepth 100000 in
theorem YH.T {a0 : LD} (ga0 : ZB Yb lim a0) : Tm (Zai 1) (fun k => YH.t k a0) (fun z => z = Zc a0 ∧ True) := by
 unfold YH.t YH.g YH.m
 have hm := maxLen_eq
 have hlim : lim = 1048576 := rfl
 have hlen := ga0.1
 refine Tm.guard (by first | omega | (simp only [lim,maxLen_eq,Z8] at *; omega) | (simp only [lim,Z8] at *; refine ⟨?_,?_,?_,?_⟩ <;> omega)) ?_
 refine Tm.loop (okk := (Zai 1)) (p := fun k => k) (fun i hi => up0 hi) (b := fun k => YH.l0 k a0 (fun z0 => some z0)) (fun v => match v with | (i,u1) => (((a0.length : Int)) - i).toNat) (fun v => match v with | (i,u1) => 0 ≤ i ∧ i ≤ (a0.length : Int) ∧ Filled a0 ([.d (.int .i64 0),.d (.bool false),.d (.int .i64 0),.d (.str (⟨#[]⟩ : BA)),.d (.int .i64 0),.d (.int .i64 0),.d (.int .i64 0),.d (.bool false),.own ([] : LC),.d (.int .i64 0),.d (.str (⟨#[]⟩ : BA)),.d (.int .i64 0),.own ([] : LC),.own ([] : LC),.d (.int .i64 0),.d (.str (⟨#[]⟩ : BA)),.d (.int .i64 0),.own ([] : LC),.own ([] : LC)] : List C) i u1) ?_ ?_ ?_
 ·rintro ⟨i,u1⟩ hI
  try simp only [] at hI ⊢
  have : big = 2 ^ 64 := rfl
  have := ga0.1
  simp only [lim] at this
  omega
 ·exact ⟨by omega,by simp,Filled.start _ _⟩
 ·rintro ⟨i,u1⟩ hI L hL
  try simp only [] at hI
  obtain ⟨i0,i1,hF⟩ := hI
  have hFl := hF.len i1
  simp only [YH.l0,atR,rdQ,Q.ask]
  refine Tm.ite (fun h1 => ?_) (fun h1 => ?_)
  ·try simp only [bz0,bz1,bz2,bz3,bz4,bz5,bz6,bz7,bz8,bz9,bza] at h1
   refine Tm.atRow (by first | assumption | omega) (by first | assumption | omega) (fun x2 hx3 hm4 => ?_)
   obtain ⟨c5,c6,c7,c8,c9,c10,c11,c12,c13,c14,c15,c16,c17,c18,c19,c20,c21,c22,c23,rfl,g24,g25,g26,g27,g28,g29,g30,g31,g32,g33,g34,g35,g36,g37,g38,g39,g40,_⟩ := (ga0.2 x2 hm4).open
   refine Tm.uncons ?_
   refine Tm.dInt ?_
   refine Tm.uncons ?_
   refine Tm.dBool ?_
   refine Tm.uncons ?_
   refine Tm.dInt ?_
   refine Tm.uncons ?_
   refine Tm.dStr ?_
   refine Tm.uncons ?_
   refine Tm.dInt ?_
   refine Tm.uncons ?_
   refine Tm.dInt ?_
   refine Tm.uncons ?_
   refine Tm.dInt ?_
   refine Tm.uncons ?_
   refine Tm.dBool ?_
   refine Tm.uncons ?_
   refine Tm.dSl ?_
   refine Tm.uncons ?_
   refine Tm.dInt ?_
   refine Tm.uncons ?_
   refine Tm.dStr ?_
   refine Tm.uncons ?_
   refine Tm.dInt ?_
   refine Tm.uncons ?_
   refine Tm.dSl ?_
   refine Tm.uncons ?_
   refine Tm.dSl ?_
   refine Tm.uncons ?_
   refine Tm.dInt ?_
   refine Tm.uncons ?_
   refine Tm.dStr ?_
   refine Tm.uncons ?_
   refine Tm.dInt ?_
   refine Tm.uncons ?_
   refine Tm.dSl ?_
   refine Tm.uncons ?_
   refine Tm.dSl ?_
   refine Tm.atEnd ?_
   refine Yal.tm (fun i hi => hi.1) (Yal.T (by first | assumption | omega) (by first | assumption | omega) (by first | assumption | omega) (by first | assumption | omega) (by first | assumption | omega) (by first | assumption | omega) (by first | assumption | omega) (by first | assumption | omega)) (fun y42 y43 y44 y45 y46 y47 y48 y49 y50 y51 y52 y53 y54 y55 y56 y57 y58 y59 y60 hy41 => ?_)
   try simp only [] at hy41
   obtain ⟨rfl,rfl,rfl,rfl,rfl,rfl,rfl,rfl,rfl,rfl,rfl,rfl,rfl,rfl,rfl,rfl,rfl,rfl,rfl,_⟩ := hy41
   try simp only [ZK]
   refine Tm.guard (by first | omega | (simp only [lim,maxLen_eq,Z8] at *; omega) | (simp only [lim,Z8] at *; refine ⟨?_,?_,?_,?_⟩ <;> omega)) ?_
   refine Tm.guard (by first | omega | (simp only [lim,maxLen_eq,Z8] at *; omega) | (simp only [lim,Z8] at *; refine ⟨?_,?_,?_,?_⟩ <;> omega)) ?_
   try rw [Z9 (x := i + 1) (by omega) (by omega)]
   refine hL (_,_) ⟨by omega,by omega,hF.next i0 hx3 rfl (by simp [ZN,deepD])⟩ (by (try simp only []); omega)
  ·try simp only [bz0,bz1,bz2,bz3,bz4,bz5,bz6,bz7,bz8,bz9,bza] at h1
   exact Tm.ret (by exact ⟨hF.all (by omega),trivial⟩)
theorem Yao.tm {ι α : Type} {ok : ι → Prop} {ψ : α → Prop} {p : ι → Nat} {B : Nat} (hp : ∀ i,ok i → B ≤ p i) {aB aA aH aF φ} (h : Tm (fun k => B ≤ k) (fun k => Yao.t k aB aA aH aF) φ) {G : ι → LC → Int → Int → LC → Option α} (hG : ∀ z0 z1 z2 z3,φ (z0,z1,z2,z3) → Tm ok (fun i => G i z0 z1 z2 z3) ψ) : Tm ok (fun i => Yao.f (p i) aB aA aH aF (G i)) ψ := bd4_tm (t := fun k => Yao.t k aB aA aH aF) hp h hG
theorem Yao.T {aB : LD} {aA aH : Int} {aF : LD} (ga0_0 : ZB Ya lim aB) (ga0_3 : ZB Yb lim aF) : Tm (Zai 1) (fun k => Yao.t k aB aA aH aF) (fun z => z.1 = Zc aB ∧ z.2.1 = aA ∧ z.2.2.1 = aH ∧ z.2.2.2 = Zc aF ∧ True) := by
 unfold Yao.t Yao.g
 have hm := maxLen_eq
 have hlim : lim = 1048576 := rfl
 refine YU.tm (fun i hi => hi) (YU.T (by first | assumption | omega)) (fun y2 hy1 => ?_)
 try simp only [] at hy1
 obtain ⟨rfl,_⟩ := hy1
 try simp only [ZK]
 refine YH.tm (fun i hi => hi) (YH.T (by first | assumption | omega)) (fun y4 hy3 => ?_)
 try simp only [] at hy3
 obtain ⟨rfl,_⟩ := hy3
 try simp only [ZK]
 exact Tm.ret (by exact ⟨by first | rfl | assumption,by first | rfl | assumption,by first | rfl | assumption,by first | rfl | assumption,trivial⟩)
theorem YJ.f_of {β : Type} {k a0 a1 a2 z0} (h : YJ.t k a0 a1 a2 = some z0) (K : Bool → Option β) : YJ.f k a0 a1 a2 K = K z0 := by unfold YJ.f; rw [h]; rfl
theorem YJ.tm {ι α : Type} {ok : ι → Prop} {ψ : α → Prop} {p : ι → Nat} {B : Nat} (hp : ∀ i,ok i → B ≤ p i) {a0 a1 a2 φ} (h : Tm (fun k => B ≤ k) (fun k => YJ.t k a0 a1 a2) φ) {G : ι → Bool → Option α} (hG : ∀ z0,φ z0 → Tm ok (fun i => G i z0) ψ) : Tm ok (fun i => YJ.f (p i) a0 a1 a2 (G i)) ψ := bd1_tm (t := fun k => YJ.t k a0 a1 a2) hp h hG
theorem YJ.T {a0 a1 a2 : Int} : Tm Fuel (fun k => YJ.t k a0 a1 a2) (fun r => r = true → a1 ≤ a0 ∧ a0 ≤ a2) := by
 unfold YJ.t YJ.g
 have hm := maxLen_eq
 have hlim : lim = 1048576 := rfl
 refine Tm.ite (fun h1 => ?_) (fun h1 => ?_)
 ·try simp only [bz0,bz1,bz2,bz3,bz4,bz5,bz6,bz7,bz8,bz9,bza] at h1
  exact Tm.ret (by first | (intro h; simp at h; omega) | (intro h; cases h))
 ·try simp only [bz0,bz1,bz2,bz3,bz4,bz5,bz6,bz7,bz8,bz9,bza] at h1
  exact Tm.ret (by first | (intro h; simp at h; omega) | (intro h; cases h))
theorem l1In_f {β : Type} {k : Nat} {a b c : Int} (K : Bool → Option β) : YJ.f k a b c K = K (decide (b ≤ a) && decide (a ≤ c)) := by
 refine YJ.f_of ?_ K
 unfold YJ.t YJ.g
 by_cases h : b ≤ a <;> simp [h]
def inB (a b c : Int) : Bool := decide (b ≤ a) && decide (a ≤ c)
theorem l1In_fv {β : Type} {k : Nat} {a b c : Int} (K : Bool → Option β) : YJ.f k a b c K = K (inB a b c) := l1In_f K
theorem Yo.f_of {β : Type} {k a0 z0} (h : Yo.t k a0 = some z0) (K : Bool → Option β) : Yo.f k a0 K = K z0 := by unfold Yo.f; rw [h]; rfl
theorem Yo.tm {ι α : Type} {ok : ι → Prop} {ψ : α → Prop} {p : ι → Nat} {B : Nat} (hp : ∀ i,ok i → B ≤ p i) {a0 φ} (h : Tm (fun k => B ≤ k) (fun k => Yo.t k a0) φ) {G : ι → Bool → Option α} (hG : ∀ z0,φ z0 → Tm ok (fun i => G i z0) ψ) : Tm ok (fun i => Yo.f (p i) a0 (G i)) ψ := bd1_tm (t := fun k => Yo.t k a0) hp h hG
theorem Yo.T {a0 : BA} (ga0 : a0.size ≤ lim) : Tm Fuel (fun k => Yo.t k a0) (fun _ => True) := by
 unfold Yo.t Yo.g
 have hm := maxLen_eq
 have hlim : lim = 1048576 := rfl
 refine Tm.loop (okk := Fuel) (p := fun k => k) (fun i hi => hi) (b := fun k => Yo.l0 k a0 (fun z0 => some z0)) (fun i => (((a0.size : Int)) - i).toNat) (fun i => 0 ≤ i ∧ i ≤ (a0.size : Int)) ?_ ?_ ?_
 ·rintro i hI
  try simp only [] at hI ⊢
  have : big = 2 ^ 64 := rfl
  omega
 ·((try simp only []); omega)
 ·rintro i hI L hL
  try simp only [] at hI
  obtain ⟨i0,i1⟩ := hI
  simp only [Yo.l0]
  refine Tm.ite (fun h1 => ?_) (fun h1 => ?_)
  ·try simp only [bz0,bz1,bz2,bz3,bz4,bz5,bz6,bz7,bz8,bz9,bza] at h1
   refine Tm.atStr (by first | assumption | omega) (by first | assumption | omega) (fun b2 hb3 => ?_)
   try rw [Z9 (x := (b2.toNat : Int)) (by omega) (by omega)]
   refine YJ.tm (fun i hi => hi.1) (YJ.T) (fun y5 hy4 => ?_)
   refine Tm.ite (fun h6 => ?_) (fun h6 => ?_)
   ·try simp only [bz0,bz1,bz2,bz3,bz4,bz5,bz6,bz7,bz8,bz9,bza] at h6
    refine Tm.atStr (by first | assumption | omega) (by first | assumption | omega) (fun b7 hb8 => ?_)
    try rw [Z9 (x := (b7.toNat : Int)) (by omega) (by omega)]
    refine YJ.tm (fun i hi => hi.1) (YJ.T) (fun y10 hy9 => ?_)
    refine Tm.ite (fun h11 => ?_) (fun h11 => ?_)
    ·try simp only [bz0,bz1,bz2,bz3,bz4,bz5,bz6,bz7,bz8,bz9,bza] at h11
     refine Tm.atStr (by first | assumption | omega) (by first | assumption | omega) (fun b12 hb13 => ?_)
     refine Tm.ite (fun h14 => ?_) (fun h14 => ?_)
     ·try simp only [bz0,bz1,bz2,bz3,bz4,bz5,bz6,bz7,bz8,bz9,bza] at h14
      exact Tm.ret (by trivial)
     ·try simp only [bz0,bz1,bz2,bz3,bz4,bz5,bz6,bz7,bz8,bz9,bza] at h14
      try rw [Z9 (x := i + 1) (by omega) (by omega)]
      exact hL _ (by (try simp only []); omega) (by (try simp only []); omega)
    ·try simp only [bz0,bz1,bz2,bz3,bz4,bz5,bz6,bz7,bz8,bz9,bza] at h11
     have z15 := hy9 h11
     try rw [Z9 (x := i + 1) (by omega) (by omega)]
     exact hL _ (by (try simp only []); omega) (by (try simp only []); omega)
   ·try simp only [bz0,bz1,bz2,bz3,bz4,bz5,bz6,bz7,bz8,bz9,bza] at h6
    have z16 := hy4 h6
    try rw [Z9 (x := i + 1) (by omega) (by omega)]
    exact hL _ (by (try simp only []); omega) (by (try simp only []); omega)
  ·try simp only [bz0,bz1,bz2,bz3,bz4,bz5,bz6,bz7,bz8,bz9,bza] at h1
   refine YJ.tm (fun i hi => hi.1) (YJ.T) (fun y18 hy17 => ?_)
   refine Tm.ite (fun h19 => ?_) (fun h19 => ?_)
   ·try simp only [bz0,bz1,bz2,bz3,bz4,bz5,bz6,bz7,bz8,bz9,bza] at h19
    have z20 := hy17 h19
    refine Tm.atStr (by first | assumption | omega) (by first | assumption | omega) (fun b21 hb22 => ?_)
    refine Tm.ite (fun h23 => ?_) (fun h23 => ?_)
    ·try simp only [bz0,bz1,bz2,bz3,bz4,bz5,bz6,bz7,bz8,bz9,bza] at h23
     try rw [Z9 (x := (a0.size : Int) - 1) (by omega) (by omega)]
     refine Tm.atStr (by first | assumption | omega) (by first | assumption | omega) (fun b24 hb25 => ?_)
     exact Tm.ret (by trivial)
    ·try simp only [bz0,bz1,bz2,bz3,bz4,bz5,bz6,bz7,bz8,bz9,bza] at h23
     exact Tm.ret (by trivial)
   ·try simp only [bz0,bz1,bz2,bz3,bz4,bz5,bz6,bz7,bz8,bz9,bza] at h19
    exact Tm.ret (by trivial)
noncomputable def Yo.v (a0 : BA) : Bool := (Yo.t big a0).getD default
theorem Yo.tv {a0 : BA} (ga0 : a0.size ≤ lim) {k : Nat} (hk : Fuel k) : Yo.t k a0 = some (Yo.v a0) := (Yo.T ga0).val hk
theorem Yo.fv {a0 : BA} (ga0 : a0.size ≤ lim) {k : Nat} (hk : Fuel k) {β : Type} (K : Bool → Option β) : Yo.f k a0 K = K (Yo.v a0) := Yo.f_of (Yo.tv ga0 hk) K
noncomputable def namesB (xs : LD) : Bool := (List.range xs.length).all fun i => Yo.v (gS xs (i : Int) 0) && (!decide ((i : Int) > 0) || strLt (gS xs ((i : Int) - 1) 0) (gS xs (i : Int) 0))
theorem Yw.f_of {β : Type} {k a0 z0} (h : Yw.t k a0 = some z0) (K : Bool → Option β) : Yw.f k a0 K = K z0 := by unfold Yw.f; rw [h]; rfl
theorem Yw.tm {ι α : Type} {ok : ι → Prop} {ψ : α → Prop} {p : ι → Nat} {B : Nat} (hp : ∀ i,ok i → B ≤ p i) {a0 φ} (h : Tm (fun k => B ≤ k) (fun k => Yw.t k a0) φ) {G : ι → Bool → Option α} (hG : ∀ z0,φ z0 → Tm ok (fun i => G i z0) ψ) : Tm ok (fun i => Yw.f (p i) a0 (G i)) ψ := bd1_tm (t := fun k => Yw.t k a0) hp h hG
set_option maxRecDepth 100000 in
theorem Yw.T {a0 : LD} (ga0 : ZB RS lim a0) : Tm Fuel (fun k => Yw.t k a0) (fun _ => True) := by
 unfold Yw.t Yw.g
 have hm := maxLen_eq
 have hlim : lim = 1048576 := rfl
 have la0 := ga0.1
 refine Tm.loop (okk := Fuel) (p := fun k => k) (fun i hi => hi) (b := fun k => Yw.l0 k a0 (fun z0 => some z0)) (fun i => (((a0.length : Int)) - i).toNat) (fun i => 0 ≤ i ∧ i ≤ (a0.length : Int)) ?_ ?_ ?_
 ·rintro i hI
  try simp only [] at hI ⊢
  have : big = 2 ^ 64 := rfl
  omega
 ·((try simp only []); omega)
 ·rintro i hI L hL
  try simp only [] at hI
  obtain ⟨i0,i1⟩ := hI
  simp only [Yw.l0,atR,rdQ,Q.ask]
  refine Tm.ite (fun h1 => ?_) (fun h1 => ?_)
  ·try simp only [bz0,bz1,bz2,bz3,bz4,bz5,bz6,bz7,bz8,bz9,bza] at h1
   refine Tm.atRow (by first | assumption | omega) (by first | assumption | omega) (fun x2 hx3 hm4 => ?_)
   obtain ⟨c5,rfl,g6,_⟩ := (ga0.2 x2 hm4).open
   refine Tm.uncons ?_
   refine Tm.dStr ?_
   refine Tm.atEnd ?_
   refine Yo.tm (fun i hi => hi.1) (Yo.T (by first | assumption | omega)) (fun y8 hy7 => ?_)
   refine Tm.ite (fun h9 => ?_) (fun h9 => ?_)
   ·try simp only [bz0,bz1,bz2,bz3,bz4,bz5,bz6,bz7,bz8,bz9,bza] at h9
    exact Tm.ret (by trivial)
   ·try simp only [bz0,bz1,bz2,bz3,bz4,bz5,bz6,bz7,bz8,bz9,bza] at h9
    refine Tm.ite (fun h10 => ?_) (fun h10 => ?_)
    ·try simp only [bz0,bz1,bz2,bz3,bz4,bz5,bz6,bz7,bz8,bz9,bza] at h10
     try rw [Z9 (x := i - 1) (by omega) (by omega)]
     refine Tm.atRow (by first | assumption | omega) (by first | assumption | omega) (fun x11 hx12 hm13 => ?_)
     obtain ⟨c14,rfl,g15,_⟩ := (ga0.2 x11 hm13).open
     refine Tm.uncons ?_
     refine Tm.dStr ?_
     refine Tm.atEnd ?_
     refine Tm.atRow (by first | assumption | omega) (by first | assumption | omega) (fun x16 hx17 hm18 => ?_)
     rw [hx3] at hx17
     injection hx17 with hx17
     subst hx17
     refine Tm.uncons ?_
     refine Tm.dStr ?_
     refine Tm.atEnd ?_
     refine Tm.ite (fun h20 => ?_) (fun h20 => ?_)
     ·try simp only [bz0,bz1,bz2,bz3,bz4,bz5,bz6,bz7,bz8,bz9,bza] at h20
      exact Tm.ret (by trivial)
     ·try simp only [bz0,bz1,bz2,bz3,bz4,bz5,bz6,bz7,bz8,bz9,bza] at h20
      try rw [Z9 (x := i + 1) (by omega) (by omega)]
      exact hL _ (by (try simp only []); omega) (by (try simp only []); omega)
    ·try simp only [bz0,bz1,bz2,bz3,bz4,bz5,bz6,bz7,bz8,bz9,bza] at h10
     try rw [Z9 (x := i + 1) (by omega) (by omega)]
     exact hL _ (by (try simp only []); omega) (by (try simp only []); omega)
  ·try simp only [bz0,bz1,bz2,bz3,bz4,bz5,bz6,bz7,bz8,bz9,bza] at h1
   exact Tm.ret (by trivial)
noncomputable def Yw.v (a0 : LD) : Bool := (Yw.t big a0).getD default
theorem Yw.tv {a0 : LD} (ga0 : ZB RS lim a0) {k : Nat} (hk : Fuel k) : Yw.t k a0 = some (Yw.v a0) := (Yw.T ga0).val hk
theorem Yw.fv {a0 : LD} (ga0 : ZB RS lim a0) {k : Nat} (hk : Fuel k) {β : Type} (K : Bool → Option β) : Yw.f k a0 K = K (Yw.v a0) := Yw.f_of (Yw.tv ga0 hk) K
theorem Yab.f_of {β : Type} {k a0 z0} (h : Yab.t k a0 = some z0) (K : Bool → Option β) : Yab.f k a0 K = K z0 := by unfold Yab.f; rw [h]; rfl
def textB (s : BA) : Bool := (List.range s.size).all fun i => inB (bS s (i : Int)) 32 126
theorem l4Text_fv {s : BA} (g : s.size ≤ lim) {k : Nat} (hk : Fuel k) {β : Type} (K : Bool → Option β) : Yab.f k s K = K (textB s && decide ((s.size : Int) ≤ 100)) := Yab.f_of (by
 have hlim : lim = 1048576 := rfl
 have hb : big = 2 ^ 64 := rfl
 unfold Yab.t Yab.g textB
 rw [iter_all0 (n := s.size) (fun i => inB (bS s (i : Int)) 32 126) (r1 := some false) (r2 := some (decide ((s.size : Int) ≤ 100))) (by unfold Fuel at hk; omega)]
 ·generalize List.all _ _ = x
  cases x <;> rfl
 ·intro L i hi
  simp (disch := omega) only [Yab.l0,ZY (show (i : Int) < s.size by omega),cond_true,atStr_at,wrap_b,l1In_fv,Z9]
  generalize inB _ _ _ = x
  cases x <;> rfl
 ·intro L
  simp [Yab.l0]) K
theorem Y4.f_of {β : Type} {k aB aA aH aF aI z0} (h : Y4.t k aB aA aH aF aI = some z0) (K : Bool → Option β) : Y4.f k aB aA aH aF aI K = K z0 := by unfold Y4.f; rw [h]; rfl
theorem Yy.f_of {β : Type} {k aB aA aH aF aI a1 z0} (h : Yy.t k aB aA aH aF aI a1 = some z0) (K : Int → Option β) : Yy.f k aB aA aH aF aI a1 K = K z0 := by unfold Yy.f Yy.w; rw [h]; rfl
theorem Yy.tm {ι α : Type} {ok : ι → Prop} {ψ : α → Prop} {p : ι → Nat} {B : Nat} (hp : ∀ i,ok i → B ≤ p i) {aB aA aH aF aI a1 φ} (h : Tm (fun k => B ≤ k) (fun k => Yy.t k aB aA aH aF aI a1) φ) {G : ι → Int → Option α} (hG : ∀ z0,φ z0 → Tm ok (fun i => G i z0) ψ) : Tm ok (fun i => Yy.f (p i) aB aA aH aF aI a1 (G i)) ψ := bd1_tm (t := fun k => Yy.t k aB aA aH aF aI a1) hp h hG
set_option maxRecDepth 100000 in
theorem l4Keys_fv {c0 : Int} {c1 : BA} {c2 : Int} {c3 c4 : LD} (g : ZB RS lim c3) {k : Nat} (hk : Fuel k) {β : Type} (K : Bool → Option β) : Y4.f k c0 c1 c2 c3 c4 K = K (namesB c3 && (c3.length : Int) == (c4.length : Int)) := Y4.f_of (by
 have hl := g.1
 have hlim : lim = 1048576 := rfl
 have hb : big = 2 ^ 64 := rfl
 unfold Y4.t Y4.g
 rw [iter_all0 (n := c3.length) (fun i => Yo.v (gS c3 (i : Int) 0) && (!decide ((i : Int) > 0) || strLt (gS c3 ((i : Int) - 1) 0) (gS c3 (i : Int) 0))) (r1 := some false) (r2 := some ((c3.length : Int) == (c4.length : Int))) (by unfold Fuel at hk; omega)]
 ·unfold namesB
  generalize List.all _ _ = x
  cases x <;> rfl
 ·intro L i hi
  have k0 := (RS.get g (v := (i : Int)) (by omega) (by omega)).2.1
  simp (disch := omega) only [Y4.l0,atR,rdQ,Q.ask,ZY (show (i : Int) < c3.length by omega),cond_true,RS.row g,Z4,ZaQ,Zan,Yo.fv k0 hk,Z9]
  by_cases h0 : (i : Int) > 0
  ·simp (disch := omega) only [ZY h0,cond_true,RS.row g,Z4,ZaQ,Zan]
   cases Yo.v (gS c3 (i : Int) 0) <;> cases strLt (gS c3 ((i : Int) - 1) 0) (gS c3 (i : Int) 0) <;> rfl
  ·simp only [ZZ h0,cond_false]
   cases Yo.v (gS c3 (i : Int) 0) <;> rfl
 ·intro L
  simp [Y4.l0,atR,rdQ,Q.ask]) K
def bareText : BA := (⟨#[]⟩ : BA)
noncomputable def Ya2 (kind : Int) (text : BA) (num : Int) (keys kids : LD) : Bool :=
 bif kind == 1 then (keys.length : Int) == 0 && ((kids.length : Int) == 0 && (num == 0 && (textB text && decide ((text.size : Int) ≤ 100))))
 else bif kind == 2 then (keys.length : Int) == 0 && ((kids.length : Int) == 0 && Zae text bareText)
 else bif kind == 3 then (keys.length : Int) == 0 && ((kids.length : Int) == 0 && (Zae text bareText && inB num 0 1))
 else bif kind == 4 then (keys.length : Int) == 0 && (Zae text bareText && num == 0)
 else bif kind == 5 then (namesB keys && (keys.length : Int) == (kids.length : Int)) && (Zae text bareText && num == 0)
 else false
def sumL (f : List D → Int) : LD → Int → Int
 | [],n => n
 | r :: rs,n => if f r = 0 ∨ n + f r > 300 then 0 else sumL f rs (n + f r)
noncomputable def YaU : Nat → List D → Int
 | 0,_ => 0
 | d + 1,r => bif sumL (YaU d) (rL r 4) 1 == 0 then 0 else bif Ya2 (rI r 0) (rS r 1) (rI r 2) (rL r 3) (rL r 4) then sumL (YaU d) (rL r 4) 1 else 0
theorem sumL_range {f : List D → Int} (hf : ∀ r,0 ≤ f r) : ∀ {rs : LD} {n : Int},1 ≤ n → n ≤ 300 → 0 ≤ sumL f rs n ∧ sumL f rs n ≤ 300 ∧ (sumL f rs n ≠ 0 → n + rs.length ≤ 300)
 | [],n,h,h' => by simp only [sumL,List.length_nil]; omega
 | r :: rs,n,h,h' => by
  have := hf r
  simp only [sumL]
  split
  ·omega
  ·have := sumL_range hf (rs := rs) (n := n + f r) (by omega) (by omega)
   simp only [List.length_cons]
   omega
theorem Yba : ∀ (d : Nat) (r : List D),0 ≤ YaU d r ∧ YaU d r ≤ 300
 | 0,r => by simp [YaU]
 | d + 1,r => by
  have := sumL_range (f := YaU d) (fun r => (Yba d r).1) (rs := rL r 4) (n := 1) (by omega) (by omega)
  simp only [YaU]
  generalize sumL (YaU d) (rL r 4) 1 = n at *
  cases n == 0 <;> cases Ya2 (rI r 0) (rS r 1) (rI r 2) (rL r 3) (rL r 4) <;> simp <;> omega
set_option maxRecDepth 100000 in
theorem look_t (d : Nat) : ∀ {c0 : Int} {c1 : BA} {c2 : Int} {c3 c4 : LD},c1.size ≤ lim → ZB RS lim c3 → ZB Yq lim c4 → d ≤ 6 → ∀ {k : Nat},big + d + 1 ≤ k → Yy.t k c0 c1 c2 c3 c4 (d : Int) = some (YaU d [.int .i64 c0,.str c1,.int .i64 c2,.sl c3,.sl c4]) := by
 have hlim : lim = 1048576 := rfl
 have hb : big = 2 ^ 64 := rfl
 induction d with
 | zero =>
  intro c0 c1 c2 c3 c4 g1 g3 g4 hd k hk
  cases k with
  | zero => omega
  | succ k => rfl
 | succ d ih =>
  intro c0 c1 c2 c3 c4 g1 g3 g4 hd k hk
  cases k with
  | zero => omega
  | succ k =>
  have hl := g4.1
  have hk0 : Fuel k := by unfold Fuel; omega
  rw [Yy.t_succ]
  unfold Yy.g Yy.body
  rw [show (((d + 1 : Nat) : Int) == 0) = false by rw [beq_eq_false_iff_ne]; omega,cond_false]
  have key := iter_val (b := Yy.l0 k (Yy.f k) ((d + 1 : Nat) : Int) c0 c1 c2 c3 c4 fun z0 => some z0) (fun v => ((c4.length : Int) - v.2).toNat) (fun v => 0 ≤ v.2 ∧ v.2 ≤ c4.length ∧ 1 ≤ v.1 ∧ v.1 ≤ 300)
   (fun v => bif sumL (YaU d) (c4.drop v.2.toNat) v.1 == 0 then some 0 else bif Ya2 c0 c1 c2 c3 c4 then some (sumL (YaU d) (c4.drop v.2.toNat) v.1) else some 0) ?_ k (1,0) (by simp only []; omega) (by simp only []; omega)
  ·rw [key]
   simp only [YaU]
   show (bif sumL (YaU d) (List.drop 0 c4) 1 == 0 then some 0 else bif Ya2 c0 c1 c2 c3 c4 then some (sumL (YaU d) (List.drop 0 c4) 1) else some 0) = some (bif sumL (YaU d) c4 1 == 0 then 0 else bif Ya2 c0 c1 c2 c3 c4 then sumL (YaU d) c4 1 else 0)
   rw [List.drop_zero]
   cases sumL (YaU d) c4 1 == 0 <;> cases Ya2 c0 c1 c2 c3 c4 <;> rfl
  ·rintro ⟨n,i⟩ ⟨i0,i1,n0,n1⟩ L hL
   simp only [] at i0 i1 n0 n1 hL ⊢
   by_cases hi : i < c4.length
   ·have hg := Yq.get g4 i0 hi
    have hr := Yba d (gR c4 i)
    have ih' := ih (c0 := gI c4 i 0) (c2 := gI c4 i 2) hg.2.2.1 hg.2.2.2.2.1 hg.2.2.2.2.2.1 (by omega) (k := k) (by omega)
    rw [← hg.1] at ih'
    simp (disch := omega) only [Yy.l0,atR,rdQ,Q.ask,ZY hi,cond_true,Yq.row g4,Z4,ZaQ,Z5,Zbl,Zan,Z9,show ((d + 1 : Nat) : Int) - 1 = (d : Int) by omega]
    rw [Yy.f_of ih',drop_gR i0 hi]
    simp only [sumL]
    by_cases hz : YaU d (gR c4 i) = 0
    ·rw [hz]
     simp
    ·rw [show (YaU d (gR c4 i) == 0) = false by rw [beq_eq_false_iff_ne]; exact hz,cond_false,Z9 (by omega) (by omega)]
     by_cases hn : n + YaU d (gR c4 i) > 300
     ·rw [ZY hn,if_pos (.inr hn)]
      rfl
     ·rw [ZZ hn,if_neg (by omega),cond_false,hL _ ⟨by simp only []; omega,by simp only []; omega,by simp only []; omega,by simp only []; omega⟩ (by simp only []; omega)]
   ·rw [drop_end (by omega)]
    simp only [Yy.l0,atR,rdQ,Q.ask,ZZ hi,cond_false,sumL,l4Keys_fv g3 hk0,l1In_fv,l4Text_fv g1 hk0]
    rw [show (n == 0) = false by rw [beq_eq_false_iff_ne]; omega,cond_false]
    unfold Ya2
    generalize (textB c1 && decide ((c1.size : Int) ≤ 100)) = b1
    generalize hb2 : Zae c1 (⟨#[]⟩ : BA) = b2
    have hb3 : Zae c1 bareText = b2 := hb2
    rw [hb3]
    generalize namesB c3 = b3
    generalize inB c2 0 1 = b4
    generalize (c2 == 0) = b5
    generalize ((c4.length : Int) == 0) = b6
    generalize ((c3.length : Int) == (c4.length : Int)) = b7
    generalize ((c3.length : Int) == 0) = b8
    rcases ZaM c0 with rfl | rfl | rfl | rfl | rfl | ⟨e1,e2,e3,e4,e5⟩
    ·cases b1 <;> cases b5 <;> cases b6 <;> cases b8 <;> rfl
    ·cases b2 <;> cases b6 <;> cases b8 <;> rfl
    ·cases b2 <;> cases b4 <;> cases b6 <;> cases b8 <;> rfl
    ·cases b2 <;> cases b5 <;> cases b8 <;> rfl
    ·cases b2 <;> cases b3 <;> cases b5 <;> cases b7 <;> cases b8 <;> rfl
    ·cases b8 <;> simp only [e1,e2,e3,e4,e5,cond_false,cond_true]
theorem look_fv {d c0 : Int} {c1 : BA} {c2 : Int} {c3 c4 : LD} (hd0 : 0 ≤ d) (hd : d ≤ 6) (g1 : c1.size ≤ lim) (g3 : ZB RS lim c3) (g4 : ZB Yq lim c4) {k : Nat} (hk : Zai 1 k) {β : Type} (K : Int → Option β) : Yy.f k c0 c1 c2 c3 c4 d K = K (YaU d.toNat [.int .i64 c0,.str c1,.int .i64 c2,.sl c3,.sl c4]) := by
 have hb : big = 2 ^ 64 := rfl
 have h1 : lv 1 = 2 ^ 65 := rfl
 obtain ⟨n,rfl⟩ : ∃ n : Nat,d = n := ⟨d.toNat,by omega⟩
 exact Yy.f_of (look_t n g1 g3 g4 (by omega) (by unfold Zai at hk; omega)) K
theorem Yy.T {aB : Int} {aA : BA} {aH : Int} {aF aI : LD} {a1 : Int} (h0 : 0 ≤ a1) (h1 : a1 ≤ 6) (g1 : aA.size ≤ lim) (g3 : ZB RS lim aF) (g4 : ZB Yq lim aI) : Tm (Zai 1) (fun k => Yy.t k aB aA aH aF aI a1) (fun _ => True) := by
 have hb : big = 2 ^ 64 := rfl
 have h2 : lv 1 = 2 ^ 65 := rfl
 obtain ⟨n,rfl⟩ : ∃ n : Nat,a1 = n := ⟨a1.toNat,by omega⟩
 exact Tm.of (fun k hk => look_t n g1 g3 g4 (by omega) (by omega)) trivial
theorem YF.f_of {β : Type} {k aB aA aH aF aI z0} (h : YF.t k aB aA aH aF aI = some z0) (K : Bool → Option β) : YF.f k aB aA aH aF aI K = K z0 := by unfold YF.f; rw [h]; rfl
theorem YF.tm {ι α : Type} {ok : ι → Prop} {ψ : α → Prop} {p : ι → Nat} {B : Nat} (hp : ∀ i,ok i → B ≤ p i) {aB aA aH aF aI φ} (h : Tm (fun k => B ≤ k) (fun k => YF.t k aB aA aH aF aI) φ) {G : ι → Bool → Option α} (hG : ∀ z0,φ z0 → Tm ok (fun i => G i z0) ψ) : Tm ok (fun i => YF.f (p i) aB aA aH aF aI (G i)) ψ := bd1_tm (t := fun k => YF.t k aB aA aH aF aI) hp h hG
theorem YF.T {aB : Int} {aA : BA} {aH : Int} {aF aI : LD} (ga0_1 : aA.size ≤ lim) (ga0_3 : ZB RS lim aF) (ga0_4 : ZB Yq lim aI) : Tm (Zai 1) (fun k => YF.t k aB aA aH aF aI) (fun _ => True) := by
 unfold YF.t YF.g
 have hm := maxLen_eq
 have hlim : lim = 1048576 := rfl
 have la0_3 := ga0_3.1
 have la0_4 := ga0_4.1
 refine Yy.tm (fun i hi => hi) (Yy.T (by first | assumption | omega) (by first | assumption | omega) (by first | assumption | omega) (by first | assumption | omega) (by first | assumption | omega)) (fun y2 hy1 => ?_)
 exact Tm.ret (by trivial)
noncomputable def YF.v (aB : Int) (aA : BA) (aH : Int) (aF aI : LD) : Bool := (YF.t (lv 1) aB aA aH aF aI).getD default
theorem YF.tv {aB : Int} {aA : BA} {aH : Int} {aF aI : LD} (ga0_1 : aA.size ≤ lim) (ga0_3 : ZB RS lim aF) (ga0_4 : ZB Yq lim aI) {k : Nat} (hk : (Zai 1) k) : YF.t k aB aA aH aF aI = some (YF.v aB aA aH aF aI) := (YF.T ga0_1 ga0_3 ga0_4).val hk
theorem YF.fv {aB : Int} {aA : BA} {aH : Int} {aF aI : LD} (ga0_1 : aA.size ≤ lim) (ga0_3 : ZB RS lim aF) (ga0_4 : ZB Yq lim aI) {k : Nat} (hk : (Zai 1) k) {β : Type} (K : Bool → Option β) : YF.f k aB aA aH aF aI K = K (YF.v aB aA aH aF aI) := YF.f_of (YF.tv ga0_1 ga0_3 ga0_4 hk) K
theorem Yas.f_of {β : Type} {k aB aA aH aF aI bD aV bA aP bB aQ aW aY aR bC aT aX a1 a2 a3 z0} (h : Yas.t k aB aA aH aF aI bD aV bA aP bB aQ aW aY aR bC aT aX a1 a2 a3 = some z0) (K : Bool → Option β) : Yas.f k aB aA aH aF aI bD aV bA aP bB aQ aW aY aR bC aT aX a1 a2 a3 K = K z0 := by unfold Yas.f; rw [h]; rfl
theorem Yas.tm {ι α : Type} {ok : ι → Prop} {ψ : α → Prop} {p : ι → Nat} {B : Nat} (hp : ∀ i,ok i → B ≤ p i) {aB aA aH aF aI bD aV bA aP bB aQ aW aY aR bC aT aX a1 a2 a3 φ} (h : Tm (fun k => B ≤ k) (fun k => Yas.t k aB aA aH aF aI bD aV bA aP bB aQ aW aY aR bC aT aX a1 a2 a3) φ) {G : ι → Bool → Option α} (hG : ∀ z0,φ z0 → Tm ok (fun i => G i z0) ψ) : Tm ok (fun i => Yas.f (p i) aB aA aH aF aI bD aV bA aP bB aQ aW aY aR bC aT aX a1 a2 a3 (G i)) ψ := bd1_tm (t := fun k => Yas.t k aB aA aH aF aI bD aV bA aP bB aQ aW aY aR bC aT aX a1 a2 a3) hp h hG
theorem Yas.T {aB : Int} {aA : BA} {aH aF aI : Int} {bD : Bool} {aV : LD} {bA : Int} {aP : BA} {bB : Int} {aQ aW : LD} {aY : Int} {aR : BA} {bC : Int} {aT aX : LD} {a1 a2 : Int} {a3 : Bool} (ga0_1 : aA.size ≤ lim) (ga0_6 : ZB RS lim aV) (ga0_8 : aP.size ≤ lim) (ga0_10 : ZB RS lim aQ) (ga0_11 : ZB Yq lim aW) (ga0_13 : aR.size ≤ lim) (ga0_15 : ZB RS lim aT) (ga0_16 : ZB Yq lim aX) : Tm (Zai 1) (fun k => Yas.t k aB aA aH aF aI bD aV bA aP bB aQ aW aY aR bC aT aX a1 a2 a3) (fun _ => True) := by
 unfold Yas.t Yas.g
 have hm := maxLen_eq
 have hlim : lim = 1048576 := rfl
 have la0_6 := ga0_6.1
 have la0_10 := ga0_10.1
 have la0_11 := ga0_11.1
 have la0_15 := ga0_15.1
 have la0_16 := ga0_16.1
 refine YJ.tm (fun i hi => up0 hi) (YJ.T) (fun y2 hy1 => ?_)
 refine Tm.ite (fun h3 => ?_) (fun h3 => ?_)
 ·try simp only [bz0,bz1,bz2,bz3,bz4,bz5,bz6,bz7,bz8,bz9,bza] at h3
  have z4 := hy1 h3
  refine Yo.tm (fun i hi => up0 hi) (Yo.T (by first | assumption | omega)) (fun y6 hy5 => ?_)
  refine Tm.ite (fun h7 => ?_) (fun h7 => ?_)
  ·try simp only [bz0,bz1,bz2,bz3,bz4,bz5,bz6,bz7,bz8,bz9,bza] at h7
   try rw [Z9 (x := a2 - 1) (by omega) (by omega)]
   refine YJ.tm (fun i hi => up0 hi) (YJ.T) (fun y9 hy8 => ?_)
   refine Tm.ite (fun h10 => ?_) (fun h10 => ?_)
   ·try simp only [bz0,bz1,bz2,bz3,bz4,bz5,bz6,bz7,bz8,bz9,bza] at h10
    have z11 := hy8 h10
    refine YJ.tm (fun i hi => up0 hi) (YJ.T) (fun y13 hy12 => ?_)
    refine Tm.ite (fun h14 => ?_) (fun h14 => ?_)
    ·try simp only [bz0,bz1,bz2,bz3,bz4,bz5,bz6,bz7,bz8,bz9,bza] at h14
     have z15 := hy12 h14
     refine YJ.tm (fun i hi => up0 hi) (YJ.T) (fun y17 hy16 => ?_)
     refine Tm.ite (fun h18 => ?_) (fun h18 => ?_)
     ·try simp only [bz0,bz1,bz2,bz3,bz4,bz5,bz6,bz7,bz8,bz9,bza] at h18
      have z19 := hy16 h18
      refine Yw.tm (fun i hi => up0 hi) (Yw.T (by first | assumption | omega)) (fun y21 hy20 => ?_)
      refine Tm.ite (fun h22 => ?_) (fun h22 => ?_)
      ·try simp only [bz0,bz1,bz2,bz3,bz4,bz5,bz6,bz7,bz8,bz9,bza] at h22
       refine YF.tm (fun i hi => hi) (YF.T (by first | assumption | omega) (by first | assumption | omega) (by first | assumption | omega)) (fun y24 hy23 => ?_)
       refine Tm.ite (fun h25 => ?_) (fun h25 => ?_)
       ·try simp only [bz0,bz1,bz2,bz3,bz4,bz5,bz6,bz7,bz8,bz9,bza] at h25
        refine YF.tm (fun i hi => hi) (YF.T (by first | assumption | omega) (by first | assumption | omega) (by first | assumption | omega)) (fun y27 hy26 => ?_)
        refine Tm.ite (fun h28 => ?_) (fun h28 => ?_)
        ·try simp only [bz0,bz1,bz2,bz3,bz4,bz5,bz6,bz7,bz8,bz9,bza] at h28
         refine Tm.ite (fun h29 => ?_) (fun h29 => ?_)
         ·try simp only [bz0,bz1,bz2,bz3,bz4,bz5,bz6,bz7,bz8,bz9,bza] at h29
          exact Tm.ret (by trivial)
         ·try simp only [bz0,bz1,bz2,bz3,bz4,bz5,bz6,bz7,bz8,bz9,bza] at h29
          refine Tm.ite (fun h30 => ?_) (fun h30 => ?_)
          ·try simp only [bz0,bz1,bz2,bz3,bz4,bz5,bz6,bz7,bz8,bz9,bza] at h30
           exact Tm.ret (by trivial)
          ·try simp only [bz0,bz1,bz2,bz3,bz4,bz5,bz6,bz7,bz8,bz9,bza] at h30
           exact Tm.ret (by trivial)
        ·try simp only [bz0,bz1,bz2,bz3,bz4,bz5,bz6,bz7,bz8,bz9,bza] at h28
         exact Tm.ret (by trivial)
       ·try simp only [bz0,bz1,bz2,bz3,bz4,bz5,bz6,bz7,bz8,bz9,bza] at h25
        exact Tm.ret (by trivial)
      ·try simp only [bz0,bz1,bz2,bz3,bz4,bz5,bz6,bz7,bz8,bz9,bza] at h22
       exact Tm.ret (by trivial)
     ·try simp only [bz0,bz1,bz2,bz3,bz4,bz5,bz6,bz7,bz8,bz9,bza] at h18
      exact Tm.ret (by trivial)
    ·try simp only [bz0,bz1,bz2,bz3,bz4,bz5,bz6,bz7,bz8,bz9,bza] at h14
     exact Tm.ret (by trivial)
   ·try simp only [bz0,bz1,bz2,bz3,bz4,bz5,bz6,bz7,bz8,bz9,bza] at h10
    exact Tm.ret (by trivial)
  ·try simp only [bz0,bz1,bz2,bz3,bz4,bz5,bz6,bz7,bz8,bz9,bza] at h7
   exact Tm.ret (by trivial)
 ·try simp only [bz0,bz1,bz2,bz3,bz4,bz5,bz6,bz7,bz8,bz9,bza] at h3
  exact Tm.ret (by trivial)
theorem YaH.f_of {β : Type} {k aB aA aH aF aI bD aV bA aP bB aQ aW aY aR bC aT aX aM aN aU aO bF bH bI bJ bK bL bM bN bO bP bQ bR bT z0} (h : YaH.t k aB aA aH aF aI bD aV bA aP bB aQ aW aY aR bC aT aX aM aN aU aO bF bH bI bJ bK bL bM bN bO bP bQ bR bT = some z0) (K : Bool → Option β) : YaH.f k aB aA aH aF aI bD aV bA aP bB aQ aW aY aR bC aT aX aM aN aU aO bF bH bI bJ bK bL bM bN bO bP bQ bR bT K = K z0 := by unfold YaH.f; rw [h]; rfl
theorem Ym.f_of {β : Type} {k a0 a1 a2 z0} (h : Ym.t k a0 a1 a2 = some z0) (K : Bool → Option β) : Ym.f k a0 a1 a2 K = K z0 := by unfold Ym.f; rw [h]; rfl
theorem Ym.tm {ι α : Type} {ok : ι → Prop} {ψ : α → Prop} {p : ι → Nat} {B : Nat} (hp : ∀ i,ok i → B ≤ p i) {a0 a1 a2 φ} (h : Tm (fun k => B ≤ k) (fun k => Ym.t k a0 a1 a2) φ) {G : ι → Bool → Option α} (hG : ∀ z0,φ z0 → Tm ok (fun i => G i z0) ψ) : Tm ok (fun i => Ym.f (p i) a0 a1 a2 (G i)) ψ := bd1_tm (t := fun k => Ym.t k a0 a1 a2) hp h hG
noncomputable def objV (x0 : Int) (x1 : BA) (x2 x3 x4 : Int) (x5 : Bool) (x6 : LD) (x7 : Int) (x8 : BA) (x9 : Int) (x10 x11 : LD) (x12 : Int) (x13 : BA) (x14 : Int) (x15 x16 : LD) (Z8 rev : Int) (gone : Bool) : Bool :=
 inB x0 1 3 && (Yo.v x1 && (inB x2 1 Z8 && (inB x3 1 rev && (inB x4 1 x3 && (Yw.v x6 && (YF.v x7 x8 x9 x10 x11 && (YF.v x12 x13 x14 x15 x16 && (gone || (!x5 || decide ((x6.length : Int) > 0))))))))))
theorem l7Obj_fv {x0 : Int} {x1 : BA} {x2 x3 x4 : Int} {x5 : Bool} {x6 : LD} {x7 : Int} {x8 : BA} {x9 : Int} {x10 x11 : LD} {x12 : Int} {x13 : BA} {x14 : Int} {x15 x16 : LD} {rev next : Int} {gone : Bool} (g1 : x1.size ≤ lim) (g6 : ZB RS lim x6) (g8 : x8.size ≤ lim) (g10 : ZB RS lim x10) (g11 : ZB Yq lim x11) (g13 : x13.size ≤ lim) (g15 : ZB RS lim x15) (g16 : ZB Yq lim x16) {k : Nat} (hk : Zai 1 k) {β : Type} (K : Bool → Option β) :
  Yas.f k x0 x1 x2 x3 x4 x5 x6 x7 x8 x9 x10 x11 x12 x13 x14 x15 x16 rev next gone K = K (objV x0 x1 x2 x3 x4 x5 x6 x7 x8 x9 x10 x11 x12 x13 x14 x15 x16 (IntKind.wrap .i64 (next - 1)) rev gone) := Yas.f_of (by
 have hk0 : Fuel k := up0 hk
 unfold Yas.t Yas.g objV
 simp only [l1In_fv,Yo.fv g1 hk0,Yw.fv g6 hk0,YF.fv g8 g10 g11 hk,YF.fv g13 g15 g16 hk]
 generalize inB x0 1 3 = b0
 generalize Yo.v x1 = b1
 generalize inB x2 1 (IntKind.wrap .i64 (next - 1)) = b2
 generalize inB x3 1 rev = b3
 generalize inB x4 1 x3 = b4
 generalize Yw.v x6 = b5
 generalize YF.v x7 x8 x9 x10 x11 = b6
 generalize YF.v x12 x13 x14 x15 x16 = b7
 cases b0
 ·rfl
 cases b1
 ·rfl
 cases b2
 ·rfl
 cases b3
 ·rfl
 cases b4
 ·rfl
 cases b5
 ·rfl
 cases b6
 ·rfl
 cases b7
 ·rfl
 cases gone <;> cases x5 <;> rfl) K
noncomputable def lessV (x0 : Int) (x1 : BA) (y0 : Int) (y1 : BA) : Bool := decide (x0 < y0) || ((x0 == y0) && strLt x1 y1)
theorem l7Less_fv {x0 : Int} {x1 : BA} {x2 x3 x4 : Int} {x5 : Bool} {x6 : LD} {x7 : Int} {x8 : BA} {x9 : Int} {x10 x11 : LD} {x12 : Int} {x13 : BA} {x14 : Int} {x15 x16 : LD} {y0 : Int} {y1 : BA} {y2 y3 y4 : Int} {y5 : Bool} {y6 : LD} {y7 : Int} {y8 : BA} {y9 : Int} {y10 y11 : LD} {y12 : Int} {y13 : BA} {y14 : Int} {y15 y16 : LD} {k : Nat} {β : Type} (K : Bool → Option β) :
  YaH.f k x0 x1 x2 x3 x4 x5 x6 x7 x8 x9 x10 x11 x12 x13 x14 x15 x16 y0 y1 y2 y3 y4 y5 y6 y7 y8 y9 y10 y11 y12 y13 y14 y15 y16 K = K (lessV x0 x1 y0 y1) := YaH.f_of (by
 unfold YaH.t YaH.g lessV
 cases decide (x0 < y0) <;> cases x0 == y0 <;> rfl) K
noncomputable def objR (a : LD) (i Z8 rev : Int) : Bool := objV (gI a i 0) (gS a i 1) (gI a i 2) (gI a i 3) (gI a i 4) (gB a i 5) (gL a i 6) (gI a i 7) (gS a i 8) (gI a i 9) (gL a i 10) (gL a i 11) (gI a i 12) (gS a i 13) (gI a i 14) (gL a i 15) (gL a i 16) Z8 rev false
noncomputable def objsP (a : LD) (Z8 rev : Int) (i : Nat) : Bool := objR a i Z8 rev && ((!decide ((i : Int) > 0) || lessV (gI a ((i : Int) - 1) 0) (gS a ((i : Int) - 1) 1) (gI a (i : Int) 0) (gS a (i : Int) 1)) && (List.range i).all fun j => !(gI a (j : Int) 2 == gI a (i : Int) 2))
noncomputable def objsB (a : LD) (Z8 rev : Int) : Bool := (List.range a.length).all (objsP a Z8 rev) && decide ((a.length : Int) ≤ 60)
set_option maxRecDepth 100000 in
theorem l7Objs_t {a : LD} {rev next : Int} (g : ZB Ya lim a) {k : Nat} (hk : Zai 1 k) : Ym.t k a rev next = some (objsB a (IntKind.wrap .i64 (next - 1)) rev) := by
 have hk0 : Fuel k := up0 hk
 have hl := g.1
 have hlim : lim = 1048576 := rfl
 have hb : big = 2 ^ 64 := rfl
 unfold Ym.t Ym.g
 refine (iter_allT (fun i => (a,rev,next,(i : Int))) (n := a.length) (objsP a (IntKind.wrap .i64 (next - 1)) rev) (r1 := some false) (r2 := some (decide ((a.length : Int) ≤ 60))) (by unfold Fuel at hk0; omega) (fun L i hi => ?_) (fun L => by simp [Ym.l0,Ym.m0,atR,rdQ,Q.ask])).trans ?_
 ·obtain ⟨-,-,k1,-,-,-,k6,-,k8,-,k10,k11,-,k13,-,k15,k16,-⟩ := Ya.get g (v := (i : Int)) (by omega) (by omega)
  have hin : ∀ {b : (Int → Option Bool) → Int → Option Bool},(∀ (L1 : Int → Option Bool) (j : Nat),j < i → b L1 (j : Int) = bif !(gI a (j : Int) 2 == gI a (i : Int) 2) then L1 ((j : Int) + 1) else some false) → (∀ L1,b L1 (i : Int) = L (a,rev,next,((i + 1 : Nat) : Int))) → ZA b k 0 = bif (List.range i).all (fun j => !(gI a (j : Int) 2 == gI a (i : Int) 2)) then L (a,rev,next,((i + 1 : Nat) : Int)) else some false := fun q1 q2 => iter_all0 _ (by unfold Fuel at hk0; omega) q1 q2
  have e1 : ZA (Ym.l1 k a rev next (i : Int) L some) k 0 = bif (List.range i).all (fun j => !(gI a (j : Int) 2 == gI a (i : Int) 2)) then L (a,rev,next,((i + 1 : Nat) : Int)) else some false := hin (fun L1 j hj => by
   simp (disch := omega) only [Ym.l1,atR,rdQ,Q.ask,ZY (show (j : Int) < i by omega),cond_true,Ya.row g,Z4,Z5,ZaQ,ZaV,Zbl,Zan,Z9]
   cases gI a (j : Int) 2 == gI a (i : Int) 2 <;> rfl) (fun L1 => by
   simp (disch := omega) only [Ym.l1,atR,rdQ,Q.ask,ZZ (show ¬ (i : Int) < i by omega),cond_false,Z9]
   rfl)
  have e2 : ZA (Ym.l2 k a rev next (i : Int) L some) k 0 = bif (List.range i).all (fun j => !(gI a (j : Int) 2 == gI a (i : Int) 2)) then L (a,rev,next,((i + 1 : Nat) : Int)) else some false := hin (fun L1 j hj => by
   simp (disch := omega) only [Ym.l2,atR,rdQ,Q.ask,ZY (show (j : Int) < i by omega),cond_true,Ya.row g,Z4,Z5,ZaQ,ZaV,Zbl,Zan,Z9]
   cases gI a (j : Int) 2 == gI a (i : Int) 2 <;> rfl) (fun L1 => by
   simp (disch := omega) only [Ym.l2,atR,rdQ,Q.ask,ZZ (show ¬ (i : Int) < i by omega),cond_false,Z9]
   rfl)
  have e3 : ∀ {F : Bool → Option Bool},Yas.f k (gI a i 0) (gS a i 1) (gI a i 2) (gI a i 3) (gI a i 4) (gB a i 5) (gL a i 6) (gI a i 7) (gS a i 8) (gI a i 9) (gL a i 10) (gL a i 11) (gI a i 12) (gS a i 13) (gI a i 14) (gL a i 15) (gL a i 16) rev next false F = F (objR a i (IntKind.wrap .i64 (next - 1)) rev) := l7Obj_fv k1 k6 k8 k10 k11 k13 k15 k16 hk _
  unfold objsP
  simp (disch := omega) only [Ym.l0,Ym.m0,atR,rdQ,Q.ask,ZY (show (i : Int) < a.length by omega),cond_true,Ya.row g,Z4,Z5,ZaQ,ZaV,Zbl,Zan,e3,e1,e2]
  cases objR a (i : Int) (IntKind.wrap .i64 (next - 1)) rev
  ·rfl
  by_cases h0 : (i : Int) > 0
  ·simp (disch := omega) only [ZY h0,cond_true,Z9,Ya.row g,Z4,Z5,ZaQ,ZaV,Zbl,Zan,l7Less_fv,Bool.not_true,cond_false]
   cases lessV (gI a ((i : Int) - 1) 0) (gS a ((i : Int) - 1) 1) (gI a (i : Int) 0) (gS a (i : Int) 1) <;> rfl
  ·simp only [ZZ h0,cond_false,Bool.not_true,Bool.not_false,Bool.true_or,Bool.true_and]
 ·unfold objsB
  cases (List.range a.length).all (objsP a (IntKind.wrap .i64 (next - 1)) rev) <;> rfl
theorem l7Objs_fv {a : LD} {rev next : Int} (g : ZB Ya lim a) {k : Nat} (hk : Zai 1 k) {β : Type} (K : Bool → Option β) : Ym.f k a rev next K = K (objsB a (IntKind.wrap .i64 (next - 1)) rev) := Ym.f_of (l7Objs_t g hk) K
theorem Ym.T {a0 : LD} {a1 a2 : Int} (g : ZB Ya lim a0) : Tm (Zai 1) (fun k => Ym.t k a0 a1 a2) (fun _ => True) := Tm.of (v := objsB a0 (IntKind.wrap .i64 (a2 - 1)) a1) (fun k hk => l7Objs_t g hk) trivial
theorem bl_step (x y : UInt8) (xs ys : List UInt8) : Op.bytesLess (x :: xs) (y :: ys) = true ↔ x.toNat < y.toNat ∨ (x = y ∧ Op.bytesLess xs ys = true) := by
 rw [show Op.bytesLess (x :: xs) (y :: ys) = (decide (x < y) || (x == y && Op.bytesLess xs ys)) by simp only [Op.bytesLess]]
 by_cases h : x < y
 ·have : x.toNat < y.toNat := UInt8.lt_iff_toNat_lt.mp h
  simp [h,this]
 ·have hn : ¬ x.toNat < y.toNat := fun q => h (UInt8.lt_iff_toNat_lt.mpr q)
  by_cases e : x = y
  ·subst e; simp [h]
  ·have h2 : y < x := by
    refine UInt8.lt_iff_toNat_lt.mpr ?_
    have : x.toNat ≠ y.toNat := fun q => e (UInt8.toNat_inj.mp q)
    omega
   simp [h,hn,e,h2]
theorem bl_trans : ∀ {x y z : List UInt8},Op.bytesLess x y = true → Op.bytesLess y z = true → Op.bytesLess x z = true
 | [],[],z,h,_ => by simp [Op.bytesLess] at h
 | [],_ :: _,[],_,h => by simp [Op.bytesLess] at h
 | [],_ :: _,_ :: _,_,_ => by simp [Op.bytesLess]
 | _ :: _,[],_,h,_ => by simp [Op.bytesLess] at h
 | _ :: _,_ :: _,[],_,h => by simp [Op.bytesLess] at h
 | x :: xs,y :: ys,z :: zs,h1,h2 => by
  rw [bl_step] at h1 h2 ⊢
  rcases h1 with h1 | ⟨rfl,h1⟩ <;> rcases h2 with h2 | ⟨rfl,h2⟩
  ·exact .inl (by omega)
  ·exact .inl h1
  ·exact .inl h2
  ·exact .inr ⟨rfl,bl_trans h1 h2⟩
theorem bl_irr : ∀ x : List UInt8,Op.bytesLess x x = false
 | [] => by simp [Op.bytesLess]
 | x :: xs => by
  cases h : Op.bytesLess (x :: xs) (x :: xs)
  ·rfl
  ·rw [bl_step] at h
   rcases h with h | ⟨_,h⟩
   ·omega
   ·rw [bl_irr xs] at h; cases h
theorem bl_tri : ∀ {x y : List UInt8},Op.bytesLess x y = false → x ≠ y → Op.bytesLess y x = true
 | [],[],_,h => absurd rfl h
 | [],_ :: _,h,_ => by simp [Op.bytesLess] at h
 | _ :: _,[],_,_ => by simp [Op.bytesLess]
 | x :: xs,y :: ys,h,hne => by
  rw [bl_step]
  have h' : ¬ (x.toNat < y.toNat ∨ (x = y ∧ Op.bytesLess xs ys = true)) := fun q => by rw [(bl_step x y xs ys).mpr q] at h; cases h
  by_cases e : x = y
  ·subst e
   refine .inr ⟨rfl,bl_tri ?_ fun q => hne (by rw [q])⟩
   cases q : Op.bytesLess xs ys
   ·rfl
   ·exact absurd (.inr ⟨rfl,q⟩) h'
  ·have : x.toNat ≠ y.toNat := fun q => e (UInt8.toNat_inj.mp q)
   exact .inl (by have := fun q => h' (.inl q); omega)
theorem strEq_iff2 {a b : BA} : Zae a b = true ↔ a.toList = b.toList := by unfold Zae; exact beq_iff_eq
noncomputable def YaM (x y : List D) : Bool := lessV (rI x 0) (rS x 1) (rI y 0) (rS y 1)
def YaZ (x y : List D) : Bool := (rI x 0 == rI y 0) && Zae (rS x 1) (rS y 1)
theorem Ya0 {x y : List D} : YaM x y = true ↔ rI x 0 < rI y 0 ∨ (rI x 0 = rI y 0 ∧ Op.bytesLess (rS x 1).toList (rS y 1).toList = true) := by
 unfold YaM lessV strLt
 simp
theorem sameR_iff {x y : List D} : YaZ x y = true ↔ rI x 0 = rI y 0 ∧ (rS x 1).toList = (rS y 1).toList := by
 unfold YaZ
 rw [Bool.and_eq_true,beq_iff_eq,strEq_iff2]
theorem orderR : Ordered YaM YaZ where
 irr x y h := by
  obtain ⟨h1,h2⟩ := sameR_iff.mp h
  cases q : YaM x y
  ·rfl
  ·rcases Ya0.mp q with z | ⟨_,z⟩
   ·omega
   ·rw [h2,bl_irr] at z; cases z
 tri x y h1 h2 := by
  have h1' : ¬ (rI x 0 < rI y 0 ∨ (rI x 0 = rI y 0 ∧ Op.bytesLess (rS x 1).toList (rS y 1).toList = true)) := fun q => by rw [Ya0.mpr q] at h1; cases h1
  have h2' : ¬ (rI x 0 = rI y 0 ∧ (rS x 1).toList = (rS y 1).toList) := fun q => by rw [sameR_iff.mpr q] at h2; cases h2
  refine Ya0.mpr ?_
  by_cases e : rI x 0 = rI y 0
  ·refine .inr ⟨e.symm,bl_tri ?_ fun q => h2' ⟨e,q⟩⟩
   cases q : Op.bytesLess (rS x 1).toList (rS y 1).toList
   ·rfl
   ·exact absurd (.inr ⟨e,q⟩) h1'
  ·exact .inl (by have := fun q => h1' (.inl q); omega)
 asym x y h := by
  cases q : YaM y x
  ·rfl
  ·rcases Ya0.mp h with z | ⟨z1,z2⟩ <;> rcases Ya0.mp q with u | ⟨u1,u2⟩
   ·omega
   ·omega
   ·omega
   ·have := bl_trans z2 u2
    rw [bl_irr] at this; cases this
 trans x y z h1 h2 := by
  refine Ya0.mpr ?_
  rcases Ya0.mp h1 with z1 | ⟨z1,z2⟩ <;> rcases Ya0.mp h2 with u | ⟨u1,u2⟩
  ·exact .inl (by omega)
  ·exact .inl (by omega)
  ·exact .inl (by omega)
  ·exact .inr ⟨by omega,bl_trans z2 u2⟩
 cong x y z h1 h2 := by
  obtain ⟨a1,a2⟩ := sameR_iff.mp h1
  refine Ya0.mpr ?_
  rcases Ya0.mp h2 with u | ⟨u1,u2⟩
  ·exact .inl (by omega)
  ·exact .inr ⟨by omega,by rw [a2]; exact u2⟩
 sym x y h := by
  obtain ⟨a1,a2⟩ := sameR_iff.mp h
  exact sameR_iff.mpr ⟨a1.symm,a2.symm⟩
theorem Yv.f_of {β : Type} {k aB aA aH aF z0} (h : Yv.t k aB aA aH aF = some z0) (K : Bool → Option β) : Yv.f k aB aA aH aF K = K z0 := by unfold Yv.f; rw [h]; rfl
set_option maxRecDepth 100000 in
theorem Yv.T {aB : LD} {aA aH : Int} {aF : LD} (ga0_0 : ZB Ya lim aB) (ga0_3 : ZB Yb lim aF) : Tm (Zai 1) (fun k => Yv.t k aB aA aH aF) (fun _ => True) := by
 unfold Yv.t Yv.g Yv.m
 have hm := maxLen_eq
 have hlim : lim = 1048576 := rfl
 have la0_0 := ga0_0.1
 have la0_3 := ga0_3.1
 refine YJ.tm (fun i hi => up0 hi) (YJ.T) (fun y2 hy1 => ?_)
 refine Tm.ite (fun h3 => ?_) (fun h3 => ?_)
 ·try simp only [bz0,bz1,bz2,bz3,bz4,bz5,bz6,bz7,bz8,bz9,bza] at h3
  exact Tm.ret (by trivial)
 ·try simp only [bz0,bz1,bz2,bz3,bz4,bz5,bz6,bz7,bz8,bz9,bza] at h3
  have z4 := hy1 h3
  refine YJ.tm (fun i hi => up0 hi) (YJ.T) (fun y6 hy5 => ?_)
  refine Tm.ite (fun h7 => ?_) (fun h7 => ?_)
  ·try simp only [bz0,bz1,bz2,bz3,bz4,bz5,bz6,bz7,bz8,bz9,bza] at h7
   exact Tm.ret (by trivial)
  ·try simp only [bz0,bz1,bz2,bz3,bz4,bz5,bz6,bz7,bz8,bz9,bza] at h7
   have z8 := hy5 h7
   refine Tm.ite (fun h9 => ?_) (fun h9 => ?_)
   ·try simp only [bz0,bz1,bz2,bz3,bz4,bz5,bz6,bz7,bz8,bz9,bza] at h9
    exact Tm.ret (by trivial)
   ·try simp only [bz0,bz1,bz2,bz3,bz4,bz5,bz6,bz7,bz8,bz9,bza] at h9
    refine Ym.tm (fun i hi => hi) (Ym.T (by first | assumption | omega)) (fun y11 hy10 => ?_)
    refine Tm.ite (fun h12 => ?_) (fun h12 => ?_)
    ·try simp only [bz0,bz1,bz2,bz3,bz4,bz5,bz6,bz7,bz8,bz9,bza] at h12
     exact Tm.ret (by trivial)
    ·try simp only [bz0,bz1,bz2,bz3,bz4,bz5,bz6,bz7,bz8,bz9,bza] at h12
     refine Tm.loop (okk := (Zai 1)) (p := fun k => k) (fun i hi => up0 hi) (b := fun k => Yv.l0 k aB aA aH aF (fun z0 => some z0)) (fun i => (((aF.length : Int)) - i).toNat) (fun i => 0 ≤ i ∧ i ≤ (aF.length : Int)) ?_ ?_ ?_
     ·rintro i hI
      try simp only [] at hI ⊢
      have : big = 2 ^ 64 := rfl
      omega
     ·((try simp only []); omega)
     ·rintro i hI L hL
      try simp only [] at hI
      obtain ⟨i0,i1⟩ := hI
      simp only [Yv.l0,atR,rdQ,Q.ask]
      refine Tm.ite (fun h13 => ?_) (fun h13 => ?_)
      ·try simp only [bz0,bz1,bz2,bz3,bz4,bz5,bz6,bz7,bz8,bz9,bza] at h13
       refine Tm.atRow (by first | assumption | omega) (by first | assumption | omega) (fun x14 hx15 hm16 => ?_)
       obtain ⟨c17,c18,c19,c20,c21,c22,c23,c24,c25,c26,c27,c28,c29,c30,c31,c32,c33,c34,c35,rfl,g36,g37,g38,g39,g40,g41,g42,g43,g44,g45,g46,g47,g48,g49,g50,g51,g52,_⟩ := (ga0_3.2 x14 hm16).open
       refine Tm.uncons ?_
       refine Tm.dInt ?_
       refine Tm.uncons ?_
       refine Tm.dBool ?_
       refine Tm.uncons ?_
       refine Tm.dInt ?_
       refine Tm.uncons ?_
       refine Tm.dStr ?_
       refine Tm.uncons ?_
       refine Tm.dInt ?_
       refine Tm.uncons ?_
       refine Tm.dInt ?_
       refine Tm.uncons ?_
       refine Tm.dInt ?_
       refine Tm.uncons ?_
       refine Tm.dBool ?_
       refine Tm.uncons ?_
       refine Tm.dSl ?_
       refine Tm.uncons ?_
       refine Tm.dInt ?_
       refine Tm.uncons ?_
       refine Tm.dStr ?_
       refine Tm.uncons ?_
       refine Tm.dInt ?_
       refine Tm.uncons ?_
       refine Tm.dSl ?_
       refine Tm.uncons ?_
       refine Tm.dSl ?_
       refine Tm.uncons ?_
       refine Tm.dInt ?_
       refine Tm.uncons ?_
       refine Tm.dStr ?_
       refine Tm.uncons ?_
       refine Tm.dInt ?_
       refine Tm.uncons ?_
       refine Tm.dSl ?_
       refine Tm.uncons ?_
       refine Tm.dSl ?_
       refine Tm.atEnd ?_
       refine Yas.tm (fun i hi => hi.1) (Yas.T (by first | assumption | omega) (by first | assumption | omega) (by first | assumption | omega) (by first | assumption | omega) (by first | assumption | omega) (by first | assumption | omega) (by first | assumption | omega) (by first | assumption | omega)) (fun y54 hy53 => ?_)
       refine Tm.ite (fun h55 => ?_) (fun h55 => ?_)
       ·try simp only [bz0,bz1,bz2,bz3,bz4,bz5,bz6,bz7,bz8,bz9,bza] at h55
        exact Tm.ret (by trivial)
       ·try simp only [bz0,bz1,bz2,bz3,bz4,bz5,bz6,bz7,bz8,bz9,bza] at h55
        refine Tm.ite (fun h56 => ?_) (fun h56 => ?_)
        ·try simp only [bz0,bz1,bz2,bz3,bz4,bz5,bz6,bz7,bz8,bz9,bza] at h56
         exact Tm.ret (by trivial)
        ·try simp only [bz0,bz1,bz2,bz3,bz4,bz5,bz6,bz7,bz8,bz9,bza] at h56
         refine Tm.ite (fun h57 => ?_) (fun h57 => ?_)
         ·try simp only [bz0,bz1,bz2,bz3,bz4,bz5,bz6,bz7,bz8,bz9,bza] at h57
          try rw [Z9 (x := i - 1) (by omega) (by omega)]
          refine Tm.atRow (by first | assumption | omega) (by first | assumption | omega) (fun x58 hx59 hm60 => ?_)
          obtain ⟨c61,c62,c63,c64,c65,c66,c67,c68,c69,c70,c71,c72,c73,c74,c75,c76,c77,c78,c79,rfl,g80,g81,g82,g83,g84,g85,g86,g87,g88,g89,g90,g91,g92,g93,g94,g95,g96,_⟩ := (ga0_3.2 x58 hm60).open
          refine Tm.uncons ?_
          refine Tm.dInt ?_
          refine Tm.uncons ?_
          refine Tm.dBool ?_
          refine Tm.uncons ?_
          refine Tm.dInt ?_
          refine Tm.uncons ?_
          refine Tm.dStr ?_
          refine Tm.uncons ?_
          refine Tm.dInt ?_
          refine Tm.uncons ?_
          refine Tm.dInt ?_
          refine Tm.uncons ?_
          refine Tm.dInt ?_
          refine Tm.uncons ?_
          refine Tm.dBool ?_
          refine Tm.uncons ?_
          refine Tm.dSl ?_
          refine Tm.uncons ?_
          refine Tm.dInt ?_
          refine Tm.uncons ?_
          refine Tm.dStr ?_
          refine Tm.uncons ?_
          refine Tm.dInt ?_
          refine Tm.uncons ?_
          refine Tm.dSl ?_
          refine Tm.uncons ?_
          refine Tm.dSl ?_
          refine Tm.uncons ?_
          refine Tm.dInt ?_
          refine Tm.uncons ?_
          refine Tm.dStr ?_
          refine Tm.uncons ?_
          refine Tm.dInt ?_
          refine Tm.uncons ?_
          refine Tm.dSl ?_
          refine Tm.uncons ?_
          refine Tm.dSl ?_
          refine Tm.atEnd ?_
          refine Tm.ite (fun h97 => ?_) (fun h97 => ?_)
          ·try simp only [bz0,bz1,bz2,bz3,bz4,bz5,bz6,bz7,bz8,bz9,bza] at h97
           exact Tm.ret (by trivial)
          ·try simp only [bz0,bz1,bz2,bz3,bz4,bz5,bz6,bz7,bz8,bz9,bza] at h97
           try rw [Z9 (x := i + 1) (by omega) (by omega)]
           exact hL _ (by (try simp only []); omega) (by (try simp only []); omega)
         ·try simp only [bz0,bz1,bz2,bz3,bz4,bz5,bz6,bz7,bz8,bz9,bza] at h57
          try rw [Z9 (x := i + 1) (by omega) (by omega)]
          exact hL _ (by (try simp only []); omega) (by (try simp only []); omega)
      ·try simp only [bz0,bz1,bz2,bz3,bz4,bz5,bz6,bz7,bz8,bz9,bza] at h13
       exact Tm.ret (by trivial)
noncomputable def Yv.v (aB : LD) (aA aH : Int) (aF : LD) : Bool := (Yv.t (lv 1) aB aA aH aF).getD default
theorem Yv.tv {aB : LD} {aA aH : Int} {aF : LD} (ga0_0 : ZB Ya lim aB) (ga0_3 : ZB Yb lim aF) {k : Nat} (hk : (Zai 1) k) : Yv.t k aB aA aH aF = some (Yv.v aB aA aH aF) := (Yv.T ga0_0 ga0_3).val hk
theorem Yv.fv {aB : LD} {aA aH : Int} {aF : LD} (ga0_0 : ZB Ya lim aB) (ga0_3 : ZB Yb lim aF) {k : Nat} (hk : (Zai 1) k) {β : Type} (K : Bool → Option β) : Yv.f k aB aA aH aF K = K (Yv.v aB aA aH aF) := Yv.f_of (Yv.tv ga0_0 ga0_3 hk) K
theorem YA.f_of {β : Type} {k aB aA aH aF aI z0 z1 z2 z3 z4} (h : YA.t k aB aA aH aF aI = some (z0,z1,z2,z3,z4)) (K : Int → BA → Int → LC → LC → Option β) : YA.f k aB aA aH aF aI K = K z0 z1 z2 z3 z4 := by unfold YA.f YA.w; rw [h]; rfl
theorem YaB.f_of {β : Type} {k : Nat} {aB : Int} {aA : BA} {aH aF aI : Int} {bD : Bool} {aV : LD} {bA : Int} {aP : BA} {bB : Int} {aQ aW : LD} {aY : Int} {aR : BA} {bC : Int} {aT aX : LD} {z0 : Int} {z1 : BA} {z2 z3 z4 : Int} {z5 : Bool} {z6 : LC} {z7 : Int} {z8 : BA} {z9 : Int} {z10 z11 : LC} {z12 : Int} {z13 : BA} {z14 : Int} {z15 z16 : LC} (h : YaB.t k aB aA aH aF aI bD aV bA aP bB aQ aW aY aR bC aT aX = some (z0,z1,z2,z3,z4,z5,z6,z7,z8,z9,z10,z11,z12,z13,z14,z15,z16)) (K : Int → BA → Int → Int → Int → Bool → LC → Int → BA → Int → LC → LC → Int → BA → Int → LC → LC → Option β) : YaB.f k aB aA aH aF aI bD aV bA aP bB aQ aW aY aR bC aT aX K = K z0 z1 z2 z3 z4 z5 z6 z7 z8 z9 z10 z11 z12 z13 z14 z15 z16 := by
 unfold YaB.f
 rw [h]
theorem YN.f_of {β : Type} {k a0 z0} (h : YN.t k a0 = some z0) (K : LC → Option β) : YN.f k a0 K = K z0 := by unfold YN.f; rw [h]; rfl
theorem Yag.f_of {β : Type} {k aB aA aH aF a1 z0 z1} (h : Yag.t k aB aA aH aF a1 = some (z0,z1)) (K : LC → Bool → Option β) : Yag.f k aB aA aH aF a1 K = K z0 z1 := by unfold Yag.f; rw [h]; rfl
theorem YE.f_of {β : Type} {k a0 z0} (h : YE.t k a0 = some z0) (K : LC → Option β) : YE.f k a0 K = K z0 := by unfold YE.f; rw [h]; rfl
theorem Yah.f_of {β : Type} {k aB aA z0 z1} (h : Yah.t k aB aA = some (z0,z1)) (K : Int → LC → Option β) : Yah.f k aB aA K = K z0 z1 := by unfold Yah.f; rw [h]; rfl
theorem Yx.f_of {β : Type} {k aB aA z0} (h : Yx.t k aB aA = some z0) (K : Bool → Option β) : Yx.f k aB aA K = K z0 := by unfold Yx.f; rw [h]; rfl
theorem Yx.T {aB : Int} {aA : LD} (ga0_1 : ZB Ya lim aA) : Tm (Zai 1) (fun k => Yx.t k aB aA) (fun _ => True) := by
 unfold Yx.t Yx.g
 have hm := maxLen_eq
 have hlim : lim = 1048576 := rfl
 have la0_1 := ga0_1.1
 refine YJ.tm (fun i hi => up0 hi) (YJ.T) (fun y2 hy1 => ?_)
 refine Tm.ite (fun h3 => ?_) (fun h3 => ?_)
 ·try simp only [bz0,bz1,bz2,bz3,bz4,bz5,bz6,bz7,bz8,bz9,bza] at h3
  have z4 := hy1 h3
  refine Ym.tm (fun i hi => hi) (Ym.T (by first | assumption | omega)) (fun y6 hy5 => ?_)
  exact Tm.ret (by trivial)
 ·try simp only [bz0,bz1,bz2,bz3,bz4,bz5,bz6,bz7,bz8,bz9,bza] at h3
  exact Tm.ret (by trivial)
noncomputable def Yx.v (aB : Int) (aA : LD) : Bool := (Yx.t (lv 1) aB aA).getD default
theorem Yx.tv {aB : Int} {aA : LD} (ga0_1 : ZB Ya lim aA) {k : Nat} (hk : (Zai 1) k) : Yx.t k aB aA = some (Yx.v aB aA) := (Yx.T ga0_1).val hk
theorem Yx.fv {aB : Int} {aA : LD} (ga0_1 : ZB Ya lim aA) {k : Nat} (hk : (Zai 1) k) {β : Type} (K : Bool → Option β) : Yx.f k aB aA K = K (Yx.v aB aA) := Yx.f_of (Yx.tv ga0_1 hk) K
theorem Yaa.f_of {β : Type} {k a0 a1 a2 z0} (h : Yaa.t k a0 a1 a2 = some z0) (K : Int → Option β) : Yaa.f k a0 a1 a2 K = K z0 := by unfold Yaa.f; rw [h]; rfl
theorem Y3.f_of {β : Type} {k a0 aM aN aU aO bF bH bI bJ bK bL bM bN bO bP bQ bR bT z0} (h : Y3.t k a0 aM aN aU aO bF bH bI bJ bK bL bM bN bO bP bQ bR bT = some z0) (K : LC → Option β) : Y3.f k a0 aM aN aU aO bF bH bI bJ bK bL bM bN bO bP bQ bR bT K = K z0 := by unfold Y3.f; rw [h]; rfl
theorem Y5.f_of {β : Type} {k aB aA a1 z0 z1 z2} (h : Y5.t k aB aA a1 = some (z0,z1,z2)) (K : Int → LD → Bool → Option β) : Y5.f k aB aA a1 K = K z0 z1 z2 := by unfold Y5.f; rw [h]; rfl
theorem YaR.f_of {β : Type} {k aB aA aH aF z0 z1} (h : YaR.t k aB aA aH aF = some (z0,z1)) (K : Int → LC → Option β) : YaR.f k aB aA aH aF K = K z0 z1 := by unfold YaR.f; rw [h]; rfl
theorem YaC.tm {ι α : Type} {ok : ι → Prop} {ψ : α → Prop} {p : ι → Nat} {B : Nat} (hp : ∀ i,ok i → B ≤ p i) {aB aA aM aN aU aO φ} (h : Tm (fun k => B ≤ k) (fun k => YaC.t k aB aA aM aN aU aO) φ) {G : ι → Int → LD → Bool → Option α} (hG : ∀ z0 z1 z2,φ (z0,z1,z2) → Tm ok (fun i => G i z0 z1 z2) ψ) : Tm ok (fun i => YaC.f (p i) aB aA aM aN aU aO (G i)) ψ := bd3_tm (t := fun k => YaC.t k aB aA aM aN aU aO) hp h hG
theorem Y1.f_of {β : Type} {k a0 a1 a2 z0} (h : Y1.t k a0 a1 a2 = some z0) (K : Bool → Option β) : Y1.f k a0 a1 a2 K = K z0 := by unfold Y1.f; rw [h]; rfl
theorem YaO.f_of {β : Type} {k a0 z0} (h : YaO.t k a0 = some z0) (K : Bool → Option β) : YaO.f k a0 K = K z0 := by unfold YaO.f; rw [h]; rfl
theorem within_f {β : Type} {k : Nat} {a b c : Int} (K : Bool → Option β) : Y1.f k a b c K = K (decide (b ≤ a) && decide (a ≤ c)) := by
 refine Y1.f_of ?_ K
 unfold Y1.t Y1.g
 by_cases h : b ≤ a <;> simp [h]
theorem Y6.same {k : Nat} {a : BA} : Y6.t k a = Yo.t k a := by
 unfold Y6.t Yo.t Y6.g Yo.g
 congr 1
 funext L v
 simp only [Y6.l0,Yo.l0,l1In_f,within_f]
 refine bif_congr (fun _ => ?_) (fun _ => rfl)
 unfold atStr
 split
 ·split
  ·rename_i b _
   have hb : b.toNat < 256 := b.toNat_lt
   simp only []
   rw [Z9 (x := (b.toNat : Int)) (by omega) (by omega)]
   generalize (b.toNat : Int) = x
   by_cases h1 : x < 97 <;> by_cases h2 : x < 48 <;> by_cases h3 : x > 57 <;> by_cases h4 : x > 122 <;> simp [h1,h2,h3,h4] <;> (try omega) <;> grind
  ·rfl
 ·rfl
theorem impl_NameOk_f {β : Type} {k : Nat} {a : BA} (K : Bool → Option β) : Y6.f k a K = Yo.f k a K := by
 unfold Y6.f Yo.f
 rw [Y6.same]
theorem Ya5 {β : Type} {k : Nat} {a b c : Int} (K : Bool → Option β) : Y1.f k a b c K = K (inB a b c) := within_f K
theorem YV.f_of {β : Type} {k a0 a1 z0} (h : YV.t k a0 a1 = some z0) (K : Bool → Option β) : YV.f k a0 a1 K = K z0 := by unfold YV.f; rw [h]; rfl
set_option maxRecDepth 100000 in
theorem namesOk_fv {a : LD} {n : Int} (g : ZB RS lim a) {k : Nat} (hk : Fuel k) {β : Type} (K : Bool → Option β) : YV.f k a n K = K (namesB a && decide ((a.length : Int) ≤ n)) := YV.f_of (by
 have hl := g.1
 have hlim : lim = 1048576 := rfl
 have hb : big = 2 ^ 64 := rfl
 unfold YV.t YV.g
 rw [iter_all0 (n := a.length) (fun i => Yo.v (gS a (i : Int) 0) && (!decide ((i : Int) > 0) || strLt (gS a ((i : Int) - 1) 0) (gS a (i : Int) 0))) (r1 := some false) (r2 := some (decide ((a.length : Int) ≤ n))) (by unfold Fuel at hk; omega)]
 ·unfold namesB
  generalize List.all _ _ = x
  cases x <;> rfl
 ·intro L i hi
  have k0 := (RS.get g (v := (i : Int)) (by omega) (by omega)).2.1
  simp (disch := omega) only [YV.l0,atR,rdQ,Q.ask,ZY (show (i : Int) < a.length by omega),cond_true,RS.row g,Z4,ZaQ,Zan,impl_NameOk_f,Yo.fv k0 hk,Z9]
  by_cases h0 : (i : Int) > 0
  ·simp (disch := omega) only [ZY h0,cond_true,RS.row g,Z4,ZaQ,Zan]
   cases Yo.v (gS a (i : Int) 0) <;> cases strLt (gS a ((i : Int) - 1) 0) (gS a (i : Int) 0) <;> rfl
  ·simp only [ZZ h0,cond_false]
   cases Yo.v (gS a (i : Int) 0) <;> rfl
 ·intro L
  simp [YV.l0,atR,rdQ,Q.ask]) K
theorem YT.f_of {β : Type} {k aB aA aH aF aI z0} (h : YT.t k aB aA aH aF aI = some z0) (K : Bool → Option β) : YT.f k aB aA aH aF aI K = K z0 := by unfold YT.f; rw [h]; rfl
theorem Yr.f_of {β : Type} {k aB aA aH aF aI a1 z0} (h : Yr.t k aB aA aH aF aI a1 = some z0) (K : Int → Option β) : Yr.f k aB aA aH aF aI a1 K = K z0 := by unfold Yr.f Yr.w; rw [h]; rfl
theorem Yat.f_of {β : Type} {k aB aA aH aF aI z0} (h : Yat.t k aB aA aH aF aI = some z0) (K : Bool → Option β) : Yat.f k aB aA aH aF aI K = K z0 := by unfold Yat.f; rw [h]; rfl
theorem shapeOk_fv {c0 : Int} {c1 : BA} {c2 : Int} {c3 c4 : LD} (g1 : c1.size ≤ lim) (g3 : ZB RS lim c3) {k : Nat} (hk : Fuel k) {β : Type} (K : Bool → Option β) : YT.f k c0 c1 c2 c3 c4 K = K (Ya2 c0 c1 c2 c3 c4 && (!(c0 == 5) || decide ((c3.length : Int) ≤ 300))) := YT.f_of (by
 have hlim : lim = 1048576 := rfl
 have hb : big = 2 ^ 64 := rfl
 unfold YT.t YT.g YT.m
 have text : ZA (YT.l0 k ((c2 : Int) == 0) (((c3.length : Int) : Int) == 0) (((c4.length : Int) : Int) == 0) (c1.size : Int) c0 c1 c2 c3 c4 fun z0 => some z0) k 0 = some (textB c1 && (decide ((c1.size : Int) ≤ 100) && (c2 == 0 && ((c3.length : Int) == 0 && (c4.length : Int) == 0)))) := by
  rw [iter_all0 (n := c1.size) (fun i => inB (bS c1 (i : Int)) 32 126) (r1 := some false) (r2 := some (decide ((c1.size : Int) ≤ 100) && (c2 == 0 && ((c3.length : Int) == 0 && (c4.length : Int) == 0)))) (by unfold Fuel at hk; omega)]
  ·unfold textB
   generalize List.all _ _ = x
   cases x <;> rfl
  ·intro L i hi
   simp (disch := omega) only [YT.l0,ZY (show (i : Int) < c1.size by omega),cond_true,atStr_at,wrap_b,Ya5,Z9]
   generalize inB _ _ _ = x
   cases x <;> rfl
  ·intro L
   simp only [YT.l0,ZZ (show ¬ (c1.size : Int) < c1.size by omega),cond_false]
   cases decide ((c1.size : Int) ≤ 100) <;> cases c2 == 0 <;> cases ((c3.length : Int) == 0) <;> rfl
 simp only [text,Ya5,namesOk_fv g3 hk]
 unfold Ya2
 generalize textB c1 = b1
 generalize decide ((c1.size : Int) ≤ 100) = b0
 generalize hb2 : Zae c1 (⟨#[]⟩ : BA) = b2
 have hb3 : Zae c1 bareText = b2 := hb2
 rw [hb3]
 generalize namesB c3 = b3
 generalize inB c2 0 1 = b4
 generalize (c2 == 0) = b5
 generalize ((c4.length : Int) == 0) = b6
 generalize ((c3.length : Int) == (c4.length : Int)) = b7
 generalize ((c3.length : Int) == 0) = b8
 generalize decide ((c3.length : Int) ≤ 300) = b9
 rcases ZaM c0 with rfl | rfl | rfl | rfl | rfl | ⟨e1,e2,e3,e4,e5⟩
 ·cases b0 <;> cases b1 <;> cases b5 <;> cases b6 <;> cases b8 <;> rfl
 ·cases b2 <;> cases b6 <;> cases b8 <;> rfl
 ·cases b2 <;> cases b4 <;> cases b6 <;> cases b8 <;> rfl
 ·cases b2 <;> cases b5 <;> cases b8 <;> rfl
 ·cases b2 <;> cases b3 <;> cases b5 <;> cases b7 <;> cases b9 <;> rfl
 ·simp only [e1,e2,e3,e4,e5,cond_false,Bool.false_and]) K
set_option maxRecDepth 100000 in
theorem measured_t (d : Nat) : ∀ {c0 : Int} {c1 : BA} {c2 : Int} {c3 c4 : LD},c1.size ≤ lim → ZB RS lim c3 → ZB Yq lim c4 → d ≤ 6 → ∀ {k : Nat},big + d + 1 ≤ k → Yr.t k c0 c1 c2 c3 c4 (d : Int) = some (bif YaU d [.int .i64 c0,.str c1,.int .i64 c2,.sl c3,.sl c4] == 0 then 301 else YaU d [.int .i64 c0,.str c1,.int .i64 c2,.sl c3,.sl c4]) := by
 have hlim : lim = 1048576 := rfl
 have hb : big = 2 ^ 64 := rfl
 induction d with
 | zero =>
  intro c0 c1 c2 c3 c4 g1 g3 g4 hd k hk
  cases k with
  | zero => omega
  | succ k => rfl
 | succ d ih =>
  intro c0 c1 c2 c3 c4 g1 g3 g4 hd k hk
  cases k with
  | zero => omega
  | succ k =>
  have hl := g4.1
  have hk0 : Fuel k := by unfold Fuel; omega
  rw [Yr.t_succ]
  unfold Yr.g Yr.body
  rw [show (((d + 1 : Nat) : Int) == 0) = false by rw [beq_eq_false_iff_ne]; omega,cond_false,shapeOk_fv g1 g3 hk0]
  have key := iter_val (b := Yr.l0 k (Yr.f k) ((d + 1 : Nat) : Int) c4 (c4.length : Int) fun z0 => some z0) (fun v => ((c4.length : Int) - v.2).toNat) (fun v => 0 ≤ v.2 ∧ v.2 ≤ c4.length ∧ 1 ≤ v.1 ∧ v.1 ≤ 300)
   (fun v => bif sumL (YaU d) (c4.drop v.2.toNat) v.1 == 0 then some 301 else some (sumL (YaU d) (c4.drop v.2.toNat) v.1)) ?_ k (1,0) (by simp only []; omega) (by simp only []; omega)
  ·rw [key]
   show (bif !(Ya2 c0 c1 c2 c3 c4 && (!(c0 == 5) || decide ((c3.length : Int) ≤ 300))) then some 301 else bif sumL (YaU d) (List.drop 0 c4) 1 == 0 then some 301 else some (sumL (YaU d) (List.drop 0 c4) 1)) = some (bif YaU (d + 1) [.int .i64 c0,.str c1,.int .i64 c2,.sl c3,.sl c4] == 0 then 301 else YaU (d + 1) [.int .i64 c0,.str c1,.int .i64 c2,.sl c3,.sl c4])
   have el : YaU (d + 1) [.int .i64 c0,.str c1,.int .i64 c2,.sl c3,.sl c4] = bif sumL (YaU d) c4 1 == 0 then 0 else bif Ya2 c0 c1 c2 c3 c4 then sumL (YaU d) c4 1 else 0 := rfl
   rw [List.drop_zero,el]
   have hs := sumL_range (f := YaU d) (fun r => (Yba d r).1) (rs := c4) (n := 1) (by omega) (by omega)
   by_cases hz : sumL (YaU d) c4 1 = 0
   ·rw [hz]
    cases (Ya2 c0 c1 c2 c3 c4 && (!(c0 == 5) || decide ((c3.length : Int) ≤ 300))) <;> rfl
   ·have hz' : (sumL (YaU d) c4 1 == 0) = false := by rw [beq_eq_false_iff_ne]; exact hz
    rw [hz',cond_false,cond_false]
    by_cases hsh : Ya2 c0 c1 c2 c3 c4 = true
    ·have h5 : (!(c0 == 5) || decide ((c3.length : Int) ≤ 300)) = true := by
      by_cases h5 : c0 = 5
      ·subst h5
       have : (c3.length : Int) = c4.length := by
        unfold Ya2 at hsh
        simp at hsh
        omega
       have := hs.2.2 hz
       simp
       omega
      ·simp [h5]
     rw [hsh,h5]
     simp only [Bool.and_self,Bool.not_true,cond_false,cond_true,hz']
    ·rw [Bool.not_eq_true] at hsh
     rw [hsh]
     rfl
  ·rintro ⟨n,i⟩ ⟨i0,i1,n0,n1⟩ L hL
   simp only [] at i0 i1 n0 n1 hL ⊢
   by_cases hi : i < c4.length
   ·have hg := Yq.get g4 i0 hi
    have hr := Yba d (gR c4 i)
    have ih' := ih (c0 := gI c4 i 0) (c2 := gI c4 i 2) hg.2.2.1 hg.2.2.2.2.1 hg.2.2.2.2.2.1 (by omega) (k := k) (by omega)
    rw [← hg.1] at ih'
    simp (disch := omega) only [Yr.l0,atR,rdQ,Q.ask,ZY hi,cond_true,Yq.row g4,Z4,ZaQ,Z5,Zbl,Zan,Z9,show ((d + 1 : Nat) : Int) - 1 = (d : Int) by omega]
    rw [Yr.f_of ih',drop_gR i0 hi]
    simp only [sumL]
    by_cases hz : YaU d (gR c4 i) = 0
    ·rw [hz,show ((0 : Int) == 0) = true from rfl,cond_true,Z9 (by omega) (by omega),ZY (by omega)]
     simp
    ·rw [show (YaU d (gR c4 i) == 0) = false by rw [beq_eq_false_iff_ne]; exact hz,cond_false,Z9 (by omega) (by omega)]
     by_cases hn : n + YaU d (gR c4 i) > 300
     ·rw [ZY hn,if_pos (.inr hn)]
      rfl
     ·rw [ZZ hn,if_neg (by omega),cond_false,hL _ ⟨by simp only []; omega,by simp only []; omega,by simp only []; omega,by simp only []; omega⟩ (by simp only []; omega)]
   ·rw [drop_end (by omega)]
    simp only [Yr.l0,atR,rdQ,Q.ask,ZZ hi,cond_false,sumL]
    rw [show (n == 0) = false by rw [beq_eq_false_iff_ne]; omega,cond_false]
noncomputable def valB (c0 : Int) (c1 : BA) (c2 : Int) (c3 c4 : LD) : Bool := decide (YaU 6 [.int .i64 c0,.str c1,.int .i64 c2,.sl c3,.sl c4] > 0)
theorem spec_ValueOk_fv {c0 : Int} {c1 : BA} {c2 : Int} {c3 c4 : LD} (g1 : c1.size ≤ lim) (g3 : ZB RS lim c3) (g4 : ZB Yq lim c4) {k : Nat} (hk : Zai 1 k) {β : Type} (K : Bool → Option β) : YF.f k c0 c1 c2 c3 c4 K = K (valB c0 c1 c2 c3 c4) := YF.f_of (by
 unfold YF.t YF.g
 rw [look_fv (by omega) (by omega) g1 g3 g4 hk]
 rfl) K
theorem impl_ValueOk_fv {c0 : Int} {c1 : BA} {c2 : Int} {c3 c4 : LD} (g1 : c1.size ≤ lim) (g3 : ZB RS lim c3) (g4 : ZB Yq lim c4) {k : Nat} (hk : Zai 1 k) {β : Type} (K : Bool → Option β) : Yat.f k c0 c1 c2 c3 c4 K = K (valB c0 c1 c2 c3 c4) := Yat.f_of (by
 have hb : big = 2 ^ 64 := rfl
 have h1 : lv 1 = 2 ^ 65 := rfl
 unfold Yat.t Yat.g
 rw [Yr.f_of (show Yr.t k c0 c1 c2 c3 c4 6 = _ from measured_t 6 g1 g3 g4 (by omega) (by unfold Zai at hk; omega))]
 unfold valB
 have hr := Yba 6 [.int .i64 c0,.str c1,.int .i64 c2,.sl c3,.sl c4]
 generalize YaU 6 [.int .i64 c0,.str c1,.int .i64 c2,.sl c3,.sl c4] = n at *
 by_cases hz : n = 0
 ·subst hz; rfl
 ·rw [show (n == 0) = false by rw [beq_eq_false_iff_ne]; exact hz,cond_false,ZY (by omega),ZY (by omega)]) K
theorem YaL.f_of {β : Type} {k aB aA aH aF aI bD aV bA aP bB aQ aW aY aR bC aT aX a1 a2 a3 z0} (h : YaL.t k aB aA aH aF aI bD aV bA aP bB aQ aW aY aR bC aT aX a1 a2 a3 = some z0) (K : Bool → Option β) : YaL.f k aB aA aH aF aI bD aV bA aP bB aQ aW aY aR bC aT aX a1 a2 a3 K = K z0 := by unfold YaL.f; rw [h]; rfl
theorem Yaq.f_of {β : Type} {k a0 z0} (h : Yaq.t k a0 = some z0) (K : Bool → Option β) : Yaq.f k a0 K = K z0 := by unfold Yaq.f; rw [h]; rfl
theorem Yaj.f_of {β : Type} {k a0 a1 z0} (h : Yaj.t k a0 a1 = some z0) (K : Int → Option β) : Yaj.f k a0 a1 K = K z0 := by unfold Yaj.f; rw [h]; rfl
theorem Yai.f_of {β : Type} {k a0 a1 z0} (h : Yai.t k a0 a1 = some z0) (K : Int → Option β) : Yai.f k a0 a1 K = K z0 := by unfold Yai.f; rw [h]; rfl
theorem Yan.f_of {β : Type} {k aB aA aH aF aI bD aV bA aP bB aQ aW aY aR bC aT aX aM aN aU aO bF bH bI bJ bK bL bM bN bO bP bQ bR bT z0} (h : Yan.t k aB aA aH aF aI bD aV bA aP bB aQ aW aY aR bC aT aX aM aN aU aO bF bH bI bJ bK bL bM bN bO bP bQ bR bT = some z0) (K : Int → Option β) : Yan.f k aB aA aH aF aI bD aV bA aP bB aQ aW aY aR bC aT aX aM aN aU aO bF bH bI bJ bK bL bM bN bO bP bQ bR bT K = K z0 := by unfold Yan.f; rw [h]; rfl
theorem YaE.f_of {β : Type} {k aB aA aH aF aI bD aV bA aP bB aQ aW aY aR bC aT aX f0_0 f0_1 f0_2 f0_3 f0_4 f0_5 f0_6 f0_7 f0_8 f0_9 f0_10 f0_11 f0_12 f0_13 f0_14 f0_15 f0_16 z0} (h : YaE.t k aB aA aH aF aI bD aV bA aP bB aQ aW aY aR bC aT aX f0_0 f0_1 f0_2 f0_3 f0_4 f0_5 f0_6 f0_7 f0_8 f0_9 f0_10 f0_11 f0_12 f0_13 f0_14 f0_15 f0_16 = some z0) (K : Bool → Option β) : YaE.f k aB aA aH aF aI bD aV bA aP bB aQ aW aY aR bC aT aX f0_0 f0_1 f0_2 f0_3 f0_4 f0_5 f0_6 f0_7 f0_8 f0_9 f0_10 f0_11 f0_12 f0_13 f0_14 f0_15 f0_16 K = K z0 := by unfold YaE.f; rw [h]; rfl
theorem Yd.f_of {β : Type} {k a0 a1_0_0 a1_0_1 a1_0_2 a1_0_3 a1_0_4 a1_0_5 a1_0_6 a1_0_7 a1_0_8 a1_0_9 a1_0_10 a1_0_11 a1_0_12 a1_0_13 a1_0_14 a1_0_15 a1_0_16 z0} (h : Yd.t k a0 a1_0_0 a1_0_1 a1_0_2 a1_0_3 a1_0_4 a1_0_5 a1_0_6 a1_0_7 a1_0_8 a1_0_9 a1_0_10 a1_0_11 a1_0_12 a1_0_13 a1_0_14 a1_0_15 a1_0_16 = some z0) (K : Int → Option β) : Yd.f k a0 a1_0_0 a1_0_1 a1_0_2 a1_0_3 a1_0_4 a1_0_5 a1_0_6 a1_0_7 a1_0_8 a1_0_9 a1_0_10 a1_0_11 a1_0_12 a1_0_13 a1_0_14 a1_0_15 a1_0_16 K = K z0 := by unfold Yd.f; rw [h]; rfl
theorem Yk.f_of {β : Type} {k a0 a1_0_0 a1_0_1 a1_0_2 a1_0_3 a1_0_4 a1_0_5 a1_0_6 a1_0_7 a1_0_8 a1_0_9 a1_0_10 a1_0_11 a1_0_12 a1_0_13 a1_0_14 a1_0_15 a1_0_16 z0} (h : Yk.t k a0 a1_0_0 a1_0_1 a1_0_2 a1_0_3 a1_0_4 a1_0_5 a1_0_6 a1_0_7 a1_0_8 a1_0_9 a1_0_10 a1_0_11 a1_0_12 a1_0_13 a1_0_14 a1_0_15 a1_0_16 = some z0) (K : Bool → Option β) : Yk.f k a0 a1_0_0 a1_0_1 a1_0_2 a1_0_3 a1_0_4 a1_0_5 a1_0_6 a1_0_7 a1_0_8 a1_0_9 a1_0_10 a1_0_11 a1_0_12 a1_0_13 a1_0_14 a1_0_15 a1_0_16 K = K z0 := by unfold Yk.f; rw [h]; rfl
theorem Y2.f_of {β : Type} {k a0 a1 a2 z0} (h : Y2.t k a0 a1 a2 = some z0) (K : Bool → Option β) : Y2.f k a0 a1 a2 K = K z0 := by unfold Y2.f; rw [h]; rfl
theorem less_cmp : ∀ (a b : List UInt8),decide (Go.Lib.compareBytes a b ≥ 0) = !Op.bytesLess a b
 | [],[] => rfl
 | [],_ :: _ => rfl
 | _ :: _,[] => rfl
 | x :: a,y :: b => by
  have ih := less_cmp a b
  unfold Go.Lib.compareBytes Op.bytesLess
  by_cases h1 : x < y
  ·simp [h1]
  ·by_cases h2 : y < x
   ·have h3 : x ≠ y := fun e => by subst e; exact h1 h2
    simp [h1,h2,h3]
   ·have h3 : x = y := UInt8.le_antisymm (UInt8.not_lt.1 h2) (UInt8.not_lt.1 h1)
    subst h3
    simp only [h1,if_false,ih]
    simp
theorem cmpS_less (a b : BA) : decide (cmpS a b ≥ 0) = !strLt a b := by
 unfold cmpS strLt
 rw [less_cmp,Go.Lib.toList_data,Go.Lib.toList_data]
set_option maxRecDepth 100000 in
theorem waits_v {a : LD} (g : ZB RS lim a) {k : Nat} (hk : Fuel k) : Yw.v a = (namesB a && decide ((a.length : Int) ≤ 4)) := by
 have hv := Yw.tv g hk
 suffices h : Yw.t k a = some (namesB a && decide ((a.length : Int) ≤ 4)) by
  rw [hv] at h
  injection h
 have hl := g.1
 have hlim : lim = 1048576 := rfl
 have hb : big = 2 ^ 64 := rfl
 unfold Yw.t Yw.g
 rw [iter_all0 (n := a.length) (fun i => Yo.v (gS a (i : Int) 0) && (!decide ((i : Int) > 0) || strLt (gS a ((i : Int) - 1) 0) (gS a (i : Int) 0))) (r1 := some false) (r2 := some (decide ((a.length : Int) ≤ 4))) (by unfold Fuel at hk; omega)]
 ·unfold namesB
  generalize List.all _ _ = x
  cases x <;> rfl
 ·intro L i hi
  have k0 := (RS.get g (v := (i : Int)) (by omega) (by omega)).2.1
  simp (disch := omega) only [Yw.l0,atR,rdQ,Q.ask,ZY (show (i : Int) < a.length by omega),cond_true,RS.row g,Z4,ZaQ,Zan,Yo.fv k0 hk,Z9]
  by_cases h0 : (i : Int) > 0
  ·simp (disch := omega) only [ZY h0,cond_true,RS.row g,Z4,ZaQ,Zan]
   cases Yo.v (gS a (i : Int) 0) <;> cases strLt (gS a ((i : Int) - 1) 0) (gS a (i : Int) 0) <;> rfl
  ·simp only [ZZ h0,cond_false]
   cases Yo.v (gS a (i : Int) 0) <;> rfl
 ·intro L
  simp [Yw.l0,atR,rdQ,Q.ask]
theorem impl_ValueOk_v {c0 : Int} {c1 : BA} {c2 : Int} {c3 c4 : LD} (g1 : c1.size ≤ lim) (g3 : ZB RS lim c3) (g4 : ZB Yq lim c4) {k : Nat} (hk : Zai 1 k) {β : Type} (K : Bool → Option β) : Yat.f k c0 c1 c2 c3 c4 K = K (YF.v c0 c1 c2 c3 c4) := by
 have h : some (YF.v c0 c1 c2 c3 c4) = some (valB c0 c1 c2 c3 c4) := (YF.fv (aB := c0) (aH := c2) g1 g3 g4 hk some).symm.trans (spec_ValueOk_fv g1 g3 g4 hk some)
 injection h with h
 rw [impl_ValueOk_fv g1 g3 g4 hk,h]
theorem objOk_fv {x0 : Int} {x1 : BA} {x2 x3 x4 : Int} {x5 : Bool} {x6 : LD} {x7 : Int} {x8 : BA} {x9 : Int} {x10 x11 : LD} {x12 : Int} {x13 : BA} {x14 : Int} {x15 x16 : LD} {rev Z8 : Int} {gone : Bool} (g1 : x1.size ≤ lim) (g6 : ZB RS lim x6) (g8 : x8.size ≤ lim) (g10 : ZB RS lim x10) (g11 : ZB Yq lim x11) (g13 : x13.size ≤ lim) (g15 : ZB RS lim x15) (g16 : ZB Yq lim x16) {k : Nat} (hk : Zai 1 k) {β : Type} (K : Bool → Option β) :
  YaL.f k x0 x1 x2 x3 x4 x5 x6 x7 x8 x9 x10 x11 x12 x13 x14 x15 x16 Z8 rev gone K = K (objV x0 x1 x2 x3 x4 x5 x6 x7 x8 x9 x10 x11 x12 x13 x14 x15 x16 Z8 rev gone) := YaL.f_of (by
 have hk0 : Fuel k := up0 hk
 have hi : ∀ {n : Int} {β : Type} (K : Bool → Option β),YaO.f k n K = K (inB n 1 3) := fun K => YaO.f_of (by unfold YaO.t YaO.g; rw [Ya5]) K
 unfold YaL.t YaL.g objV
 simp only [hi,Ya5,impl_NameOk_f,Yo.fv g1 hk0,namesOk_fv g6 hk0,← waits_v g6 hk0,impl_ValueOk_v g8 g10 g11 hk,impl_ValueOk_v g13 g15 g16 hk]
 generalize inB x0 1 3 = b0
 generalize Yo.v x1 = b1
 generalize inB x2 1 Z8 = b2
 generalize inB x3 1 rev = b3
 generalize inB x4 1 x3 = b4
 generalize Yw.v x6 = b5
 generalize YF.v x7 x8 x9 x10 x11 = b6
 generalize YF.v x12 x13 x14 x15 x16 = b7
 generalize decide ((x6.length : Int) > 0) = b8
 cases b0
 ·rfl
 cases b1
 ·rfl
 cases b2
 ·rfl
 cases b3
 ·rfl
 cases b4
 ·rfl
 cases b5
 ·rfl
 cases b6 <;> cases b7 <;> cases gone <;> cases x5 <;> cases b8 <;> rfl) K
theorem cmpObjs_fv {x0 : Int} {x1 : BA} {x2 x3 x4 : Int} {x5 : Bool} {x6 : LD} {x7 : Int} {x8 : BA} {x9 : Int} {x10 x11 : LD} {x12 : Int} {x13 : BA} {x14 : Int} {x15 x16 : LD} {y0 : Int} {y1 : BA} {y2 y3 y4 : Int} {y5 : Bool} {y6 : LD} {y7 : Int} {y8 : BA} {y9 : Int} {y10 y11 : LD} {y12 : Int} {y13 : BA} {y14 : Int} {y15 y16 : LD} {k : Nat} :
  ∃ c : Int,decide (c ≥ 0) = !lessV x0 x1 y0 y1 ∧ ∀ {β : Type} (K : Int → Option β),Yan.f k x0 x1 x2 x3 x4 x5 x6 x7 x8 x9 x10 x11 x12 x13 x14 x15 x16 y0 y1 y2 y3 y4 y5 y6 y7 y8 y9 y10 y11 y12 y13 y14 y15 y16 K = K c := by
 have hn : ∀ {n : Int} {β : Type} (K : Bool → Option β),Yaq.f k n K = K false := fun {n β} K => Yaq.f_of (by unfold Yaq.t Yaq.g; simp) K
 have hc : ∀ {β : Type} (K : Int → Option β),Yaj.f k x0 y0 K = K (if x0 < y0 then -1 else if x0 > y0 then 1 else 0) := fun K => Yaj.f_of (by
  unfold Yaj.t Yaj.g
  simp only [hn,cond_false]
  by_cases h1 : x0 < y0
  ·simp [h1]
  ·by_cases h2 : x0 > y0 <;> simp [h1,h2]) K
 have hs : ∀ {β : Type} (K : Int → Option β),Yai.f k x1 y1 K = K (cmpS x1 y1) := fun K => Yai.f_of (by unfold Yai.t Yai.g; rfl) K
 refine ⟨if x0 < y0 then -1 else if x0 > y0 then 1 else cmpS x1 y1,?_,fun {β} K => Yan.f_of ?_ K⟩
 ·unfold lessV
  by_cases h1 : x0 < y0
  ·simp [h1]
  ·by_cases h2 : x0 > y0
   ·have h3 : ¬ x0 = y0 := by omega
    simp [h1,h2,h3]
   ·have h3 : x0 = y0 := by omega
    subst h3
    simp only [h1,gt_iff_lt,if_false,decide_false,Bool.false_or,beq_self_eq_true,Bool.true_and]
    exact cmpS_less x1 y1
 ·unfold Yan.t Yan.g
  simp only [hc,hs]
  by_cases h1 : x0 < y0
  ·simp [h1]
  ·by_cases h2 : x0 > y0 <;> simp [h1,h2]
set_option maxRecDepth 100000 in
theorem objsOk_fv {a : LD} {rev Z8 : Int} (g : ZB Ya lim a) {k : Nat} (hk : Zai 1 k) {β : Type} (K : Bool → Option β) : Y2.f k a Z8 rev K = K (objsB a Z8 rev) := Y2.f_of (by
 have hk0 : Fuel k := up0 hk
 have hl := g.1
 have hlim : lim = 1048576 := rfl
 have hb : big = 2 ^ 64 := rfl
 unfold Y2.t Y2.g
 rw [iter_all0 (n := a.length) (objsP a Z8 rev) (r1 := some false) (r2 := some (decide ((a.length : Int) ≤ 60))) (by unfold Fuel at hk0; omega)]
 ·unfold objsB
  cases (List.range a.length).all (objsP a Z8 rev) <;> rfl
 ·intro L i hi
  obtain ⟨-,-,k1,-,-,-,k6,-,k8,-,k10,k11,-,k13,-,k15,k16,-⟩ := Ya.get g (v := (i : Int)) (by omega) (by omega)
  have e3 : ∀ {F : Bool → Option Bool},YaL.f k (gI a i 0) (gS a i 1) (gI a i 2) (gI a i 3) (gI a i 4) (gB a i 5) (gL a i 6) (gI a i 7) (gS a i 8) (gI a i 9) (gL a i 10) (gL a i 11) (gI a i 12) (gS a i 13) (gI a i 14) (gL a i 15) (gL a i 16) Z8 rev false F = F (objR a i Z8 rev) := objOk_fv k1 k6 k8 k10 k11 k13 k15 k16 hk _
  have gt : ZB Ya lim (a.take i) := ⟨by rw [List.length_take]; omega,rows_take g.2⟩
  have hx : ∀ {y0 : Int} {y1 : BA} {y2 y3 y4 : Int} {y5 : Bool} {y6 : LD} {y7 : Int} {y8 : BA} {y9 : Int} {y10 y11 : LD} {y12 : Int} {y13 : BA} {y14 : Int} {y15 y16 : LD} {β : Type} (K : Bool → Option β),Yk.f k (a.take i) y0 y1 y2 y3 y4 y5 y6 y7 y8 y9 y10 y11 y12 y13 y14 y15 y16 K = K (!(List.range i).all fun j => !(gI a (j : Int) 2 == y2)) := by
   intro y0 y1 y2 y3 y4 y5 y6 y7 y8 y9 y10 y11 y12 y13 y14 y15 y16 β K
   refine Yk.f_of ?_ K
   have hli : (a.take i).length = i := by rw [List.length_take]; omega
   have hf : ∀ {β : Type} (K : Int → Option β),Yd.f k (a.take i) y0 y1 y2 y3 y4 y5 y6 y7 y8 y9 y10 y11 y12 y13 y14 y15 y16 K = K (ZbV (fun j => gI a (j : Int) 2 == y2) i) := fun K => Yd.f_of (by
    unfold Yd.t Yd.g
    refine iter_findI (n := i) _ some (by unfold Fuel at hk0; omega) (fun L j hj => ?_) (fun L => by simp [Yd.l0,atR,rdQ,Q.ask,hli])
    have hs : ∀ {z0 : Int} {z1 : BA} {z2 z3 z4 : Int} {z5 : Bool} {z6 : LD} {z7 : Int} {z8 : BA} {z9 : Int} {z10 z11 : LD} {z12 : Int} {z13 : BA} {z14 : Int} {z15 z16 : LD} {β : Type} (K : Bool → Option β),YaE.f k z0 z1 z2 z3 z4 z5 z6 z7 z8 z9 z10 z11 z12 z13 z14 z15 z16 y0 y1 y2 y3 y4 y5 y6 y7 y8 y9 y10 y11 y12 y13 y14 y15 y16 K = K (z2 == y2) := fun K => YaE.f_of (by unfold YaE.t YaE.g; rfl) K
    have hg : gI (a.take i) (j : Int) 2 = gI a (j : Int) 2 := by unfold gI; rw [gR_take (by omega) (by omega)]
    simp (disch := omega) only [Yd.l0,atR,rdQ,Q.ask,ZY (show (j : Int) < (a.take i).length by omega),cond_true,Ya.row gt,Z4,Z5,ZaQ,ZaV,Zbl,Zan,hs,hg,Z9]) K
   unfold Yk.t Yk.g
   rw [hf,findI_all]
  have hd : (a.drop (Int.toNat (0 : Int))).take (Int.toNat (i : Int) - Int.toNat (0 : Int)) = a.take i := by simp
  have hg : ∀ {F : Option Bool},Zd (0 ≤ (0 : Int) ∧ (0 : Int) ≤ (i : Int) ∧ (i : Int) ≤ (a.length : Int) ∧ Zbk 17 a) F = F := ZH ⟨by omega,by omega,by omega,fun r hr => (g.2 r hr).len⟩
  unfold objsP
  simp (disch := omega) only [Y2.l0,atR,rdQ,Q.ask,ZY (show (i : Int) < a.length by omega),cond_true,Ya.row g,Z4,Z5,ZaQ,ZaV,Zbl,Zan,e3,hg,hd,hx]
  cases objR a (i : Int) Z8 rev
  ·rfl
  by_cases h0 : (i : Int) > 0
  ·simp (disch := omega) only [ZY h0,cond_true,Z9,Ya.row g,Z4,Z5,ZaQ,ZaV,Zbl,Zan,Bool.not_true,cond_false]
   obtain ⟨c,hc,hf⟩ := cmpObjs_fv (k := k) (x0 := gI a ((i : Int) - 1) 0) (x1 := gS a ((i : Int) - 1) 1) (x2 := gI a ((i : Int) - 1) 2) (x3 := gI a ((i : Int) - 1) 3) (x4 := gI a ((i : Int) - 1) 4) (x5 := gB a ((i : Int) - 1) 5) (x6 := gL a ((i : Int) - 1) 6) (x7 := gI a ((i : Int) - 1) 7) (x8 := gS a ((i : Int) - 1) 8) (x9 := gI a ((i : Int) - 1) 9) (x10 := gL a ((i : Int) - 1) 10) (x11 := gL a ((i : Int) - 1) 11) (x12 := gI a ((i : Int) - 1) 12) (x13 := gS a ((i : Int) - 1) 13) (x14 := gI a ((i : Int) - 1) 14) (x15 := gL a ((i : Int) - 1) 15) (x16 := gL a ((i : Int) - 1) 16) (y0 := gI a (i : Int) 0) (y1 := gS a (i : Int) 1) (y2 := gI a (i : Int) 2) (y3 := gI a (i : Int) 3) (y4 := gI a (i : Int) 4) (y5 := gB a (i : Int) 5) (y6 := gL a (i : Int) 6) (y7 := gI a (i : Int) 7) (y8 := gS a (i : Int) 8) (y9 := gI a (i : Int) 9) (y10 := gL a (i : Int) 10) (y11 := gL a (i : Int) 11) (y12 := gI a (i : Int) 12) (y13 := gS a (i : Int) 13) (y14 := gI a (i : Int) 14) (y15 := gL a (i : Int) 15) (y16 := gL a (i : Int) 16)
   rw [hf,hc]
   cases lessV (gI a ((i : Int) - 1) 0) (gS a ((i : Int) - 1) 1) (gI a (i : Int) 0) (gS a (i : Int) 1)
   ·rfl
   ·simp (disch := omega) only [Bool.not_true,cond_false,Bool.not_false,Bool.false_or,Bool.true_and,Z9]
    cases (List.range i).all _ <;> rfl
  ·simp only [ZZ h0,cond_false,Bool.not_true,Bool.not_false,Bool.true_or,Bool.true_and]
   simp (disch := omega) only [Z9]
   cases (List.range i).all _ <;> rfl
 ·intro L
  simp [Y2.l0,atR,rdQ,Q.ask]) K
theorem cmp_zero : ∀ (a b : List UInt8),(Go.Lib.compareBytes a b == 0) = (a == b)
 | [],[] => by simp [Go.Lib.compareBytes]
 | [],_ :: _ => by simp [Go.Lib.compareBytes]
 | _ :: _,[] => by simp [Go.Lib.compareBytes]
 | x :: a,y :: b => by
  have ih := cmp_zero a b
  unfold Go.Lib.compareBytes
  by_cases h : x < y
  ·have : x ≠ y := fun e => by subst e; exact absurd h (UInt8.lt_irrefl _)
   simp [h,this]
  ·by_cases h2 : y < x
   ·have : x ≠ y := fun e => by subst e; exact absurd h2 (UInt8.lt_irrefl _)
    simp [h,h2,this]
   ·have e : x = y := by
     refine UInt8.toNat_inj.mp ?_
     have h1 : ¬ x.toNat < y.toNat := fun q => h (UInt8.lt_iff_toNat_lt.mpr q)
     have h3 : ¬ y.toNat < x.toNat := fun q => h2 (UInt8.lt_iff_toNat_lt.mpr q)
     omega
    subst e
    simpa [h] using ih
theorem cmpObjs2 {x0 : Int} {x1 : BA} {x2 x3 x4 : Int} {x5 : Bool} {x6 : LD} {x7 : Int} {x8 : BA} {x9 : Int} {x10 x11 : LD} {x12 : Int} {x13 : BA} {x14 : Int} {x15 x16 : LD} {y0 : Int} {y1 : BA} {y2 y3 y4 : Int} {y5 : Bool} {y6 : LD} {y7 : Int} {y8 : BA} {y9 : Int} {y10 y11 : LD} {y12 : Int} {y13 : BA} {y14 : Int} {y15 y16 : LD} {k : Nat} :
  ∃ c : Int,decide (c < 0) = lessV x0 x1 y0 y1 ∧ (c == 0) = ((x0 == y0) && Zae x1 y1) ∧ ∀ {β : Type} (K : Int → Option β),Yan.f k x0 x1 x2 x3 x4 x5 x6 x7 x8 x9 x10 x11 x12 x13 x14 x15 x16 y0 y1 y2 y3 y4 y5 y6 y7 y8 y9 y10 y11 y12 y13 y14 y15 y16 K = K c := by
 have hn : ∀ {n : Int} {β : Type} (K : Bool → Option β),Yaq.f k n K = K false := fun {n β} K => Yaq.f_of (by unfold Yaq.t Yaq.g; simp) K
 have hc : ∀ {β : Type} (K : Int → Option β),Yaj.f k x0 y0 K = K (if x0 < y0 then -1 else if x0 > y0 then 1 else 0) := fun K => Yaj.f_of (by
  unfold Yaj.t Yaj.g
  simp only [hn,cond_false]
  by_cases h1 : x0 < y0
  ·simp [h1]
  ·by_cases h2 : x0 > y0 <;> simp [h1,h2]) K
 have hs : ∀ {β : Type} (K : Int → Option β),Yai.f k x1 y1 K = K (cmpS x1 y1) := fun K => Yai.f_of (by unfold Yai.t Yai.g; rfl) K
 refine ⟨if x0 < y0 then -1 else if x0 > y0 then 1 else cmpS x1 y1,?_,?_,fun {β} K => Yan.f_of ?_ K⟩
 ·have hneg : ∀ c : Int,decide (c < 0) = !decide (c ≥ 0) := fun c => by by_cases h : c < 0 <;> simp [h]; omega
  unfold lessV
  by_cases h1 : x0 < y0
  ·simp [h1]
  ·by_cases h2 : x0 > y0
   ·have h3 : ¬ x0 = y0 := by omega
    simp [h1,h2,h3]
   ·have h3 : x0 = y0 := by omega
    subst h3
    simp only [h1,gt_iff_lt,if_false,decide_false,Bool.false_or,beq_self_eq_true,Bool.true_and]
    rw [hneg,cmpS_less,Bool.not_not]
 ·by_cases h1 : x0 < y0
  ·have h3 : ¬ x0 = y0 := by omega
   simp [h1,h3]
  ·by_cases h2 : x0 > y0
   ·have h3 : ¬ x0 = y0 := by omega
    simp [h1,h2,h3]
   ·have h3 : x0 = y0 := by omega
    subst h3
    simp only [h1,gt_iff_lt,if_false,beq_self_eq_true,Bool.true_and]
    unfold cmpS Zae
    rw [cmp_zero,Go.Lib.toList_data,Go.Lib.toList_data]
 ·unfold Yan.t Yan.g
  simp only [hc,hs]
  by_cases h1 : x0 < y0
  ·simp [h1]
  ·by_cases h2 : x0 > y0 <;> simp [h1,h2]
theorem YW.f_of {β : Type} {k aB aA aH aF z0} (h : YW.t k aB aA aH aF = some z0) (K : Bool → Option β) : YW.f k aB aA aH aF K = K z0 := by unfold YW.f; rw [h]; rfl
set_option maxRecDepth 100000 in
theorem YW.same {aB : LD} {aA aH : Int} {aF : LD} (g0 : ZB Ya lim aB) (g3 : ZB Yb lim aF) {k : Nat} (hk : Zai 1 k) : YW.t k aB aA aH aF = Yv.t k aB aA aH aF := by
 have hl := g3.1
 have hlim : lim = 1048576 := rfl
 have hloop : ZA (YW.l0 k aF (aF.length : Int) aB aA aH aF some) k 0 = ZA (Yv.l0 k aB aA aH aF some) k 0 := by
  refine congrArg (fun b => ZA b k 0) (funext fun L => funext fun v => ?_)
  simp only [YW.l0,atR,rdQ,Q.ask,Yv.l0,atR,rdQ,Q.ask]
  refine bif_congr (fun h => ?_) (fun _ => rfl)
  by_cases h0 : 0 ≤ v ∧ v < aF.length
  ·obtain ⟨h0,h1⟩ := h0
   obtain ⟨-,-,-,k1,-,-,-,k6,-,k8,-,k10,k11,-,k13,-,k15,k16,-⟩ := Yb.get g3 h0 h1
   simp (disch := omega) only [Yb.row g3,Z4,Z5,ZaQ,ZaV,Zbl,Zan,l7Obj_fv k1 k6 k8 k10 k11 k13 k15 k16 hk,objOk_fv k1 k6 k8 k10 k11 k13 k15 k16 hk]
  ·simp only [atRow_none h0]
 unfold YW.t Yv.t YW.g YW.m Yv.g Yv.m
 simp only [Ya5,l1In_fv,objsOk_fv g0 hk,l7Objs_fv g0 hk]
 rw [hloop]
 cases inB aA 0 1000000
 ·rfl
 cases inB aH 1 1000000
 ·rfl
 cases objsB aB (IntKind.wrap .i64 (aH - 1)) aA <;> cases decide ((aF.length : Int) > 40) <;> rfl
theorem BaseOkI {aB : LD} {aA aH : Int} {aF : LD} (g0 : ZB Ya lim aB) (g3 : ZB Yb lim aF) {k : Nat} (hk : Zai 1 k) {β : Type} (K : Bool → Option β) : YW.f k aB aA aH aF K = K (Yv.v aB aA aH aF) :=
 YW.f_of ((YW.same g0 g3 hk).trans (Yv.tv g0 g3 hk)) K
theorem YX.f_of {β : Type} {k a0 z0} (h : YX.t k a0 = some z0) (K : LC → Option β) : YX.f k a0 K = K z0 := by unfold YX.f; rw [h]; rfl
theorem clone_string_fv {a : LD} (g : ZB RS lim a) {k : Nat} {β : Type} (K : LC → Option β) : YX.f k a K = K (a.map (·.map C.d)) := YX.f_of (by
 have hl := g.1
 have hlim : lim = 1048576 := rfl
 have hm : Z8 = 2 ^ 36 := rfl
 unfold YX.t YX.g
 rw [ZH (RS.flat g.2),ZH (by simp only [List.length_nil,map_len]; omega),List.nil_append]
 exact nilSl_same) K
theorem Yp.f_of {β : Type} {k aB aA aH aF aI z0 z1 z2 z3 z4} (h : Yp.t k aB aA aH aF aI = some (z0,z1,z2,z3,z4)) (K : Int → BA → Int → LC → LC → Option β) : Yp.f k aB aA aH aF aI K = K z0 z1 z2 z3 z4 := by unfold Yp.f Yp.w; rw [h]; rfl
set_option maxRecDepth 100000 in
theorem copyVal (n : Nat) : ∀ (c0 : Int) (c1 : BA) (c2 : Int) (c3 c4 : LD),ZB RS lim c3 → c4.length ≤ lim → (∀ x ∈ c4,Y9 lim n x) → ∀ {k : Nat},big + n + 1 ≤ k → Yp.t k c0 c1 c2 c3 c4 = some (c0,c1,c2,Zc c3,Zc c4) := by
 have hm : Z8 = 2 ^ 36 := rfl
 have hlim : lim = 1048576 := rfl
 have hb : big = 2 ^ 64 := rfl
 induction n using Nat.strongRecOn with
 | ind n ih =>
 intro c0 c1 c2 c3 c4 g3 l4 g4 k hk
 obtain ⟨k,rfl⟩ : ∃ k',k = k' + 1 := ⟨k - 1,by omega⟩
 rw [Yp.t_succ]
 unfold Yp.g Yp.body
 rw [clone_string_fv g3]
 refine (ZbT (xs := c4) (r := some (c0,c1,c2,c3.map (·.map C.d),Zc c4)) (by omega) (fun L i hi => ?_) (fun L => ?_)).trans (by rw [RS.deep g3.2])
 ·have hl : (Zc (c4.take i)).length = i := by rw [ZS,List.length_take]; omega
  obtain ⟨n',hn',d0,d1,d2,d3,d4,e,w0,w1,w2,w3,w4,w5⟩ : ∃ n',n = n' + 1 ∧ ∃ d0 d1 d2 d3 d4,gR c4 (i : Int) = [.int .i64 d0,.str d1,.int .i64 d2,.sl d3,.sl d4] ∧ (Lit.int .i64 d0).wf = true ∧ d1.size ≤ lim ∧ (Lit.int .i64 d2).wf = true ∧ ZB RS lim d3 ∧ d4.length ≤ lim ∧ ∀ x ∈ d4,Y9 lim n' x := by
   have := g4 _ (gR_mem (xs := c4) (v := (i : Int)) (by omega) (by omega))
   generalize gR c4 (i : Int) = r at this
   cases this with
   | mk e0 e1 e2 e3 e4 w0 p1 w2 p3 p4 p5 => exact ⟨_,rfl,_,_,_,_,_,rfl,w0,p1,w2,p3,p4,p5⟩
  simp (disch := omega) only [Yp.l0,atR,rdQ,Q.ask,ZY (show (i : Int) < c4.length by omega),cond_true,Zck (xs := c4) (v := (i : Int)),e,Z4,Z5,ZaQ,Zbl,Zan,Yp.f_of (ih n' (by omega) d0 d1 d2 d3 d4 w3 w4 w5 (k := k) (by omega)),Z9]
  rw [ZH (by rw [hl,List.length_singleton]; omega)]
  simp only [ZN,deepD]
 ·simp only [Yp.l0,atR,rdQ,Q.ask,ZZ (show ¬ (c4.length : Int) < c4.length by omega),cond_false]
set_option maxRecDepth 100000 in
theorem l4CopyVal (n : Nat) : ∀ (c0 : Int) (c1 : BA) (c2 : Int) (c3 c4 : LD),ZB RS lim c3 → c4.length ≤ lim → (∀ x ∈ c4,Y9 lim n x) → ∀ {k : Nat},big + n + 1 ≤ k → YA.t k c0 c1 c2 c3 c4 = some (c0,c1,c2,Zc c3,Zc c4) := by
 have hm : Z8 = 2 ^ 36 := rfl
 have hlim : lim = 1048576 := rfl
 have hb : big = 2 ^ 64 := rfl
 induction n using Nat.strongRecOn with
 | ind n ih =>
 intro c0 c1 c2 c3 c4 g3 l4 g4 k hk
 have l3 := g3.1
 obtain ⟨k,rfl⟩ : ∃ k',k = k' + 1 := ⟨k - 1,by omega⟩
 rw [YA.t_succ]
 unfold YA.g YA.body
 rw [ZH (RS.flat g3.2),ZH (by simp only [List.length_nil,map_len]; omega),List.nil_append]
 refine (ZbT (xs := c4) (r := some (c0,c1,c2,c3.map (·.map C.d),Zc c4)) (by omega) (fun L i hi => ?_) (fun L => ?_)).trans (by rw [RS.deep g3.2])
 ·have hl : (Zc (c4.take i)).length = i := by rw [ZS,List.length_take]; omega
  obtain ⟨n',hn',d0,d1,d2,d3,d4,e,w0,w1,w2,w3,w4,w5⟩ : ∃ n',n = n' + 1 ∧ ∃ d0 d1 d2 d3 d4,gR c4 (i : Int) = [.int .i64 d0,.str d1,.int .i64 d2,.sl d3,.sl d4] ∧ (Lit.int .i64 d0).wf = true ∧ d1.size ≤ lim ∧ (Lit.int .i64 d2).wf = true ∧ ZB RS lim d3 ∧ d4.length ≤ lim ∧ ∀ x ∈ d4,Y9 lim n' x := by
   have := g4 _ (gR_mem (xs := c4) (v := (i : Int)) (by omega) (by omega))
   generalize gR c4 (i : Int) = r at this
   cases this with
   | mk e0 e1 e2 e3 e4 w0 p1 w2 p3 p4 p5 => exact ⟨_,rfl,_,_,_,_,_,rfl,w0,p1,w2,p3,p4,p5⟩
  simp (disch := omega) only [YA.l0,atR,rdQ,Q.ask,ZY (show (i : Int) < c4.length by omega),cond_true,Zck (xs := c4) (v := (i : Int)),e,Z4,Z5,ZaQ,Zbl,Zan,YA.f_of (ih n' (by omega) d0 d1 d2 d3 d4 w3 w4 w5 (k := k) (by omega)),Z9]
  rw [ZH (by rw [hl,List.length_singleton]; omega)]
  simp only [ZN,deepD]
 ·simp only [YA.l0,atR,rdQ,Q.ask,ZZ (show ¬ (c4.length : Int) < c4.length by omega),cond_false]
theorem value_h {xs : LD} (g : ZB Yq lim xs) : ∀ x ∈ xs,Y9 lim 1099511627776 x := fun x hx => by
 obtain ⟨h,hh,hx⟩ := g.2 x hx
 exact hx.mono (hh (by decide))
theorem copyValue_fv {c0 c2 : Int} {c1 : BA} {c3 c4 : LD} (g3 : ZB RS lim c3) (g4 : ZB Yq lim c4) {k : Nat} (hk : Zai 1 k) {β : Type} (K : Int → BA → Int → LC → LC → Option β) : Yp.f k c0 c1 c2 c3 c4 K = K c0 c1 c2 (Zc c3) (Zc c4) :=
 Yp.f_of (copyVal 1099511627776 c0 c1 c2 c3 c4 g3 g4.1 (value_h g4) (Nat.le_trans (big_lv1 (n := 1099511627776 + 1) (by omega)) hk)) K
theorem l4Copy_fv {c0 c2 : Int} {c1 : BA} {c3 c4 : LD} (g3 : ZB RS lim c3) (g4 : ZB Yq lim c4) {k : Nat} (hk : Zai 1 k) {β : Type} (K : Int → BA → Int → LC → LC → Option β) : YA.f k c0 c1 c2 c3 c4 K = K c0 c1 c2 (Zc c3) (Zc c4) :=
 YA.f_of (l4CopyVal 1099511627776 c0 c1 c2 c3 c4 g3 g4.1 (value_h g4) (Nat.le_trans (big_lv1 (n := 1099511627776 + 1) (by omega)) hk)) K
theorem Yar.f_of {β : Type} {k : Nat} {aB : Int} {aA : BA} {aH aF aI : Int} {bD : Bool} {aV : LD} {bA : Int} {aP : BA} {bB : Int} {aQ aW : LD} {aY : Int} {aR : BA} {bC : Int} {aT aX : LD} {z0 : Int} {z1 : BA} {z2 z3 z4 : Int} {z5 : Bool} {z6 : LC} {z7 : Int} {z8 : BA} {z9 : Int} {z10 z11 : LC} {z12 : Int} {z13 : BA} {z14 : Int} {z15 z16 : LC} (h : Yar.t k aB aA aH aF aI bD aV bA aP bB aQ aW aY aR bC aT aX = some (z0,z1,z2,z3,z4,z5,z6,z7,z8,z9,z10,z11,z12,z13,z14,z15,z16)) (K : Int → BA → Int → Int → Int → Bool → LC → Int → BA → Int → LC → LC → Int → BA → Int → LC → LC → Option β) : Yar.f k aB aA aH aF aI bD aV bA aP bB aQ aW aY aR bC aT aX K = K z0 z1 z2 z3 z4 z5 z6 z7 z8 z9 z10 z11 z12 z13 z14 z15 z16 := by
 unfold Yar.f
 rw [h]
theorem l7Copy_fv {x0 : Int} {x1 : BA} {x2 x3 x4 : Int} {x5 : Bool} {x6 : LD} {x7 : Int} {x8 : BA} {x9 : Int} {x10 x11 : LD} {x12 : Int} {x13 : BA} {x14 : Int} {x15 x16 : LD} (g6 : ZB RS lim x6) (g10 : ZB RS lim x10) (g11 : ZB Yq lim x11) (g15 : ZB RS lim x15) (g16 : ZB Yq lim x16) {k : Nat} (hk : Zai 1 k) {β : Type} (K : Int → BA → Int → Int → Int → Bool → LC → Int → BA → Int → LC → LC → Int → BA → Int → LC → LC → Option β) : YaB.f k x0 x1 x2 x3 x4 x5 x6 x7 x8 x9 x10 x11 x12 x13 x14 x15 x16 K = K x0 x1 x2 x3 x4 x5 (Zc x6) x7 x8 x9 (Zc x10) (Zc x11) x12 x13 x14 (Zc x15) (Zc x16) := YaB.f_of (by
 have hm : Z8 = 2 ^ 36 := rfl
 have hlim : lim = 1048576 := rfl
 have l := g6.1
 unfold YaB.t YaB.g
 rw [ZH (RS.flat g6.2),ZH (by simp only [List.length_nil,map_len]; omega),List.nil_append,l4Copy_fv g10 g11 hk,l4Copy_fv g15 g16 hk,← RS.deep g6.2]) K
theorem copyObj_fv {x0 : Int} {x1 : BA} {x2 x3 x4 : Int} {x5 : Bool} {x6 : LD} {x7 : Int} {x8 : BA} {x9 : Int} {x10 x11 : LD} {x12 : Int} {x13 : BA} {x14 : Int} {x15 x16 : LD} (g6 : ZB RS lim x6) (g10 : ZB RS lim x10) (g11 : ZB Yq lim x11) (g15 : ZB RS lim x15) (g16 : ZB Yq lim x16) {k : Nat} (hk : Zai 1 k) {β : Type} (K : Int → BA → Int → Int → Int → Bool → LC → Int → BA → Int → LC → LC → Int → BA → Int → LC → LC → Option β) : Yar.f k x0 x1 x2 x3 x4 x5 x6 x7 x8 x9 x10 x11 x12 x13 x14 x15 x16 K = K x0 x1 x2 x3 x4 x5 (Zc x6) x7 x8 x9 (Zc x10) (Zc x11) x12 x13 x14 (Zc x15) (Zc x16) := Yar.f_of (by
 unfold Yar.t Yar.g
 rw [clone_string_fv g6,copyValue_fv g10 g11 hk,copyValue_fv g15 g16 hk,← RS.deep g6.2]) K
end Go.Proofs.YtlobhlnahhjpjaaGreat
