/- Printed,and by hand: the functions that FnCaught reaches come to their end; the program's answer as the reference's. -/
import Derived.Test.YtpgplbalenfgfaaXFnCaught1
import Derived.KernelRfl
set_option linter.unusedVariables false
set_option linter.unusedSimpArgs false
namespace Go.Proofs.Ytpgplbalenfgfaa
open Go Go.T Go.Proofs
theorem Ya0 {V β : Type} {b : (V → Option β) → V → Option β} (m : V → Nat) (Inv : V → Prop) (Q : Option β → Prop) (step : ∀ v,Inv v → ∀ L,(∀ v',Inv v' → m v' < m v → Q (L v')) → Q (b L v)) : ∀ {k : Nat} {v : V},Inv v → m v < k → Q (ZA b k v)
 | 0,v,_,h => absurd h (Nat.not_lt_zero _)
 | k + 1,v,hv,h => step v hv (ZA b k) fun v' hv' hlt => Ya0 m Inv Q step hv' (by omega)
theorem mem_modify {α : Type} {P : α → Prop} {f : α → α} (hf : ∀ x,P x → P (f x)) : ∀ {xs : List α} {j : Nat},(∀ x ∈ xs,P x) → ∀ x ∈ xs.modify j f,P x
 | [],j,h,x,hx => by cases j <;> cases hx
 | y :: xs,0,h,x,hx => by
  simp only [List.modify_zero_cons] at hx
  rcases List.mem_cons.mp hx with rfl | hx
  ·exact hf y (h y (by simp))
  ·exact h x (by simp [hx])
 | y :: xs,j + 1,h,x,hx => by
  simp only [List.modify_succ_cons] at hx
  rcases List.mem_cons.mp hx with rfl | hx
  ·exact h x (by simp)
  ·exact mem_modify hf (fun z hz => h z (by simp [hz])) x hx
theorem YaU {α : Type} {P : α → Prop} {xs : List α} {y : α} (h : ∀ x ∈ xs,P x) (hy : P y) : ∀ x ∈ xs ++ [y],P x := by
 intro x hx
 rcases List.mem_append.mp hx with q | q
 ·exact h x q
 ·simp at q; subst q; exact hy
theorem wf_of {x : Int} (h0 : -9223372036854775808 ≤ x) (h1 : x ≤ 9223372036854775807) : (Lit.int .i64 x).wf = true := by
 simp [Lit.wf,IntKind.min,IntKind.max,IntKind.signed,IntKind.bits]
 omega
theorem big_lv1 {n : Nat} (h : n ≤ 4398046511104) : big + n ≤ lv 1 := by
 have hb : big = 2 ^ 64 := rfl
 have : lv 1 = 2 ^ 65 := rfl
 omega
theorem ZaM (n : Int) : n = 1 ∨ n = 2 ∨ n = 3 ∨ n = 4 ∨ n = 5 ∨ ((n == 1) = false ∧ (n == 2) = false ∧ (n == 3) = false ∧ (n == 4) = false ∧ (n == 5) = false) := by
 simp only [beq_eq_false_iff_ne]
 omega
theorem delR_deep {pr : List D → Option Bool} {q : List D → Bool} : ∀ {e : LD},(∀ r ∈ e,pr r = some (q r)) → delR pr (Zc e) = some (Zc (e.filter fun r => !q r))
 | [],_ => rfl
 | r :: e,h => by
  simp only [Zc,delR,imm_deepCells,h r (by simp),delR_deep (e := e) fun x hx => h x (by simp [hx])]
  rw [List.filter_cons]
  cases q r <;> rfl
theorem delK_deep {ix : LD → Option Int} {pr : List D → Option Bool} {q : List D → Bool} {d : LD} (hl : d.length ≤ 1048576) (hix : ix d = some (ZbV (fun i => q (gR d (i : Int))) d.length)) (h : ∀ r ∈ d,pr r = some (q r)) : delK ix pr (Zc d) = some (Zc (d.filter fun r => !q r)) := by
 unfold delK
 rw [ZK,hix]
 have hg : ∀ i (hi : i < d.length),gR d (i : Int) = d[i] := fun i hi => by
  have := gR_at (xs := d) (v := (i : Int)) (by omega) (by omega)
  rw [Int.toNat_natCast,List.getElem?_eq_getElem hi] at this
  injection this with this
  exact this.symm
 by_cases hz : ZbV (fun i => q (gR d (i : Int))) d.length < 0
 ·obtain ⟨h1,h2⟩ := findI_none hz
  simp only [h1,if_true]
  congr 2
  symm
  rw [List.filter_eq_self]
  intro x hx
  obtain ⟨i,hi,rfl⟩ := List.mem_iff_getElem.mp hx
  have := h2 i hi
  rw [hg i hi] at this
  rw [this]; rfl
 ·obtain ⟨h1,h2,h3,h4⟩ := findI_some (p := fun i => q (gR d (i : Int))) (n := d.length) (by omega)
  generalize ZbV (fun i => q (gR d (i : Int))) d.length = z at *
  simp only [show ¬ z = -1 by omega,if_false]
  rw [ZH ⟨by omega,by rw [ZS]; omega,by rw [ZS]; omega⟩]
  have ht : ∀ m,m ≤ d.length → (Zc d).take m = Zc (d.take m) ∧ (Zc d).drop m = Zc (d.drop m) := fun m hm => by
   have e : Zc d = Zc (d.take m) ++ Zc (d.drop m) := by rw [← Zbb,List.take_append_drop]
   have l : (Zc (d.take m)).length = m := by rw [ZS,List.length_take]; omega
   rw [e]
   exact ⟨List.take_left' l,List.drop_left' l⟩
  rw [(ht z.toNat (by omega)).1,(ht (z.toNat + 1) (by omega)).2,delR_deep fun r hr => h r (List.mem_of_mem_drop hr)]
  simp only []
  rw [← Zbb]
  congr 2
  have h5 : d = d.take z.toNat ++ (d[z.toNat] :: d.drop (z.toNat + 1)) := by rw [List.getElem_cons_drop,List.take_append_drop]
  conv => rhs; rw [h5]
  rw [List.filter_append,List.filter_cons]
  have h7 : q d[z.toNat] = true := by have := h2; rwa [hg _ h1] at this
  rw [h7]
  simp only [Bool.not_true,Bool.false_eq_true,if_false]
  congr 1
  symm
  rw [List.filter_eq_self]
  intro x hx
  obtain ⟨i,hi,rfl⟩ := List.mem_iff_getElem.mp hx
  rw [List.length_take] at hi
  have := h4 i (by omega)
  rw [hg i (by omega)] at this
  rw [List.getElem_take,this]; rfl
def insD (r : Nat → Int) (x : Nat) : List Nat → List Nat
 | [] => [x]
 | y :: l => if r y < r x then x :: y :: l else y :: insD r x l
def Ya7 (r : Nat → Int) (l : List Nat) : List Nat := l.foldl (fun a x => insD r x a) []
def AheadD (r : Nat → Int) (i j : Nat) : Prop := r j < r i ∨ (r i = r j ∧ i < j)
theorem insD_mem {r : Nat → Int} {x z : Nat} : ∀ {l : List Nat},z ∈ insD r x l ↔ z = x ∨ z ∈ l
 | [] => by simp [insD]
 | y :: l => by
  unfold insD
  split
  ·simp
  ·simp only [List.mem_cons,insD_mem (l := l)]
   constructor
   ·rintro (h | h | h) <;> simp [h]
   ·rintro (h | h | h) <;> simp [h]
theorem insD_len {r : Nat → Int} {x : Nat} : ∀ {l : List Nat},(insD r x l).length = l.length + 1
 | [] => rfl
 | y :: l => by
  unfold insD
  split
  ·simp
  ·simp [insD_len (l := l)]
theorem insD_pair {r : Nat → Int} {x : Nat} : ∀ {l : List Nat},l.Pairwise (AheadD r) → (∀ y ∈ l,y < x) → (insD r x l).Pairwise (AheadD r)
 | [],_,_ => by simp [insD]
 | y :: l,h,hx => by
  obtain ⟨h1,h2⟩ := List.pairwise_cons.mp h
  unfold insD
  split
  ·rename_i hr
   refine List.pairwise_cons.mpr ⟨fun z hz => ?_,h⟩
   rcases List.mem_cons.mp hz with rfl | hz
   ·exact .inl hr
   ·rcases h1 z hz with q | q
    ·exact .inl (by omega)
    ·exact .inl (by omega)
  ·rename_i hr
   refine List.pairwise_cons.mpr ⟨fun z hz => ?_,insD_pair h2 fun z hz => hx z (by simp [hz])⟩
   rcases insD_mem.mp hz with rfl | hz
   ·have := hx y (by simp)
    by_cases he : r y = r z
    ·exact .inr ⟨he,this⟩
    ·exact .inl (by omega)
   ·exact h1 z hz
theorem foldD {r : Nat → Int} : ∀ (l a : List Nat),a.Pairwise (AheadD r) → l.Pairwise (· < ·) → (∀ y ∈ a,∀ x ∈ l,y < x) →
  (l.foldl (fun a x => insD r x a) a).Pairwise (AheadD r) ∧ (∀ z,z ∈ l.foldl (fun a x => insD r x a) a ↔ z ∈ a ∨ z ∈ l) ∧ (l.foldl (fun a x => insD r x a) a).length = a.length + l.length
 | [],a,h,_,_ => ⟨h,by simp,by simp⟩
 | x :: l,a,h,hl,hx => by
  obtain ⟨h1,h2⟩ := List.pairwise_cons.mp hl
  obtain ⟨q1,q2,q3⟩ := foldD l (insD r x a) (insD_pair h fun y hy => hx y hy x (by simp)) h2 (fun y hy z hz => by
   rcases insD_mem.mp hy with rfl | hy
   ·exact h1 z hz
   ·exact hx y hy z (by simp [hz]))
  refine ⟨q1,fun z => ?_,by rw [List.foldl_cons,q3,insD_len,List.length_cons]; omega⟩
  rw [List.foldl_cons,q2,insD_mem,List.mem_cons]
  constructor
  ·rintro ((h | h) | h) <;> simp [h]
  ·rintro (h | h | h) <;> simp [h]
theorem isortD_facts {r : Nat → Int} {l : List Nat} (hl : l.Pairwise (· < ·)) : (Ya7 r l).Pairwise (AheadD r) ∧ (∀ z,z ∈ Ya7 r l ↔ z ∈ l) ∧ (Ya7 r l).length = l.length := by
 obtain ⟨h1,h2,h3⟩ := foldD (r := r) l [] (by simp) hl (by simp)
 exact ⟨h1,fun z => by rw [Ya7,h2]; simp,by rw [Ya7,h3]; simp⟩
theorem insD_map {r : Nat → Int} {f : Nat → Nat} {x : Nat} : ∀ {l : List Nat},insD r (f x) (l.map f) = (insD (fun i => r (f i)) x l).map f
 | [] => rfl
 | y :: l => by
  simp only [List.map_cons,insD]
  split
  ·rfl
  ·rw [insD_map (l := l)]; rfl
theorem isortD_map {r : Nat → Int} {f : Nat → Nat} {l : List Nat} : Ya7 r (l.map f) = (Ya7 (fun i => r (f i)) l).map f := by
 have : ∀ (l a : List Nat),(l.map f).foldl (fun a x => insD r x a) (a.map f) = (l.foldl (fun a x => insD (fun i => r (f i)) x a) a).map f := by
  intro l
  induction l with
  | nil => intro a; rfl
  | cons x l ih => intro a; simp only [List.map_cons,List.foldl_cons,insD_map,ih]
 exact this l []
def bestD (r : Nat → Int) : List Nat → Option Nat → Option Nat
 | [],b => b
 | i :: l,none => bestD r l (some i)
 | i :: l,some b => if r b < r i then bestD r l (some i) else bestD r l (some b)
theorem bestD_some {r : Nat → Int} : ∀ {l : List Nat} {b : Nat},(∀ i ∈ l,b < i) → l.Pairwise (· < ·) → ∃ c,bestD r l (some b) = some c ∧ (c = b ∨ c ∈ l) ∧ (c = b ∨ AheadD r c b) ∧ ∀ i ∈ l,i = c ∨ AheadD r c i
 | [],b,_,_ => ⟨b,rfl,.inl rfl,.inl rfl,by simp⟩
 | i :: l,b,h,hl => by
  obtain ⟨h1,h2⟩ := List.pairwise_cons.mp hl
  unfold bestD
  split
  ·rename_i hr
   obtain ⟨c,q1,q2,q3,q4⟩ := bestD_some (r := r) (b := i) h1 h2
   refine ⟨c,q1,.inr (by rcases q2 with h | h <;> simp [h]),.inr ?_,fun j hj => ?_⟩
   ·rcases q3 with rfl | q3
    ·exact .inl hr
    ·rcases q3 with q | q
     ·exact .inl (by omega)
     ·exact .inl (by omega)
   ·rcases List.mem_cons.mp hj with rfl | hj
    ·rcases q3 with rfl | q3
     ·exact .inl rfl
     ·exact .inr q3
    ·exact q4 j hj
  ·rename_i hr
   have hb := h i (by simp)
   obtain ⟨c,q1,q2,q3,q4⟩ := bestD_some (r := r) (b := b) (fun j hj => h j (by simp [hj])) h2
   refine ⟨c,q1,by rcases q2 with h | h <;> simp [h],q3,fun j hj => ?_⟩
   rcases List.mem_cons.mp hj with rfl | hj
   ·have hbi : AheadD r b j := by
     by_cases he : r b = r j
     ·exact .inr ⟨he,hb⟩
     ·exact .inl (by omega)
    rcases q3 with rfl | q3
    ·exact .inr hbi
    ·right
     rcases q3 with q | q <;> rcases hbi with p | p
     ·exact .inl (by omega)
     ·exact .inl (by omega)
     ·exact .inl (by omega)
     ·exact .inr ⟨by omega,by omega⟩
   ·exact q4 j hj
theorem best_next {r : Nat → Int} {l : List Nat} (hl : l.Pairwise (· < ·)) (h0 : ∀ i ∈ l,0 ≤ r i) {t : Nat} (ht : t < l.length) {r' : Nat → Int}
  (hr : ∀ i ∈ l,r' i = if i ∈ (Ya7 r l).take t then -1 else r i) : bestD r' l none = (Ya7 r l)[t]? := by
 obtain ⟨s1,s2,s3⟩ := isortD_facts (r := r) hl
 have hT : t < (Ya7 r l).length := by omega
 generalize Ya7 r l = S at s1 s2 s3 hr hT ⊢
 rw [List.getElem?_eq_getElem hT]
 cases l with
 | nil => simp at ht
 | cons a l =>
  obtain ⟨h1,h2⟩ := List.pairwise_cons.mp hl
  obtain ⟨c,q1,q2,q3,q4⟩ := bestD_some (r := r') h1 h2
  unfold bestD
  rw [q1]
  congr 1
  have hnd : S.Nodup := s1.imp fun {i j} h e => by subst e; rcases h with h | h <;> omega
  have hSt : S[t] ∉ S.take t := fun h => by
   obtain ⟨i,hi,he⟩ := List.mem_take_iff_getElem.mp h
   have := (List.getElem_inj hnd).mp he
   omega
  have hm : S[t] ∈ a :: l := (s2 _).mp (List.getElem_mem hT)
  have hrt : r' S[t] = r S[t] := by rw [hr _ hm,if_neg hSt]
  have h0t := h0 _ hm
  -- c is in the list,and nothing is ahead of it
  have hcm : c ∈ a :: l := by rcases q2 with h | h <;> simp [h]
  have hall : ∀ i ∈ a :: l,i = c ∨ AheadD r' c i := fun i hi => by
   rcases List.mem_cons.mp hi with rfl | hi
   ·rcases q3 with rfl | q
    ·exact .inl rfl
    ·exact .inr q
   ·exact q4 i hi
  rcases hall _ hm with h | h
  ·exact h.symm
  ·exfalso
   have hcn : c ∉ S.take t := fun hc => by
    have := hr c hcm
    rw [if_pos hc] at this
    rcases h with h | h <;> omega
   have hcr : r' c = r c := by rw [hr c hcm,if_neg hcn]
   obtain ⟨j,hj,rfl⟩ := List.mem_iff_getElem.mp ((s2 c).mpr hcm)
   have hjt : t < j := by
    rcases Nat.lt_trichotomy j t with q | q | q
    ·exact absurd (List.mem_take_iff_getElem.mpr ⟨j,by omega,rfl⟩) hcn
    ·subst q
     rcases h with h | h <;> omega
    ·exact q
   have := List.pairwise_iff_getElem.mp s1 t j hT hj hjt
   rw [AheadD,hrt,hcr] at h
   rcases this with p | p <;> rcases h with q | q <;> omega
section
variable (w c o : Nat → Int) (L : Nat) (n : Int)
def opB (i : Nat) : Bool := decide (0 < w i) && decide (o i < c i)
def opL : List Nat := (List.range L).filter (opB w c o)
def smL (l : List Nat) : Int := (l.map w).sum
abbrev smD : Int := smL w (opL w c o L)
def bsD (s : Int) (i : Nat) : Int := Int.tdiv (n * w i) s
def rsD (s : Int) (i : Nat) : Int := Int.tmod (n * w i) s
def lfD (s : Int) (l : List Nat) : Int := n - (l.map (bsD w n s)).sum
def chD (s : Int) (l : List Nat) : List Nat := (Ya7 (rsD w n s) l).take (lfD w n s l).toNat
def xD (s : Int) (l : List Nat) (i : Nat) : Int := bsD w n s i + if i ∈ chD w n s l then 1 else 0
def clD (s : Int) (l : List Nat) (i : Nat) : Int := if c i - o i < xD w n s l i then c i - o i else xD w n s l i
end
theorem sum_le {f : Nat → Int} {b : Int} : ∀ {l : List Nat},(∀ i ∈ l,0 ≤ f i ∧ f i ≤ b) → 0 ≤ (l.map f).sum ∧ (l.map f).sum ≤ b * l.length
 | [],_ => by simp
 | x :: l,h => by
  obtain ⟨q1,q2⟩ := sum_le (f := f) (b := b) (l := l) fun i hi => h i (by simp [hi])
  obtain ⟨p1,p2⟩ := h x (by simp)
  simp only [List.map_cons,List.sum_cons,List.length_cons]
  have : b * ((l.length + 1 : Nat) : Int) = b * (l.length : Int) + b := by rw [show ((l.length + 1 : Nat) : Int) = (l.length : Int) + 1 by omega,Int.mul_add,Int.mul_one]
  omega
theorem sum_split {w : Nat → Int} {n s : Int} (hs : 0 < s) (hn : 0 ≤ n) : ∀ {l : List Nat},(∀ i ∈ l,0 ≤ w i) → n * (l.map w).sum = s * (l.map (bsD w n s)).sum + (l.map (rsD w n s)).sum
 | [],_ => by simp
 | x :: l,h => by
  have ih := sum_split (w := w) hs hn (l := l) fun i hi => h i (by simp [hi])
  have h1 : s * bsD w n s x + rsD w n s x = n * w x := Int.mul_tdiv_add_tmod (n * w x) s
  simp only [List.map_cons,List.sum_cons]
  rw [Int.mul_add,Int.mul_add,ih,← h1]
  omega
theorem rsD_bound {w : Nat → Int} {n s : Int} (hs : 0 < s) (hn : 0 ≤ n) {i : Nat} (h : 0 ≤ w i) : 0 ≤ rsD w n s i ∧ rsD w n s i < s ∧ 0 ≤ bsD w n s i := by
 have h0 : 0 ≤ n * w i := Int.mul_nonneg hn h
 exact ⟨Int.tmod_nonneg _ h0,Int.tmod_lt_of_pos _ hs,Int.tdiv_nonneg h0 (by omega)⟩
theorem lfD_bound {w : Nat → Int} {n : Int} {l : List Nat} (hn : 0 ≤ n) (hw : ∀ i ∈ l,0 < w i) (hl : l ≠ []) : 0 < smL w l ∧ 0 ≤ lfD w n (smL w l) l ∧ lfD w n (smL w l) l < l.length ∧ 0 ≤ (l.map (bsD w n (smL w l))).sum := by
 have hs : 0 < smL w l := by
  cases l with
  | nil => exact absurd rfl hl
  | cons x l =>
   unfold smL
   have h1 := hw x (by simp)
   have h2 : 0 ≤ (l.map w).sum := by
    have : ∀ {l : List Nat},(∀ i ∈ l,0 < w i) → 0 ≤ (l.map w).sum := fun {l} => by
     induction l with
     | nil => simp
     | cons y l ih =>
      intro h
      have := h y (by simp)
      have := ih fun i hi => h i (by simp [hi])
      simp only [List.map_cons,List.sum_cons]
      omega
    exact this fun i hi => hw i (by simp [hi])
   simp only [List.map_cons,List.sum_cons]
   omega
 have hsp := sum_split (w := w) (n := n) hs hn (l := l) fun i hi => Int.le_of_lt (hw i hi)
 have hr := sum_le (f := rsD w n (smL w l)) (b := smL w l - 1) (l := l) fun i hi => by
  obtain ⟨p1,p2,_⟩ := rsD_bound (w := w) (n := n) hs hn (i := i) (Int.le_of_lt (hw i hi))
  omega
 change n * smL w l = _ at hsp
 have hb0 : 0 ≤ (l.map (bsD w n (smL w l))).sum := by
  have : ∀ {l' : List Nat} {s : Int},0 < s → (∀ i ∈ l',0 < w i) → 0 ≤ (l'.map (bsD w n s)).sum := fun {l' s} hs => by
   induction l' with
   | nil => simp
   | cons y l ih =>
    intro h
    obtain ⟨_,_,p⟩ := rsD_bound (w := w) (n := n) hs hn (i := y) (Int.le_of_lt (h y (by simp)))
    have := ih fun i hi => h i (by simp [hi])
    simp only [List.map_cons,List.sum_cons]
    omega
  exact this hs hw
 generalize (l.map (rsD w n (smL w l))).sum = R at hsp hr
 have hlf : smL w l * lfD w n (smL w l) l = R := by
  unfold lfD
  rw [Int.mul_sub,Int.mul_comm _ n,hsp]
  omega
 refine ⟨hs,?_,?_,hb0⟩
 ·generalize lfD w n (smL w l) l = f at hlf
  apply Int.not_lt.mp
  intro h
  have := Int.mul_neg_of_pos_of_neg hs h
  omega
 ·generalize lfD w n (smL w l) l = f at hlf
  have h1 : smL w l * f < smL w l * l.length := by
   rw [hlf]
   have : (smL w l - 1) * (l.length : Int) = smL w l * l.length - l.length := by rw [Int.sub_mul,Int.one_mul]
   have h2 : 0 < l.length := List.length_pos_iff.mpr hl
   omega
  exact Int.lt_of_mul_lt_mul_left h1 (Int.le_of_lt hs)
theorem opL_facts {w c o : Nat → Int} {L : Nat} : (opL w c o L).Pairwise (· < ·) ∧ ∀ i,i ∈ opL w c o L ↔ i < L ∧ 0 < w i ∧ o i < c i := by
 refine ⟨List.Pairwise.filter _ List.pairwise_lt_range,fun i => ?_⟩
 simp [opL,opB]
theorem xD_sum {w : Nat → Int} {n : Int} {l : List Nat} (hp : l.Pairwise (· < ·)) (hn : 0 ≤ n) (hw : ∀ i ∈ l,0 < w i) (hl : l ≠ []) : (l.map (xD w n (smL w l) l)).sum = n := by
 obtain ⟨h1,h2,h3,_⟩ := lfD_bound hn hw hl
 generalize hs : smL w l = s at h1 h2 h3
 obtain ⟨s1,s2,s3⟩ := isortD_facts (r := rsD w n s) hp
 have hnd : (chD w n s l).Nodup := by
  have : (Ya7 (rsD w n s) l).Nodup := s1.imp fun {i j} h e => by subst e; rcases h with h | h <;> omega
  exact this.sublist (List.take_sublist _ _)
 have hlen : ((chD w n s l).length : Int) = lfD w n s l := by
  unfold chD
  rw [List.length_take,s3]
  omega
 have hsub : ∀ i ∈ chD w n s l,i ∈ l := fun i hi => (s2 i).mp (List.mem_of_mem_take hi)
 have hcount : ∀ (l : List Nat),l.Pairwise (· < ·) → ∀ (ch : List Nat),ch.Nodup → (∀ i ∈ ch,i ∈ l) → (l.map fun i => if i ∈ ch then (1 : Int) else 0).sum = ch.length := by
  intro l
  induction l with
  | nil =>
   intro _ ch _ h
   cases ch with
   | nil => rfl
   | cons x ch => exact absurd (h x (by simp)) (by simp)
  | cons x l ih =>
   intro hp ch hnd hsub
   obtain ⟨p1,p2⟩ := List.pairwise_cons.mp hp
   simp only [List.map_cons,List.sum_cons]
   have hx : x ∉ l := fun h => by have := p1 x h; omega
   have e : (l.map fun i => if i ∈ ch then (1 : Int) else 0) = l.map fun i => if i ∈ ch.erase x then (1 : Int) else 0 := List.map_congr_left fun i hi => by
    have : i ≠ x := fun h => hx (h ▸ hi)
    simp only [List.mem_erase_of_ne this]
   rw [e,ih p2 (ch.erase x) (hnd.erase x) fun i hi => by
    have hne : i ≠ x := fun h => by subst h; exact (List.Nodup.not_mem_erase hnd) hi
    rcases List.mem_cons.mp (hsub i (List.mem_of_mem_erase hi)) with h | h
    ·exact absurd h hne
    ·exact h]
   by_cases hm : x ∈ ch
   ·rw [if_pos hm,List.length_erase_of_mem hm]
    have := List.length_pos_of_mem hm
    omega
   ·rw [if_neg hm,List.erase_of_not_mem hm]
    omega
 have hadd : ∀ (l : List Nat) (f g : Nat → Int),(l.map fun i => f i + g i).sum = (l.map f).sum + (l.map g).sum := by
  intro l f g
  induction l with
  | nil => rfl
  | cons x l ih => simp only [List.map_cons,List.sum_cons,ih]; omega
 have : l.map (xD w n s l) = l.map fun i => bsD w n s i + (if i ∈ chD w n s l then (1 : Int) else 0) := rfl
 rw [this,hadd,hcount l hp _ hnd hsub,hlen]
 unfold lfD
 omega
theorem clD_sum {w c o : Nat → Int} {n : Int} {l : List Nat} (hp : l.Pairwise (· < ·)) (hn : 0 < n) (hw : ∀ i ∈ l,0 < w i) (hc : ∀ i ∈ l,o i < c i) (hl : l ≠ []) :
  (∀ i ∈ l,0 ≤ clD w c o n (smL w l) l i ∧ clD w c o n (smL w l) l i ≤ c i - o i ∧ 0 ≤ xD w n (smL w l) l i) ∧ 0 < (l.map (clD w c o n (smL w l) l)).sum ∧ (l.map (clD w c o n (smL w l) l)).sum ≤ n := by
 obtain ⟨h1,h2,h3,_⟩ := lfD_bound (Int.le_of_lt hn) hw hl
 have hx := xD_sum hp (Int.le_of_lt hn) hw hl
 generalize smL w l = s at *
 have hx0 : ∀ i ∈ l,0 ≤ xD w n s l i := fun i hi => by
  obtain ⟨_,_,p⟩ := rsD_bound (w := w) (n := n) h1 (Int.le_of_lt hn) (i := i) (Int.le_of_lt (hw i hi))
  unfold xD
  split <;> omega
 have hcl : ∀ i ∈ l,0 ≤ clD w c o n s l i ∧ clD w c o n s l i ≤ c i - o i ∧ clD w c o n s l i ≤ xD w n s l i ∧ (0 < xD w n s l i → 0 < clD w c o n s l i) := fun i hi => by
  have := hx0 i hi
  have := hc i hi
  unfold clD
  split <;> omega
 refine ⟨fun i hi => ⟨(hcl i hi).1,(hcl i hi).2.1,hx0 i hi⟩,?_⟩
 have gen : ∀ l' : List Nat,(∀ i ∈ l',i ∈ l) → 0 ≤ (l'.map (clD w c o n s l)).sum ∧ (l'.map (clD w c o n s l)).sum ≤ (l'.map (xD w n s l)).sum ∧ (0 < (l'.map (xD w n s l)).sum → 0 < (l'.map (clD w c o n s l)).sum) := by
  intro l'
  induction l' with
  | nil => intro _; simp
  | cons y l' ih =>
   intro h
   obtain ⟨q1,q2,q3⟩ := ih fun i hi => h i (by simp [hi])
   obtain ⟨p1,_,p2,p3⟩ := hcl y (h y (by simp))
   have := hx0 y (h y (by simp))
   simp only [List.map_cons,List.sum_cons]
   refine ⟨by omega,by omega,fun h => ?_⟩
   by_cases h0 : 0 < xD w n s l y
   ·have := p3 h0; omega
   ·have := q3 (by omega); omega
 have := gen l fun i hi => hi
 rw [hx] at this
 exact ⟨this.2.2 hn,this.2.1⟩
def rowF (L : Nat) (g : Nat → C) : LC := (List.range L).map fun j => [g j]
def rowD (L : Nat) (g : Nat → D) : LD := (List.range L).map fun j => [g j]
abbrev cI (o : Nat → Int) : Nat → C := fun j => .d (.int .i64 (o j))
abbrev cB (o : Nat → Bool) : Nat → C := fun j => .d (.bool (o j))
theorem rowF_len (L : Nat) (g : Nat → C) : (rowF L g).length = L := by simp [rowF]
theorem rowD_len (L : Nat) (g : Nat → D) : (rowD L g).length = L := by simp [rowD]
theorem rowF_ext {L : Nat} {g h : Nat → C} (e : ∀ j,j < L → g j = h j) : rowF L g = rowF L h := List.map_congr_left fun j hj => by rw [e j (List.mem_range.mp hj)]
theorem rowF_at {L : Nat} {g : Nat → C} {i : Nat} (h : i < L) {β : Type} (F : List C → Option β) : ZaR (rowF L g) i F = F [g i] := by
 unfold ZaR rowF
 rw [List.getElem?_map,List.getElem?_range h]
 rfl
theorem rowF_mod {L : Nat} {g : Nat → C} {i : Nat} (h : i < L) (x : C) : ((rowF L g).modify i fun c => Zs c 0 [x]) = rowF L (fun j => if j = i then x else g j) := by
 refine List.ext_getElem (by simp [rowF]) fun j h1 h2 => ?_
 rw [List.getElem_modify]
 simp only [rowF,List.getElem_map,List.getElem_range]
 by_cases hj : i = j
 ·subst hj; simp [Zs]
 ·rw [if_neg hj,if_neg (fun h => hj h.symm)]
theorem rowF_rep (L : Nat) (x : C) : List.replicate L [x] = rowF L (fun _ => x) := by
 refine List.ext_getElem (by simp [rowF]) fun j h1 h2 => ?_
 simp [rowF]
theorem Yba : ∀ (l : LC),C.immRows l = l.map C.immCells
 | [] => rfl
 | x :: l => by simp only [C.immRows,List.map_cons,Yba l]
theorem imm_rowF (L : Nat) (g : Nat → C) : C.immRows (rowF L g) = rowD L (fun j => (g j).imm) := by
 rw [Yba,rowF,rowD,List.map_map]
 rfl
theorem rowD_at {L : Nat} {g : Nat → D} {i : Nat} (h : i < L) {β : Type} (F : List D → Option β) : atRow (rowD L g) (i : Int) F = F [g i] := by
 unfold atRow
 rw [if_pos (by omega),Int.toNat_natCast]
 unfold ZaR rowD
 rw [List.getElem?_map,List.getElem?_range h]
 rfl
theorem deep_rowI {L : Nat} {o : Nat → Int} : Zc (rowD L (fun j => .int .i64 (o j))) = rowF L (cI o) := by
 have : ∀ l : List Nat,Zc (l.map fun j => [D.int .i64 (o j)]) = l.map fun j => [C.d (.int .i64 (o j))] := fun l => by
  induction l with
  | nil => rfl
  | cons x l ih => simp only [List.map_cons,Zc,ZN,deepD,ih]
 exact this _
def upN (l : List Nat) : LC := l.map fun (x : Nat) => [.d (.int .i64 (x : Int))]
def ofN (l : List Nat) : LD := l.map fun (x : Nat) => [.int .i64 (x : Int)]
theorem upN_len (l : List Nat) : (upN l).length = l.length := by simp [upN]
theorem ofN_len (l : List Nat) : (ofN l).length = l.length := by simp [ofN]
theorem upN_app (a b : List Nat) : upN a ++ upN b = upN (a ++ b) := by simp [upN]
theorem imm_upN (l : List Nat) : C.immRows (upN l) = ofN l := by
 rw [Yba,upN,ofN,List.map_map]
 rfl
theorem upN_at {l : List Nat} {i : Nat} (h : i < l.length) {β : Type} (F : List C → Option β) : ZaR (upN l) i F = F [.d (.int .i64 (l[i] : Int))] := by simp [ZaR,upN,h]
theorem ofN_at {l : List Nat} {i : Nat} (h : i < l.length) {β : Type} (F : List D → Option β) : atRow (ofN l) (i : Int) F = F [.int .i64 (l[i] : Int)] := by
 unfold atRow
 rw [if_pos (by omega),Int.toNat_natCast]
 simp [ZaR,ofN,h]
theorem range_filter_succ (p : Nat → Bool) (i : Nat) : (List.range (i + 1)).filter p = (List.range i).filter p ++ (if p i then [i] else []) := by
 rw [List.range_succ,List.filter_append]
 simp [List.filter_cons]
section
variable {α : Type} (less same : α → α → Bool)
structure Ordered : Prop where
 irr : ∀ x y,same x y = true → less x y = false
 tri : ∀ x y,less x y = false → same x y = false → less y x = true
 asym : ∀ x y,less x y = true → less y x = false
 trans : ∀ x y z,less x y = true → less y z = true → less x z = true
 cong : ∀ x y z,same x y = true → less y z = true → less x z = true
 sym : ∀ x y,same x y = true → same y x = true
def YaQ (o o' : α) : Bool → List α → List α
 | put,[] => if put then [] else [o']
 | put,x :: xs => (if !put && !less x o then [o'] else []) ++ ((if same x o then [] else [x]) ++ YaQ o o' (put || !less x o) xs)
def lbF (o : α) (l : List α) : Nat := (l.takeWhile fun x => less x o).length
def hitF (o : α) (l : List α) : Bool := match l[lbF less o l]? with | some x => same x o | none => false
end
section
variable {α : Type} {less same : α → α → Bool} (H : Ordered less same) {o o' : α}
include H
theorem withF_past : ∀ {l : List α},(∀ x ∈ l,less o x = true) → YaQ less same o o' true l = l
 | [],_ => rfl
 | x :: xs,h => by
  have hx := h x (by simp)
  have hs : same x o = false := by
   cases q : same x o
   ·rfl
   ·have := H.irr o x (H.sym _ _ q)
    rw [hx] at this; cases this
  unfold YaQ
  rw [hs,Bool.true_or,withF_past fun y hy => h y (by simp [hy])]
  rfl
theorem withF_eq : ∀ {l : List α},l.Pairwise (fun x y => less x y = true) → YaQ less same o o' false l = l.take (lbF less o l) ++ o' :: l.drop (lbF less o l + if hitF less same o l then 1 else 0)
 | [],_ => rfl
 | x :: xs,h => by
  obtain ⟨h1,h2⟩ := List.pairwise_cons.mp h
  cases hx : less x o with
  | true =>
   have hs : same x o = false := by
    cases q : same x o
    ·rfl
    ·have := H.irr _ _ q
     rw [hx] at this; cases this
   have e : lbF less o (x :: xs) = lbF less o xs + 1 := by simp [lbF,List.takeWhile_cons,hx]
   have e2 : hitF less same o (x :: xs) = hitF less same o xs := by unfold hitF; rw [e]; rfl
   unfold YaQ
   rw [hx,hs]
   show [x] ++ YaQ less same o o' false xs = _
   rw [withF_eq h2,e,e2]
   simp only [List.nil_append,List.take_succ_cons,List.cons_append]
   rw [show lbF less o xs + 1 + (if hitF less same o xs = true then 1 else 0) = (lbF less o xs + if hitF less same o xs = true then 1 else 0) + 1 by omega,List.drop_succ_cons]
  | false =>
   have e : lbF less o (x :: xs) = 0 := by simp [lbF,List.takeWhile_cons,hx]
   have e2 : hitF less same o (x :: xs) = same x o := by unfold hitF; rw [e]; rfl
   have hp : ∀ y ∈ xs,less o y = true := fun y hy => by
    cases hs : same x o with
    | true => exact H.cong _ _ _ (H.sym _ _ hs) (h1 y hy)
    | false => exact H.trans _ _ _ (H.tri _ _ hx hs) (h1 y hy)
   unfold YaQ
   rw [hx,Bool.not_false,Bool.false_or,withF_past H hp,e,e2]
   cases same x o <;> simp
omit H in
theorem lbF_below : ∀ {l : List α} {i : Nat} (hi : i < l.length),i < lbF less o l → less l[i] o = true
 | x :: xs,i,hi,h => by
  cases hx : less x o with
  | false => simp [lbF,List.takeWhile_cons,hx] at h
  | true =>
   cases i with
   | zero => exact hx
   | succ i => exact lbF_below (l := xs) (by simpa using hi) (by simpa [lbF,List.takeWhile_cons,hx] using h)
theorem lbF_above : ∀ {l : List α} (_ : l.Pairwise (fun x y => less x y = true)) {i : Nat} (hi : i < l.length),lbF less o l ≤ i → less l[i] o = false
 | x :: xs,hp,i,hi,h => by
  obtain ⟨h1,h2⟩ := List.pairwise_cons.mp hp
  cases hx : less x o with
  | true =>
   cases i with
   | zero => simp [lbF,List.takeWhile_cons,hx] at h
   | succ i => exact lbF_above h2 (by simpa using hi) (by simpa [lbF,List.takeWhile_cons,hx] using h)
  | false =>
   cases i with
   | zero => exact hx
   | succ i =>
    have hxi := h1 (xs[i]'(by simpa using hi)) (List.getElem_mem _)
    show less (xs[i]'(by simpa using hi)) o = false
    cases q : less (xs[i]'(by simpa using hi)) o with
    | false => rfl
    | true =>
     have := H.trans _ _ _ hxi q
     rw [hx] at this; cases this
end
def ltK (key : Nat → Int) (i j : Nat) : Prop := key i < key j ∨ (key i = key j ∧ i < j)
theorem ltK_tr {key : Nat → Int} {i j l : Nat} (h : ltK key i j) (h' : ltK key j l) : ltK key i l := by
 unfold ltK at *; omega
theorem ltK_as {key : Nat → Int} {i j : Nat} (h : ltK key i j) : ¬ ltK key j i := by
 unfold ltK at *; omega
theorem st_uniq {key : Nat → Int} : ∀ {L M : List Nat},L.Pairwise (ltK key) → M.Pairwise (ltK key) → (∀ x,x ∈ L ↔ x ∈ M) → L = M
 | [],[],_,_,_ => rfl
 | [],y :: M,_,_,h => by have := (h y).mpr (by simp); simp at this
 | x :: L,[],_,_,h => by have := (h x).mp (by simp); simp at this
 | x :: L,y :: M,hL,hM,h => by
  obtain ⟨hx,hL2⟩ := List.pairwise_cons.mp hL
  obtain ⟨hy,hM2⟩ := List.pairwise_cons.mp hM
  have e : x = y := by
   rcases List.mem_cons.mp ((h x).mp (by simp)) with e | e
   ·exact e
   ·rcases List.mem_cons.mp ((h y).mpr (by simp)) with e2 | e2
    ·exact e2.symm
    ·exact absurd (hy x e) (ltK_as (hx y e2))
  subst e
  refine congrArg _ (st_uniq hL2 hM2 fun z => ⟨fun hz => ?_,fun hz => ?_⟩)
  ·rcases List.mem_cons.mp ((h z).mp (by simp [hz])) with e | e
   ·subst e; exact absurd (hx z hz) (fun q => ltK_as q q)
   ·exact e
  ·rcases List.mem_cons.mp ((h z).mpr (by simp [hz])) with e | e
   ·subst e; exact absurd (hy z hz) (fun q => ltK_as q q)
   ·exact e
def StOf (key : Nat → Int) (L R : List Nat) : Prop := R.Pairwise (ltK key) ∧ R.Perm L
theorem StOf.len {key : Nat → Int} {L R : List Nat} (h : StOf key L R) : R.length = L.length := h.2.length_eq
theorem st_join {key : Nat → Int} {A1 A2 B1 B2 R1 R2 : List Nat} (hA : (A1 ++ A2).Pairwise (ltK key)) (hB : (B1 ++ B2).Pairwise (ltK key)) (h1 : ∀ x ∈ A1,∀ y ∈ B2,ltK key x y) (h2 : ∀ x ∈ A2,∀ y ∈ B1,ltK key y x)
  (r1 : StOf key (A1 ++ B1) R1) (r2 : StOf key (A2 ++ B2) R2) : StOf key ((A1 ++ A2) ++ (B1 ++ B2)) (R1 ++ R2) := by
 refine ⟨List.pairwise_append.mpr ⟨r1.1,r2.1,fun x hx y hy => ?_⟩,?_⟩
 ·have hA3 := (List.pairwise_append.mp hA).2.2
  have hB3 := (List.pairwise_append.mp hB).2.2
  rcases List.mem_append.mp (r1.2.mem_iff.mp hx) with hx | hx <;> rcases List.mem_append.mp (r2.2.mem_iff.mp hy) with hy | hy
  ·exact hA3 x hx y hy
  ·exact h1 x hx y hy
  ·exact h2 y hy x hx
  ·exact hB3 x hx y hy
 ·refine (r1.2.append r2.2).trans ?_
  rw [List.append_assoc,List.append_assoc]
  refine List.Perm.append_left A1 ?_
  rw [← List.append_assoc,← List.append_assoc]
  exact List.Perm.append_right B2 List.perm_append_comm
theorem st_cut {key : Nat → Int} {L : List Nat} (h : L.Pairwise (ltK key)) {i j : Nat} (hi : i < L.length) (hj : j < L.length) (hij : i < j) : ltK key L[i] L[j] := List.pairwise_iff_getElem.mp h i j hi hj hij
theorem st_le {key : Nat → Int} {L : List Nat} (h : L.Pairwise (ltK key)) {i j : Nat} (hi : i < L.length) (hj : j < L.length) (hij : i ≤ j) : L[i] = L[j] ∨ ltK key L[i] L[j] := by
 rcases Nat.lt_or_eq_of_le hij with h1 | h1
 ·exact .inr (st_cut h hi hj h1)
 ·subst h1; exact .inl rfl
theorem mem_take_get {L : List Nat} {s x : Nat} (h : x ∈ L.take s) : ∃ i,∃ (hi : i < L.length),i < s ∧ L[i] = x := by
 obtain ⟨i,hi,rfl⟩ := List.mem_iff_getElem.mp h
 rw [List.length_take] at hi
 exact ⟨i,by omega,by omega,by simp⟩
theorem mem_drop_get {L : List Nat} {s x : Nat} (h : x ∈ L.drop s) : ∃ i,∃ (hi : i < L.length),s ≤ i ∧ L[i] = x := by
 obtain ⟨i,hi,rfl⟩ := List.mem_iff_getElem.mp h
 rw [List.length_drop] at hi
 exact ⟨s + i,by omega,by omega,by simp⟩
theorem st_across {key : Nat → Int} {A B : List Nat} (hA : A.Pairwise (ltK key)) (hB : B.Pairwise (ltK key)) {s e : Nat} (h : ∀ (h0 : 0 < s) (h1 : s ≤ A.length) (h2 : e < B.length),ltK key (A[s - 1]'(by omega)) B[e]) (hs : s ≤ A.length) : ∀ x ∈ A.take s,∀ y ∈ B.drop e,ltK key x y := by
 intro x hx y hy
 obtain ⟨i,hi,his,rfl⟩ := mem_take_get hx
 obtain ⟨j,hj,hej,rfl⟩ := mem_drop_get hy
 have h0 := h (by omega) hs (by omega)
 have h1 : A[i] = A[s - 1]'(by omega) ∨ ltK key A[i] (A[s - 1]'(by omega)) := st_le hA hi (by omega) (by omega)
 have h2 : B[e]'(by omega) = B[j] ∨ ltK key (B[e]'(by omega)) B[j] := st_le hB (by omega) hj hej
 rcases h1 with h1 | h1 <;> rcases h2 with h2 | h2
 ·rw [h1,← h2]; exact h0
 ·rw [h1]; exact ltK_tr h0 h2
 ·rw [← h2]; exact ltK_tr h1 h0
 ·exact ltK_tr h1 (ltK_tr h0 h2)
def leK (key : Nat → Int) (i j : Nat) : Bool := decide (key i < key j ∨ (key i = key j ∧ i ≤ j))
def srtK (key : Nat → Int) (L : List Nat) : List Nat := L.mergeSort (leK key)
theorem srtK_of {key : Nat → Int} {L : List Nat} (h : L.Nodup) : StOf key L (srtK key L) := by
 have hp : (srtK key L).Perm L := List.mergeSort_perm L _
 have h1 : (srtK key L).Pairwise (fun a b => leK key a b = true) := List.pairwise_mergeSort (fun a b c h1 h2 => by simp only [leK,decide_eq_true_eq] at *; omega) (fun a b => by simp only [leK,Bool.or_eq_true,decide_eq_true_eq]; omega) L
 have h2 : (srtK key L).Nodup := hp.nodup_iff.mpr h
 refine ⟨?_,hp⟩
 refine List.Pairwise.imp ?_ (h1.and h2)
 intro a b ⟨h3,h4⟩
 simp only [leK,decide_eq_true_eq] at h3
 unfold ltK
 omega
theorem StOf.nodup {key : Nat → Int} {L R : List Nat} (h : StOf key L R) : L.Nodup := by
 refine h.2.nodup_iff.mp (List.Pairwise.imp ?_ h.1)
 intro a b h1 h2
 subst h2
 exact ltK_as h1 h1
theorem srtK_eq {key : Nat → Int} {L R : List Nat} (h : StOf key L R) : R = srtK key L := by
 have h2 := srtK_of (key := key) h.nodup
 exact st_uniq h.1 h2.1 fun x => by rw [h.2.mem_iff,h2.2.mem_iff]
theorem srtK_len {key : Nat → Int} {L : List Nat} : (srtK key L).length = L.length := (List.mergeSort_perm L _).length_eq
theorem srtK_mem {key : Nat → Int} {L : List Nat} {x : Nat} : x ∈ srtK key L ↔ x ∈ L := (List.mergeSort_perm L _).mem_iff
theorem srtK_self {key : Nat → Int} {L : List Nat} (h : L.Pairwise (ltK key)) : srtK key L = L := (srtK_eq ⟨h,List.Perm.refl _⟩).symm
def cmpL (key : Nat → Int) : Nat → List Nat → List Nat
 | _,[] => []
 | x,s :: r => bif key s == key x then cmpL key s r else s :: cmpL key s r
theorem cmpL_spec {key : Nat → Int} : ∀ {r : List Nat} {x : Nat},(x :: r).Pairwise (ltK key) → (cmpL key x r).Pairwise (fun i j => key i < key j) ∧ (∀ y ∈ cmpL key x r,key x < key y) ∧ ∀ y,y ∈ cmpL key x r ↔ y ∈ r ∧ key y ≠ key x ∧ ∀ z ∈ r,key z = key y → y ≤ z
 | [],x,_ => ⟨List.Pairwise.nil,by simp [cmpL],by simp [cmpL]⟩
 | s :: r,x,h => by
  obtain ⟨hx,h2⟩ := List.pairwise_cons.mp h
  obtain ⟨hs,h3⟩ := List.pairwise_cons.mp h2
  obtain ⟨i1,i2,i3⟩ := cmpL_spec h2
  have hxs := hx s (by simp)
  have hkx : ∀ y ∈ r,key s ≤ key y := fun y hy => by have := hs y hy; unfold ltK at this; omega
  unfold cmpL
  cases hq : key s == key x with
  | true =>
   have hq := eq_of_beq hq
   simp only [cond_true]
   refine ⟨i1,fun y hy => by have := i2 y hy; omega,fun y => ?_⟩
   rw [i3 y]
   refine ⟨fun ⟨a,b,c⟩ => ⟨by simp [a],by omega,fun z hz he => ?_⟩,fun ⟨a,b,c⟩ => ⟨?_,by omega,fun z hz he => c z (by simp [hz]) he⟩⟩
   ·rcases List.mem_cons.mp hz with rfl | hz
    ·exact absurd he.symm b
    ·exact c z hz he
   ·rcases List.mem_cons.mp a with rfl | a
    ·exact absurd hq b
    ·exact a
  | false =>
   have hq := ne_of_beq_false hq
   simp only [cond_false]
   have hlt : key x < key s := by unfold ltK at hxs; omega
   refine ⟨List.pairwise_cons.mpr ⟨i2,i1⟩,fun y hy => ?_,fun y => ?_⟩
   ·rcases List.mem_cons.mp hy with rfl | hy
    ·exact hlt
    ·have := i2 y hy; omega
   ·refine ⟨fun hy => ?_,fun ⟨a,b,c⟩ => ?_⟩
    ·rcases List.mem_cons.mp hy with rfl | hy
     ·refine ⟨by simp,hq,fun z hz he => ?_⟩
      rcases List.mem_cons.mp hz with rfl | hz
      ·exact Nat.le_refl _
      ·have := hs z hz; unfold ltK at this; omega
     ·obtain ⟨a,b,c⟩ := (i3 y).mp hy
      have := hkx y a
      refine ⟨by simp [a],by omega,fun z hz he => ?_⟩
      rcases List.mem_cons.mp hz with rfl | hz
      ·exact absurd he.symm b
      ·exact c z hz he
    ·rcases List.mem_cons.mp a with rfl | a
     ·simp
     ·refine List.mem_cons.mpr (.inr ((i3 y).mpr ⟨a,fun he => ?_,fun z hz he => c z (by simp [hz]) he⟩))
      have h4 := c s (by simp) he.symm
      have h5 := hs y a
      unfold ltK at h5; omega
def cmpA (key : Nat → Int) : List Nat → List Nat
 | [] => []
 | x :: r => x :: cmpL key x r
theorem cmpA_spec {key : Nat → Int} {L : List Nat} (h : L.Pairwise (ltK key)) : (cmpA key L).Pairwise (fun i j => key i < key j) ∧ ∀ y,y ∈ cmpA key L ↔ y ∈ L ∧ ∀ z ∈ L,key z = key y → y ≤ z := by
 cases L with
 | nil => exact ⟨List.Pairwise.nil,by simp [cmpA]⟩
 | cons x r =>
  obtain ⟨i1,i2,i3⟩ := cmpL_spec h
  obtain ⟨hx,h2⟩ := List.pairwise_cons.mp h
  unfold cmpA
  refine ⟨List.pairwise_cons.mpr ⟨i2,i1⟩,fun y => ⟨fun hy => ?_,fun ⟨a,c⟩ => ?_⟩⟩
  ·rcases List.mem_cons.mp hy with rfl | hy
   ·refine ⟨by simp,fun z hz he => ?_⟩
    rcases List.mem_cons.mp hz with rfl | hz
    ·exact Nat.le_refl _
    ·have := hx z hz; unfold ltK at this; omega
   ·obtain ⟨a,b,c⟩ := (i3 y).mp hy
    refine ⟨by simp [a],fun z hz he => ?_⟩
    rcases List.mem_cons.mp hz with rfl | hz
    ·exact absurd he.symm b
    ·exact c z hz he
  ·rcases List.mem_cons.mp a with rfl | a
   ·simp
   ·refine List.mem_cons.mpr (.inr ((i3 y).mpr ⟨a,fun he => ?_,fun z hz he => c z (by simp [hz]) he⟩))
    have h4 := c x (by simp) he.symm
    have h5 := hx y a
    unfold ltK at h5; omega
structure Firsts (key : Nat → Int) (n : Nat) (O : List Nat) : Prop where
 asc : O.Pairwise (fun i j => key i < key j)
 mem : ∀ y,y ∈ O ↔ y < n ∧ ∀ z,z < y → key z ≠ key y
theorem Firsts.uniq {key : Nat → Int} {n : Nat} {O M : List Nat} (h : Firsts key n O) (h' : Firsts key n M) : O = M :=
 st_uniq (key := key) (h.asc.imp fun q => .inl q) (h'.asc.imp fun q => .inl q) fun x => by rw [h.mem,h'.mem]
theorem firsts_cmpA {key : Nat → Int} {n : Nat} : Firsts key n (cmpA key (srtK key (List.range n))) := by
 obtain ⟨h1,h2⟩ := cmpA_spec (srtK_of (key := key) (List.nodup_range (n := n))).1
 refine ⟨h1,fun y => ?_⟩
 rw [h2 y]
 simp only [srtK_mem,List.mem_range]
 exact ⟨fun ⟨a,b⟩ => ⟨a,fun z hz he => by have := b z (by omega) he; omega⟩,fun ⟨a,b⟩ => ⟨a,fun z hz he => Nat.le_of_not_lt fun q => b z q he⟩⟩
theorem cmpL_len {key : Nat → Int} : ∀ {r : List Nat} {x : Nat},(cmpL key x r).length ≤ r.length
 | [],_ => Nat.le_refl _
 | s :: r,x => by
  unfold cmpL
  have := cmpL_len (key := key) (r := r) (x := s)
  cases key s == key x <;> simp only [cond_true,cond_false,List.length_cons] <;> omega
theorem firsts_len {key : Nat → Int} {n : Nat} {O : List Nat} (h : Firsts key n O) : O.length ≤ n := by
 rw [h.uniq firsts_cmpA]
 have : (srtK key (List.range n)).length = n := by rw [srtK_len,List.length_range]
 cases hL : srtK key (List.range n) with
 | nil => rw [hL] at this; simp at this; simp [cmpA]
 | cons x r =>
  rw [hL] at this
  have h2 := cmpL_len (key := key) (r := r) (x := x)
  simp only [cmpA,List.length_cons] at this ⊢
  omega
theorem YaO.f_of {β : Type} {k a0 z0} (h : YaO.t k a0 = some z0) (K : Bool → Option β) : YaO.f k a0 K = K z0 := by unfold YaO.f; rw [h]; rfl
def RI8 (B : Nat) (r : List D) : Prop := ∃ (c0 : Int),r = [.int .u8 c0] ∧ (Lit.int .u8 c0).wf = true ∧ True
theorem RI8.open {B : Nat} {r : List D} (h : RI8 B r) : ∃ (c0 : Int),r = [.int .u8 c0] ∧ (Lit.int .u8 c0).wf = true ∧ True := h
theorem RI8.mono {B B' : Nat} (hb : B ≤ B') {r : List D} (h : RI8 B r) : RI8 B' r := by
 obtain ⟨c0,rfl,k0,_⟩ := h
 exact ⟨_,rfl,k0,trivial⟩
theorem RI8.wide {xs : LD} (h : ZB RI8 lim xs) : ZB RI8 2097152 xs := ⟨Nat.le_trans h.1 (by decide),fun r hr => (h.2 r hr).mono (by decide)⟩
theorem RI8.len {B : Nat} {r : List D} (h : RI8 B r) : r.length = 1 := by
 obtain ⟨c0,rfl,_⟩ := h.open
 rfl
theorem RI8.flat {B : Nat} {xs : LD} (h : ∀ r ∈ xs,RI8 B r) : Zcg 1 xs := fun r hr => by
 obtain ⟨c0,rfl,_⟩ := (h r hr).open
 exact ⟨rfl,by simp [Zag]⟩
theorem RI8.wt {B : Nat} {xs : LD} (h : ∀ r ∈ xs,RI8 B r) : Zu xs = 1 * xs.length := wt_flat (R := RI8 B) (fun r h => by obtain ⟨c0,rfl,_⟩ := h; rfl) xs h
theorem RI8.deep {B : Nat} {xs : LD} (h : ∀ r ∈ xs,RI8 B r) : Zc xs = xs.map (·.map C.d) := deep_flat (R := RI8 B) (fun r h => by obtain ⟨c0,rfl,_⟩ := h; rfl) xs h
theorem RI8.gets {B : Nat} {xs : LD} (h : ∀ r ∈ xs,RI8 B r) {v : Int} (h0 : 0 ≤ v) (h1 : v < xs.length) : gR xs v = [.int .u8 (gI xs v 0)] ∧ (Lit.int .u8 (gI xs v 0)).wf = true ∧ True := by
 obtain ⟨c0,e,k0,_⟩ := (h (gR xs v) (gR_mem h0 h1)).open
 unfold gI
 rw [e]
 exact ⟨rfl,k0,trivial⟩
theorem RI8.rows {B : Nat} {xs : LD} (h : ∀ r ∈ xs,RI8 B r) {v : Int} (h0 : 0 ≤ v) (h1 : v < xs.length) {β : Type} (F : List D → Option β) : atRow xs v F = F [.int .u8 (gI xs v 0)] := by
 rw [← (RI8.gets h h0 h1).1]
 exact Zck h0 h1 F
theorem RI8.get {B : Nat} {xs : LD} (h : ZB RI8 B xs) {v : Int} (h0 : 0 ≤ v) (h1 : v < xs.length) : gR xs v = [.int .u8 (gI xs v 0)] ∧ (Lit.int .u8 (gI xs v 0)).wf = true ∧ True := RI8.gets h.2 h0 h1
theorem RI8.row {B : Nat} {xs : LD} (h : ZB RI8 B xs) {v : Int} (h0 : 0 ≤ v) (h1 : v < xs.length) {β : Type} (F : List D → Option β) : atRow xs v F = F [.int .u8 (gI xs v 0)] := RI8.rows h.2 h0 h1 F
theorem Y5.f_of {β : Type} {k a0 z0 z1 z2} (h : Y5.t k a0 = some (z0,z1,z2)) (K : LD → Int → Int → Option β) : Y5.f k a0 K = K z0 z1 z2 := by unfold Y5.f; rw [h]; rfl
theorem YaA.f_of {β : Type} {k a0 a1 z0} (h : YaA.t k a0 a1 = some z0) (K : Int → Option β) : YaA.f k a0 a1 K = K z0 := by unfold YaA.f; rw [h]; rfl
theorem size_ex {b : LD} {k : Nat} {m : Int} (g : ZB RI8 lim b) (hm : 3 ≤ m) : ∃ n,3 ≤ n ∧ n ≤ m ∧ YaA.t k b m = some n := by
 have hl := g.1
 have hlim : lim = 1048576 := rfl
 unfold YaA.t YaA.g
 have hd : 0 ≤ Int.tdiv (b.length : Int) 12 ∧ Int.tdiv (b.length : Int) 12 ≤ b.length := by
  rw [Int.tdiv_eq_ediv_of_nonneg (by omega)]
  omega
 dsimp only
 rw [ZH (by decide),Z9 (x := Int.tdiv (b.length : Int) 12) (by omega) (by omega),Z9 (by omega) (by omega)]
 by_cases h : 3 + Int.tdiv (b.length : Int) 12 > m
 ·simp only [ZY h,cond_true]
  exact ⟨m,hm,by omega,rfl⟩
 ·simp only [ZZ h,cond_false]
  exact ⟨_,by omega,by omega,rfl⟩
theorem Yam.f_of {β : Type} {k aB aA aC z0 z1 z2 z3} (h : Yam.t k aB aA aC = some (z0,z1,z2,z3)) (K : Int → LD → Int → Int → Option β) : Yam.f k aB aA aC K = K z0 z1 z2 z3 := by unfold Yam.f; rw [h]; rfl
theorem Yv.f_of {β : Type} {k aB aA aC a1 z0 z1 z2 z3} (h : Yv.t k aB aA aC a1 = some (z0,z1,z2,z3)) (K : Int → LD → Int → Int → Option β) : Yv.f k aB aA aC a1 K = K z0 z1 z2 z3 := by unfold Yv.f; rw [h]; rfl
structure Cur (b : LD) (i : Int) : Prop where
 rows : ZB RI8 lim b
 ge : 0 ≤ i
 le : i ≤ 1048576
theorem and255 (x : Int) : 0 ≤ IntKind.wrap .i64 ((BitVec.ofInt (IntKind.bits .i64) x &&& BitVec.ofInt (IntKind.bits .i64) 255).toNat) ∧ IntKind.wrap .i64 ((BitVec.ofInt (IntKind.bits .i64) x &&& BitVec.ofInt (IntKind.bits .i64) 255).toNat) ≤ 255 := by
 have h : (BitVec.ofInt (IntKind.bits .i64) x &&& BitVec.ofInt (IntKind.bits .i64) 255).toNat ≤ 255 := by
  rw [BitVec.toNat_and]
  exact Nat.le_trans Nat.and_le_right (by decide)
 rw [Z9 (by omega) (by omega)]
 omega
set_option maxRecDepth 100000 in
theorem byte_ex {b : LD} {i h : Int} {k : Nat} (c : Cur b i) : ∃ x i' h',0 ≤ x ∧ x ≤ 255 ∧ Cur b i' ∧ Yam.t k b i h = some (x,b,i',h') := by
 have hl := c.rows.1
 have hlim : lim = 1048576 := rfl
 have h0 := c.ge
 have h1 := c.le
 unfold Yam.t Yam.g; simp only [atR,rdQ,Q.ask]
 simp only [ZH (show (0 : Int) ≤ 33 by decide),ZH (show (0 : Int) ≤ 47 by decide)]
 by_cases hc : i < (b.length : Int)
 ·simp only [ZY hc,cond_true,atR,rdQ,Q.ask]
  rw [RI8.row c.rows h0 hc]
  simp only [Z4,Z5,Zan]
  exact ⟨_,_,_,(and255 _).1,(and255 _).2,⟨c.rows,by rw [Z9 (by omega) (by omega)]; omega,by rw [Z9 (by omega) (by omega)]; omega⟩,rfl⟩
 ·simp only [ZZ hc,cond_false]
  exact ⟨_,_,_,(and255 _).1,(and255 _).2,c,rfl⟩
theorem tmod_in {x n : Int} (h0 : 0 ≤ x) (hn : 0 < n) : 0 ≤ Int.tmod x n ∧ Int.tmod x n < n := ⟨Int.tmod_nonneg _ h0,Int.tmod_lt_of_pos _ hn⟩
theorem YaW {b : LD} {i h n : Int} {k : Nat} (c : Cur b i) : ∃ x i' h',0 ≤ x ∧ (0 < n → x < n) ∧ (n ≤ 0 → x = 0) ∧ Cur b i' ∧ Yv.t k b i h n = some (x,b,i',h') := by
 unfold Yv.t Yv.g
 by_cases hn : n ≤ 0
 ·simp only [ZY hn,cond_true]
  exact ⟨_,_,_,Int.le_refl 0,fun _ => by omega,fun _ => rfl,c,rfl⟩
 ·simp only [ZZ hn,cond_false]
  have hn0 : 0 < n := by omega
  by_cases h2 : n ≤ 256
  ·simp only [ZY h2,cond_true]
   obtain ⟨x,i',h',x0,x1,c',e⟩ := byte_ex (k := k) (h := h) c
   rw [Yam.f_of e,ZH (by omega)]
   exact ⟨_,_,_,(tmod_in x0 hn0).1,fun _ => (tmod_in x0 hn0).2,fun _ => by omega,c',rfl⟩
  ·simp only [ZZ h2,cond_false]
   obtain ⟨x,i1,h1,x0,x1,c1,e1⟩ := byte_ex (k := k) (h := h) c
   obtain ⟨y,i2,h2,y0,y1,c2,e2⟩ := byte_ex (k := k) (h := h1) c1
   obtain ⟨z,i3,h3,z0,z1,c3,e3⟩ := byte_ex (k := k) (h := h2) c2
   rw [Yam.f_of e1,Yam.f_of e2,Yam.f_of e3,ZH (by omega)]
   have hw : 0 ≤ IntKind.wrap .i64 ((IntKind.wrap .i64 ((IntKind.wrap .i64 (x * 65536)) + (IntKind.wrap .i64 (y * 256)))) + z) := by
    rw [Z9 (x := x * 65536) (by omega) (by omega),Z9 (x := y * 256) (by omega) (by omega),Z9 (x := x * 65536 + y * 256) (by omega) (by omega),Z9 (by omega) (by omega)]
    omega
   exact ⟨_,_,_,(tmod_in hw hn0).1,fun _ => (tmod_in hw hn0).2,fun _ => by omega,c3,rfl⟩
set_option maxRecDepth 100000 in
theorem new_ex {b : LD} {k : Nat} (g : ZB RI8 lim b) (hk : Fuel k) : ∃ h',Y5.t k b = some (b,0,h') := by
 have hl := g.1
 have hlim : lim = 1048576 := rfl
 have hb : big = 2 ^ 64 := rfl
 have key : ∀ n : Nat,∀ (v : Int) (j : Int),0 ≤ j → j ≤ b.length → (b.length : Int) - j ≤ n → ∀ k',n < k' → ∃ h',ZA (Y5.l0 k b (fun z0 z1 z2 => some (z0,z1,z2))) k' (v,j) = some (b,0,h') := by
  intro n
  induction n with
  | zero =>
   intro v j j0 j1 hn k' hk'
   rw [iter_step (by omega)]
   simp only [Y5.l0,atR,rdQ,Q.ask,ZZ (show ¬ j < (b.length : Int) by omega),cond_false]
   exact ⟨_,rfl⟩
  | succ n ih =>
   intro v j j0 j1 hn k' hk'
   rw [iter_step (by omega)]
   simp only [Y5.l0,atR,rdQ,Q.ask,atR,rdQ,Q.ask]
   by_cases h1 : j < (b.length : Int)
   ·by_cases h2 : j < 4000
    ·simp only [ZY h1,ZY h2,cond_true]
     rw [RI8.row g j0 h1]
     simp only [Z4,Z5,Zan]
     rw [Z9 (x := j + 1) (by omega) (by omega)]
     exact ih _ _ (by omega) (by omega) (by omega) _ (by omega)
    ·simp only [ZY h1,ZZ h2,cond_true,cond_false]
     exact ⟨_,rfl⟩
   ·simp only [ZZ h1,cond_false]
    exact ⟨_,rfl⟩
 unfold Y5.t Y5.g
 exact key b.length _ 0 (by omega) (by omega) (by omega) k (by unfold Fuel at hk; omega)
theorem Cur.new {b : LD} (g : ZB RI8 lim b) : Cur b 0 := ⟨g,by omega,by omega⟩
theorem Yak.f_of {β : Type} {k aB aA aC a1 z0 z1 z2 z3} (h : Yak.t k aB aA aC a1 = some (z0,z1,z2,z3)) (K : BA → LD → Int → Int → Option β) : Yak.f k aB aA aC a1 K = K z0 z1 z2 z3 := by unfold Yak.f; rw [h]; rfl
theorem YM.f_of {β : Type} {k a0 a1 a2 z0} (h : YM.t k a0 a1 a2 = some z0) (K : Int → Option β) : YM.f k a0 a1 a2 K = K z0 := by unfold YM.f; rw [h]; rfl
def RS (B : Nat) (r : List D) : Prop := ∃ (c0 : BA),r = [.str c0] ∧ c0.size ≤ B ∧ True
theorem RS.open {B : Nat} {r : List D} (h : RS B r) : ∃ (c0 : BA),r = [.str c0] ∧ c0.size ≤ B ∧ True := h
theorem RS.mono {B B' : Nat} (hb : B ≤ B') {r : List D} (h : RS B r) : RS B' r := by
 obtain ⟨c0,rfl,k0,_⟩ := h
 exact ⟨_,rfl,(Nat.le_trans k0 hb),trivial⟩
theorem RS.wide {xs : LD} (h : ZB RS lim xs) : ZB RS 2097152 xs := ⟨Nat.le_trans h.1 (by decide),fun r hr => (h.2 r hr).mono (by decide)⟩
theorem RS.len {B : Nat} {r : List D} (h : RS B r) : r.length = 1 := by
 obtain ⟨c0,rfl,_⟩ := h.open
 rfl
theorem RS.flat {B : Nat} {xs : LD} (h : ∀ r ∈ xs,RS B r) : Zcg 1 xs := fun r hr => by
 obtain ⟨c0,rfl,_⟩ := (h r hr).open
 exact ⟨rfl,by simp [Zag]⟩
theorem RS.wt {B : Nat} {xs : LD} (h : ∀ r ∈ xs,RS B r) : Zu xs = 1 * xs.length := wt_flat (R := RS B) (fun r h => by obtain ⟨c0,rfl,_⟩ := h; rfl) xs h
theorem RS.deep {B : Nat} {xs : LD} (h : ∀ r ∈ xs,RS B r) : Zc xs = xs.map (·.map C.d) := deep_flat (R := RS B) (fun r h => by obtain ⟨c0,rfl,_⟩ := h; rfl) xs h
theorem RS.gets {B : Nat} {xs : LD} (h : ∀ r ∈ xs,RS B r) {v : Int} (h0 : 0 ≤ v) (h1 : v < xs.length) : gR xs v = [.str (gS xs v 0)] ∧ (gS xs v 0).size ≤ B ∧ True := by
 obtain ⟨c0,e,k0,_⟩ := (h (gR xs v) (gR_mem h0 h1)).open
 unfold gS
 rw [e]
 exact ⟨rfl,k0,trivial⟩
theorem RS.rows {B : Nat} {xs : LD} (h : ∀ r ∈ xs,RS B r) {v : Int} (h0 : 0 ≤ v) (h1 : v < xs.length) {β : Type} (F : List D → Option β) : atRow xs v F = F [.str (gS xs v 0)] := by
 rw [← (RS.gets h h0 h1).1]
 exact Zck h0 h1 F
theorem RS.get {B : Nat} {xs : LD} (h : ZB RS B xs) {v : Int} (h0 : 0 ≤ v) (h1 : v < xs.length) : gR xs v = [.str (gS xs v 0)] ∧ (gS xs v 0).size ≤ B ∧ True := RS.gets h.2 h0 h1
theorem RS.row {B : Nat} {xs : LD} (h : ZB RS B xs) {v : Int} (h0 : 0 ≤ v) (h1 : v < xs.length) {β : Type} (F : List D → Option β) : atRow xs v F = F [.str (gS xs v 0)] := RS.rows h.2 h0 h1 F
inductive Yan (B : Nat) : Nat → List D → Prop
 | mk {h : Nat} (c0 : Int) (c1 : BA) (c2 : Int) (c3 : LD) (c4 : LD) (k0 : (Lit.int .i64 c0).wf = true) (k1 : c1.size ≤ B) (k2 : (Lit.int .i64 c2).wf = true) (k3 : ZB RS B c3) (k4 : c4.length ≤ B) (m4 : ∀ r ∈ c4,Yan B h r) : Yan B (h + 1) [.int .i64 c0,.str c1,.int .i64 c2,.sl c3,.sl c4]
def Yu (B : Nat) (r : List D) : Prop := ∃ h,(B ≤ 1099511627776 → h ≤ 1099511627776) ∧ Yan B h r
theorem Yu.open {B : Nat} {r : List D} (h : Yu B r) : ∃ (c0 : Int) (c1 : BA) (c2 : Int) (c3 : LD) (c4 : LD),r = [.int .i64 c0,.str c1,.int .i64 c2,.sl c3,.sl c4] ∧ (Lit.int .i64 c0).wf = true ∧ c1.size ≤ B ∧ (Lit.int .i64 c2).wf = true ∧ ZB RS B c3 ∧ ZB Yu B c4 ∧ True := by
 obtain ⟨h,hh,h1⟩ := h
 cases h1 with
 | mk c0 c1 c2 c3 c4 k0 k1 k2 k3 k4 m4 => exact ⟨c0,c1,c2,c3,c4,rfl,k0,k1,k2,k3,⟨k4,fun r hr => ⟨_,fun hb => by have := hh hb; omega,m4 r hr⟩⟩,trivial⟩
theorem Yan.up {B B' : Nat} (hb : B ≤ B') : ∀ {h : Nat} {r : List D},Yan B h r → Yan B' h r
 | _ + 1,_,.mk c0 c1 c2 c3 c4 k0 k1 k2 k3 k4 m4 => .mk c0 c1 c2 c3 c4 k0 (Nat.le_trans k1 hb) k2 ⟨Nat.le_trans k3.1 hb,fun r hr => (k3.2 r hr).mono hb⟩ (Nat.le_trans k4 hb) (fun r hr => Yan.up hb (m4 r hr))
theorem Yu.mono {B B' : Nat} (hb : B ≤ B') {r : List D} (h : Yu B r) : Yu B' r := by
 obtain ⟨h,hh,h1⟩ := h
 exact ⟨h,fun h2 => hh (Nat.le_trans hb h2),h1.up hb⟩
theorem Yan.mono {B : Nat} : ∀ {h h' : Nat} {r : List D},h ≤ h' → Yan B h r → Yan B h' r
 | _,0,_,hl,.mk .. => by omega
 | _ + 1,_ + 1,_,hl,.mk c0 c1 c2 c3 c4 k0 k1 k2 k3 k4 m4 => .mk c0 c1 c2 c3 c4 k0 k1 k2 k3 k4 (fun r hr => Yan.mono (by omega) (m4 r hr))
theorem Yu.wide {xs : LD} (h : ZB Yu lim xs) : ZB Yu 2097152 xs := ⟨Nat.le_trans h.1 (by decide),fun r hr => (h.2 r hr).mono (by decide)⟩
theorem Yu.len {B : Nat} {r : List D} (h : Yu B r) : r.length = 5 := by
 obtain ⟨c0,c1,c2,c3,c4,rfl,_⟩ := h.open
 rfl
theorem Yu.gets {B : Nat} {xs : LD} (h : ∀ r ∈ xs,Yu B r) {v : Int} (h0 : 0 ≤ v) (h1 : v < xs.length) : gR xs v = [.int .i64 (gI xs v 0),.str (gS xs v 1),.int .i64 (gI xs v 2),.sl (gL xs v 3),.sl (gL xs v 4)] ∧ (Lit.int .i64 (gI xs v 0)).wf = true ∧ (gS xs v 1).size ≤ B ∧ (Lit.int .i64 (gI xs v 2)).wf = true ∧ ZB RS B (gL xs v 3) ∧ ZB Yu B (gL xs v 4) ∧ True := by
 obtain ⟨c0,c1,c2,c3,c4,e,k0,k1,k2,k3,k4,_⟩ := (h (gR xs v) (gR_mem h0 h1)).open
 unfold gI gL gS
 rw [e]
 exact ⟨rfl,k0,k1,k2,k3,k4,trivial⟩
theorem Yu.rows {B : Nat} {xs : LD} (h : ∀ r ∈ xs,Yu B r) {v : Int} (h0 : 0 ≤ v) (h1 : v < xs.length) {β : Type} (F : List D → Option β) : atRow xs v F = F [.int .i64 (gI xs v 0),.str (gS xs v 1),.int .i64 (gI xs v 2),.sl (gL xs v 3),.sl (gL xs v 4)] := by
 rw [← (Yu.gets h h0 h1).1]
 exact Zck h0 h1 F
theorem Yu.get {B : Nat} {xs : LD} (h : ZB Yu B xs) {v : Int} (h0 : 0 ≤ v) (h1 : v < xs.length) : gR xs v = [.int .i64 (gI xs v 0),.str (gS xs v 1),.int .i64 (gI xs v 2),.sl (gL xs v 3),.sl (gL xs v 4)] ∧ (Lit.int .i64 (gI xs v 0)).wf = true ∧ (gS xs v 1).size ≤ B ∧ (Lit.int .i64 (gI xs v 2)).wf = true ∧ ZB RS B (gL xs v 3) ∧ ZB Yu B (gL xs v 4) ∧ True := Yu.gets h.2 h0 h1
theorem Yu.row {B : Nat} {xs : LD} (h : ZB Yu B xs) {v : Int} (h0 : 0 ≤ v) (h1 : v < xs.length) {β : Type} (F : List D → Option β) : atRow xs v F = F [.int .i64 (gI xs v 0),.str (gS xs v 1),.int .i64 (gI xs v 2),.sl (gL xs v 3),.sl (gL xs v 4)] := Yu.rows h.2 h0 h1 F
def Ya (B : Nat) (r : List D) : Prop := ∃ (c0 : Int) (c1 : BA) (c2 : Int) (c3 : Int) (c4 : Int) (c5 : Bool) (c6 : LD) (c7 : Int) (c8 : BA) (c9 : Int) (c10 : LD) (c11 : LD) (c12 : Int) (c13 : BA) (c14 : Int) (c15 : LD) (c16 : LD),r = [.int .i64 c0,.str c1,.int .i64 c2,.int .i64 c3,.int .i64 c4,.bool c5,.sl c6,.int .i64 c7,.str c8,.int .i64 c9,.sl c10,.sl c11,.int .i64 c12,.str c13,.int .i64 c14,.sl c15,.sl c16] ∧ (Lit.int .i64 c0).wf = true ∧ c1.size ≤ B ∧ (Lit.int .i64 c2).wf = true ∧ (Lit.int .i64 c3).wf = true ∧ (Lit.int .i64 c4).wf = true ∧ ZB RS B c6 ∧ (Lit.int .i64 c7).wf = true ∧ c8.size ≤ B ∧ (Lit.int .i64 c9).wf = true ∧ ZB RS B c10 ∧ ZB Yu B c11 ∧ (Lit.int .i64 c12).wf = true ∧ c13.size ≤ B ∧ (Lit.int .i64 c14).wf = true ∧ ZB RS B c15 ∧ ZB Yu B c16 ∧ True
theorem Ya.open {B : Nat} {r : List D} (h : Ya B r) : ∃ (c0 : Int) (c1 : BA) (c2 : Int) (c3 : Int) (c4 : Int) (c5 : Bool) (c6 : LD) (c7 : Int) (c8 : BA) (c9 : Int) (c10 : LD) (c11 : LD) (c12 : Int) (c13 : BA) (c14 : Int) (c15 : LD) (c16 : LD),r = [.int .i64 c0,.str c1,.int .i64 c2,.int .i64 c3,.int .i64 c4,.bool c5,.sl c6,.int .i64 c7,.str c8,.int .i64 c9,.sl c10,.sl c11,.int .i64 c12,.str c13,.int .i64 c14,.sl c15,.sl c16] ∧ (Lit.int .i64 c0).wf = true ∧ c1.size ≤ B ∧ (Lit.int .i64 c2).wf = true ∧ (Lit.int .i64 c3).wf = true ∧ (Lit.int .i64 c4).wf = true ∧ ZB RS B c6 ∧ (Lit.int .i64 c7).wf = true ∧ c8.size ≤ B ∧ (Lit.int .i64 c9).wf = true ∧ ZB RS B c10 ∧ ZB Yu B c11 ∧ (Lit.int .i64 c12).wf = true ∧ c13.size ≤ B ∧ (Lit.int .i64 c14).wf = true ∧ ZB RS B c15 ∧ ZB Yu B c16 ∧ True := h
theorem Ya.mono {B B' : Nat} (hb : B ≤ B') {r : List D} (h : Ya B r) : Ya B' r := by
 obtain ⟨c0,c1,c2,c3,c4,c5,c6,c7,c8,c9,c10,c11,c12,c13,c14,c15,c16,rfl,k0,k1,k2,k3,k4,k6,k7,k8,k9,k10,k11,k12,k13,k14,k15,k16,_⟩ := h
 exact ⟨_,_,_,_,_,_,_,_,_,_,_,_,_,_,_,_,_,rfl,k0,(Nat.le_trans k1 hb),k2,k3,k4,⟨Nat.le_trans k6.1 hb,fun r hr => (k6.2 r hr).mono hb⟩,k7,(Nat.le_trans k8 hb),k9,⟨Nat.le_trans k10.1 hb,fun r hr => (k10.2 r hr).mono hb⟩,⟨Nat.le_trans k11.1 hb,fun r hr => (k11.2 r hr).mono hb⟩,k12,(Nat.le_trans k13 hb),k14,⟨Nat.le_trans k15.1 hb,fun r hr => (k15.2 r hr).mono hb⟩,⟨Nat.le_trans k16.1 hb,fun r hr => (k16.2 r hr).mono hb⟩,trivial⟩
theorem Ya.wide {xs : LD} (h : ZB Ya lim xs) : ZB Ya 2097152 xs := ⟨Nat.le_trans h.1 (by decide),fun r hr => (h.2 r hr).mono (by decide)⟩
theorem Ya.len {B : Nat} {r : List D} (h : Ya B r) : r.length = 17 := by
 obtain ⟨c0,c1,c2,c3,c4,c5,c6,c7,c8,c9,c10,c11,c12,c13,c14,c15,c16,rfl,_⟩ := h.open
 rfl
theorem Ya.gets {B : Nat} {xs : LD} (h : ∀ r ∈ xs,Ya B r) {v : Int} (h0 : 0 ≤ v) (h1 : v < xs.length) : gR xs v = [.int .i64 (gI xs v 0),.str (gS xs v 1),.int .i64 (gI xs v 2),.int .i64 (gI xs v 3),.int .i64 (gI xs v 4),.bool (gB xs v 5),.sl (gL xs v 6),.int .i64 (gI xs v 7),.str (gS xs v 8),.int .i64 (gI xs v 9),.sl (gL xs v 10),.sl (gL xs v 11),.int .i64 (gI xs v 12),.str (gS xs v 13),.int .i64 (gI xs v 14),.sl (gL xs v 15),.sl (gL xs v 16)] ∧ (Lit.int .i64 (gI xs v 0)).wf = true ∧ (gS xs v 1).size ≤ B ∧ (Lit.int .i64 (gI xs v 2)).wf = true ∧ (Lit.int .i64 (gI xs v 3)).wf = true ∧ (Lit.int .i64 (gI xs v 4)).wf = true ∧ ZB RS B (gL xs v 6) ∧ (Lit.int .i64 (gI xs v 7)).wf = true ∧ (gS xs v 8).size ≤ B ∧ (Lit.int .i64 (gI xs v 9)).wf = true ∧ ZB RS B (gL xs v 10) ∧ ZB Yu B (gL xs v 11) ∧ (Lit.int .i64 (gI xs v 12)).wf = true ∧ (gS xs v 13).size ≤ B ∧ (Lit.int .i64 (gI xs v 14)).wf = true ∧ ZB RS B (gL xs v 15) ∧ ZB Yu B (gL xs v 16) ∧ True := by
 obtain ⟨c0,c1,c2,c3,c4,c5,c6,c7,c8,c9,c10,c11,c12,c13,c14,c15,c16,e,k0,k1,k2,k3,k4,k6,k7,k8,k9,k10,k11,k12,k13,k14,k15,k16,_⟩ := (h (gR xs v) (gR_mem h0 h1)).open
 unfold gB gI gL gS
 rw [e]
 exact ⟨rfl,k0,k1,k2,k3,k4,k6,k7,k8,k9,k10,k11,k12,k13,k14,k15,k16,trivial⟩
theorem Ya.rows {B : Nat} {xs : LD} (h : ∀ r ∈ xs,Ya B r) {v : Int} (h0 : 0 ≤ v) (h1 : v < xs.length) {β : Type} (F : List D → Option β) : atRow xs v F = F [.int .i64 (gI xs v 0),.str (gS xs v 1),.int .i64 (gI xs v 2),.int .i64 (gI xs v 3),.int .i64 (gI xs v 4),.bool (gB xs v 5),.sl (gL xs v 6),.int .i64 (gI xs v 7),.str (gS xs v 8),.int .i64 (gI xs v 9),.sl (gL xs v 10),.sl (gL xs v 11),.int .i64 (gI xs v 12),.str (gS xs v 13),.int .i64 (gI xs v 14),.sl (gL xs v 15),.sl (gL xs v 16)] := by
 rw [← (Ya.gets h h0 h1).1]
 exact Zck h0 h1 F
theorem Ya.get {B : Nat} {xs : LD} (h : ZB Ya B xs) {v : Int} (h0 : 0 ≤ v) (h1 : v < xs.length) : gR xs v = [.int .i64 (gI xs v 0),.str (gS xs v 1),.int .i64 (gI xs v 2),.int .i64 (gI xs v 3),.int .i64 (gI xs v 4),.bool (gB xs v 5),.sl (gL xs v 6),.int .i64 (gI xs v 7),.str (gS xs v 8),.int .i64 (gI xs v 9),.sl (gL xs v 10),.sl (gL xs v 11),.int .i64 (gI xs v 12),.str (gS xs v 13),.int .i64 (gI xs v 14),.sl (gL xs v 15),.sl (gL xs v 16)] ∧ (Lit.int .i64 (gI xs v 0)).wf = true ∧ (gS xs v 1).size ≤ B ∧ (Lit.int .i64 (gI xs v 2)).wf = true ∧ (Lit.int .i64 (gI xs v 3)).wf = true ∧ (Lit.int .i64 (gI xs v 4)).wf = true ∧ ZB RS B (gL xs v 6) ∧ (Lit.int .i64 (gI xs v 7)).wf = true ∧ (gS xs v 8).size ≤ B ∧ (Lit.int .i64 (gI xs v 9)).wf = true ∧ ZB RS B (gL xs v 10) ∧ ZB Yu B (gL xs v 11) ∧ (Lit.int .i64 (gI xs v 12)).wf = true ∧ (gS xs v 13).size ≤ B ∧ (Lit.int .i64 (gI xs v 14)).wf = true ∧ ZB RS B (gL xs v 15) ∧ ZB Yu B (gL xs v 16) ∧ True := Ya.gets h.2 h0 h1
theorem Ya.row {B : Nat} {xs : LD} (h : ZB Ya B xs) {v : Int} (h0 : 0 ≤ v) (h1 : v < xs.length) {β : Type} (F : List D → Option β) : atRow xs v F = F [.int .i64 (gI xs v 0),.str (gS xs v 1),.int .i64 (gI xs v 2),.int .i64 (gI xs v 3),.int .i64 (gI xs v 4),.bool (gB xs v 5),.sl (gL xs v 6),.int .i64 (gI xs v 7),.str (gS xs v 8),.int .i64 (gI xs v 9),.sl (gL xs v 10),.sl (gL xs v 11),.int .i64 (gI xs v 12),.str (gS xs v 13),.int .i64 (gI xs v 14),.sl (gL xs v 15),.sl (gL xs v 16)] := Ya.rows h.2 h0 h1 F
set_option maxRecDepth 100000 in
theorem str_ex {b xs : LD} {i h : Int} {k : Nat} (c : Cur b i) (g : ∀ r ∈ xs,RS lim r) (hx : 0 < xs.length) : ∃ j i' h',0 ≤ j ∧ j < (xs.length : Int) ∧ Cur b i' ∧ Yak.t k b i h xs = some (gS xs j 0,b,i',h') := by
 obtain ⟨x,i',h',x0,x1,-,c',e⟩ := YaW (k := k) (h := h) (n := (xs.length : Int)) c
 unfold Yak.t Yak.g; simp only [atR,rdQ,Q.ask]
 rw [Yv.f_of e,RS.rows g x0 (x1 (by omega))]
 simp only [Z4,ZaQ,Zan]
 exact ⟨x,_,_,x0,x1 (by omega),c',rfl⟩
theorem Yw.f_of {β : Type} {k aB aA aC aD aK z0 z1 z2 z3 z4} (h : Yw.t k aB aA aC aD aK = some (z0,z1,z2,z3,z4)) (K : Int → BA → Int → LC → LC → Option β) : Yw.f k aB aA aC aD aK K = K z0 z1 z2 z3 z4 := by unfold Yw.f Yw.w; rw [h]; rfl
theorem Y9.f_of {β : Type} {k : Nat} {aB : Int} {aA : BA} {aC aD aK : Int} {bY : Bool} {bA : LD} {bH : Int} {bB : BA} {bI : Int} {bC bD : LD} {bJ : Int} {bE : BA} {bK : Int} {bF bG : LD} {z0 : Int} {z1 : BA} {z2 z3 z4 : Int} {z5 : Bool} {z6 : LC} {z7 : Int} {z8 : BA} {z9 : Int} {z10 z11 : LC} {z12 : Int} {z13 : BA} {z14 : Int} {z15 z16 : LC} (h : Y9.t k aB aA aC aD aK bY bA bH bB bI bC bD bJ bE bK bF bG = some (z0,z1,z2,z3,z4,z5,z6,z7,z8,z9,z10,z11,z12,z13,z14,z15,z16)) (K : Int → BA → Int → Int → Int → Bool → LC → Int → BA → Int → LC → LC → Int → BA → Int → LC → LC → Option β) : Y9.f k aB aA aC aD aK bY bA bH bB bI bC bD bJ bE bK bF bG K = K z0 z1 z2 z3 z4 z5 z6 z7 z8 z9 z10 z11 z12 z13 z14 z15 z16 := by
 unfold Y9.f
 rw [h]
def Yb (B : Nat) (r : List D) : Prop := ∃ (c0 : Int) (c1 : Bool) (c2 : Int) (c3 : BA) (c4 : Int) (c5 : Int) (c6 : Int) (c7 : Bool) (c8 : LD) (c9 : Int) (c10 : BA) (c11 : Int) (c12 : LD) (c13 : LD) (c14 : Int) (c15 : BA) (c16 : Int) (c17 : LD) (c18 : LD),r = [.int .i64 c0,.bool c1,.int .i64 c2,.str c3,.int .i64 c4,.int .i64 c5,.int .i64 c6,.bool c7,.sl c8,.int .i64 c9,.str c10,.int .i64 c11,.sl c12,.sl c13,.int .i64 c14,.str c15,.int .i64 c16,.sl c17,.sl c18] ∧ (Lit.int .i64 c0).wf = true ∧ (Lit.int .i64 c2).wf = true ∧ c3.size ≤ B ∧ (Lit.int .i64 c4).wf = true ∧ (Lit.int .i64 c5).wf = true ∧ (Lit.int .i64 c6).wf = true ∧ ZB RS B c8 ∧ (Lit.int .i64 c9).wf = true ∧ c10.size ≤ B ∧ (Lit.int .i64 c11).wf = true ∧ ZB RS B c12 ∧ ZB Yu B c13 ∧ (Lit.int .i64 c14).wf = true ∧ c15.size ≤ B ∧ (Lit.int .i64 c16).wf = true ∧ ZB RS B c17 ∧ ZB Yu B c18 ∧ True
theorem Yb.open {B : Nat} {r : List D} (h : Yb B r) : ∃ (c0 : Int) (c1 : Bool) (c2 : Int) (c3 : BA) (c4 : Int) (c5 : Int) (c6 : Int) (c7 : Bool) (c8 : LD) (c9 : Int) (c10 : BA) (c11 : Int) (c12 : LD) (c13 : LD) (c14 : Int) (c15 : BA) (c16 : Int) (c17 : LD) (c18 : LD),r = [.int .i64 c0,.bool c1,.int .i64 c2,.str c3,.int .i64 c4,.int .i64 c5,.int .i64 c6,.bool c7,.sl c8,.int .i64 c9,.str c10,.int .i64 c11,.sl c12,.sl c13,.int .i64 c14,.str c15,.int .i64 c16,.sl c17,.sl c18] ∧ (Lit.int .i64 c0).wf = true ∧ (Lit.int .i64 c2).wf = true ∧ c3.size ≤ B ∧ (Lit.int .i64 c4).wf = true ∧ (Lit.int .i64 c5).wf = true ∧ (Lit.int .i64 c6).wf = true ∧ ZB RS B c8 ∧ (Lit.int .i64 c9).wf = true ∧ c10.size ≤ B ∧ (Lit.int .i64 c11).wf = true ∧ ZB RS B c12 ∧ ZB Yu B c13 ∧ (Lit.int .i64 c14).wf = true ∧ c15.size ≤ B ∧ (Lit.int .i64 c16).wf = true ∧ ZB RS B c17 ∧ ZB Yu B c18 ∧ True := h
theorem Yb.mono {B B' : Nat} (hb : B ≤ B') {r : List D} (h : Yb B r) : Yb B' r := by
 obtain ⟨c0,c1,c2,c3,c4,c5,c6,c7,c8,c9,c10,c11,c12,c13,c14,c15,c16,c17,c18,rfl,k0,k2,k3,k4,k5,k6,k8,k9,k10,k11,k12,k13,k14,k15,k16,k17,k18,_⟩ := h
 exact ⟨_,_,_,_,_,_,_,_,_,_,_,_,_,_,_,_,_,_,_,rfl,k0,k2,(Nat.le_trans k3 hb),k4,k5,k6,⟨Nat.le_trans k8.1 hb,fun r hr => (k8.2 r hr).mono hb⟩,k9,(Nat.le_trans k10 hb),k11,⟨Nat.le_trans k12.1 hb,fun r hr => (k12.2 r hr).mono hb⟩,⟨Nat.le_trans k13.1 hb,fun r hr => (k13.2 r hr).mono hb⟩,k14,(Nat.le_trans k15 hb),k16,⟨Nat.le_trans k17.1 hb,fun r hr => (k17.2 r hr).mono hb⟩,⟨Nat.le_trans k18.1 hb,fun r hr => (k18.2 r hr).mono hb⟩,trivial⟩
theorem Yb.wide {xs : LD} (h : ZB Yb lim xs) : ZB Yb 2097152 xs := ⟨Nat.le_trans h.1 (by decide),fun r hr => (h.2 r hr).mono (by decide)⟩
theorem Yb.len {B : Nat} {r : List D} (h : Yb B r) : r.length = 19 := by
 obtain ⟨c0,c1,c2,c3,c4,c5,c6,c7,c8,c9,c10,c11,c12,c13,c14,c15,c16,c17,c18,rfl,_⟩ := h.open
 rfl
theorem Yb.gets {B : Nat} {xs : LD} (h : ∀ r ∈ xs,Yb B r) {v : Int} (h0 : 0 ≤ v) (h1 : v < xs.length) : gR xs v = [.int .i64 (gI xs v 0),.bool (gB xs v 1),.int .i64 (gI xs v 2),.str (gS xs v 3),.int .i64 (gI xs v 4),.int .i64 (gI xs v 5),.int .i64 (gI xs v 6),.bool (gB xs v 7),.sl (gL xs v 8),.int .i64 (gI xs v 9),.str (gS xs v 10),.int .i64 (gI xs v 11),.sl (gL xs v 12),.sl (gL xs v 13),.int .i64 (gI xs v 14),.str (gS xs v 15),.int .i64 (gI xs v 16),.sl (gL xs v 17),.sl (gL xs v 18)] ∧ (Lit.int .i64 (gI xs v 0)).wf = true ∧ (Lit.int .i64 (gI xs v 2)).wf = true ∧ (gS xs v 3).size ≤ B ∧ (Lit.int .i64 (gI xs v 4)).wf = true ∧ (Lit.int .i64 (gI xs v 5)).wf = true ∧ (Lit.int .i64 (gI xs v 6)).wf = true ∧ ZB RS B (gL xs v 8) ∧ (Lit.int .i64 (gI xs v 9)).wf = true ∧ (gS xs v 10).size ≤ B ∧ (Lit.int .i64 (gI xs v 11)).wf = true ∧ ZB RS B (gL xs v 12) ∧ ZB Yu B (gL xs v 13) ∧ (Lit.int .i64 (gI xs v 14)).wf = true ∧ (gS xs v 15).size ≤ B ∧ (Lit.int .i64 (gI xs v 16)).wf = true ∧ ZB RS B (gL xs v 17) ∧ ZB Yu B (gL xs v 18) ∧ True := by
 obtain ⟨c0,c1,c2,c3,c4,c5,c6,c7,c8,c9,c10,c11,c12,c13,c14,c15,c16,c17,c18,e,k0,k2,k3,k4,k5,k6,k8,k9,k10,k11,k12,k13,k14,k15,k16,k17,k18,_⟩ := (h (gR xs v) (gR_mem h0 h1)).open
 unfold gB gI gL gS
 rw [e]
 exact ⟨rfl,k0,k2,k3,k4,k5,k6,k8,k9,k10,k11,k12,k13,k14,k15,k16,k17,k18,trivial⟩
theorem Yb.rows {B : Nat} {xs : LD} (h : ∀ r ∈ xs,Yb B r) {v : Int} (h0 : 0 ≤ v) (h1 : v < xs.length) {β : Type} (F : List D → Option β) : atRow xs v F = F [.int .i64 (gI xs v 0),.bool (gB xs v 1),.int .i64 (gI xs v 2),.str (gS xs v 3),.int .i64 (gI xs v 4),.int .i64 (gI xs v 5),.int .i64 (gI xs v 6),.bool (gB xs v 7),.sl (gL xs v 8),.int .i64 (gI xs v 9),.str (gS xs v 10),.int .i64 (gI xs v 11),.sl (gL xs v 12),.sl (gL xs v 13),.int .i64 (gI xs v 14),.str (gS xs v 15),.int .i64 (gI xs v 16),.sl (gL xs v 17),.sl (gL xs v 18)] := by
 rw [← (Yb.gets h h0 h1).1]
 exact Zck h0 h1 F
theorem Yb.get {B : Nat} {xs : LD} (h : ZB Yb B xs) {v : Int} (h0 : 0 ≤ v) (h1 : v < xs.length) : gR xs v = [.int .i64 (gI xs v 0),.bool (gB xs v 1),.int .i64 (gI xs v 2),.str (gS xs v 3),.int .i64 (gI xs v 4),.int .i64 (gI xs v 5),.int .i64 (gI xs v 6),.bool (gB xs v 7),.sl (gL xs v 8),.int .i64 (gI xs v 9),.str (gS xs v 10),.int .i64 (gI xs v 11),.sl (gL xs v 12),.sl (gL xs v 13),.int .i64 (gI xs v 14),.str (gS xs v 15),.int .i64 (gI xs v 16),.sl (gL xs v 17),.sl (gL xs v 18)] ∧ (Lit.int .i64 (gI xs v 0)).wf = true ∧ (Lit.int .i64 (gI xs v 2)).wf = true ∧ (gS xs v 3).size ≤ B ∧ (Lit.int .i64 (gI xs v 4)).wf = true ∧ (Lit.int .i64 (gI xs v 5)).wf = true ∧ (Lit.int .i64 (gI xs v 6)).wf = true ∧ ZB RS B (gL xs v 8) ∧ (Lit.int .i64 (gI xs v 9)).wf = true ∧ (gS xs v 10).size ≤ B ∧ (Lit.int .i64 (gI xs v 11)).wf = true ∧ ZB RS B (gL xs v 12) ∧ ZB Yu B (gL xs v 13) ∧ (Lit.int .i64 (gI xs v 14)).wf = true ∧ (gS xs v 15).size ≤ B ∧ (Lit.int .i64 (gI xs v 16)).wf = true ∧ ZB RS B (gL xs v 17) ∧ ZB Yu B (gL xs v 18) ∧ True := Yb.gets h.2 h0 h1
theorem Yb.row {B : Nat} {xs : LD} (h : ZB Yb B xs) {v : Int} (h0 : 0 ≤ v) (h1 : v < xs.length) {β : Type} (F : List D → Option β) : atRow xs v F = F [.int .i64 (gI xs v 0),.bool (gB xs v 1),.int .i64 (gI xs v 2),.str (gS xs v 3),.int .i64 (gI xs v 4),.int .i64 (gI xs v 5),.int .i64 (gI xs v 6),.bool (gB xs v 7),.sl (gL xs v 8),.int .i64 (gI xs v 9),.str (gS xs v 10),.int .i64 (gI xs v 11),.sl (gL xs v 12),.sl (gL xs v 13),.int .i64 (gI xs v 14),.str (gS xs v 15),.int .i64 (gI xs v 16),.sl (gL xs v 17),.sl (gL xs v 18)] := Yb.rows h.2 h0 h1 F
theorem Yaw.f_of {β : Type} {k aB aA aC z0 z1 z2 z3} (h : Yaw.t k aB aA aC = some (z0,z1,z2,z3)) (K : BA → LD → Int → Int → Option β) : Yaw.f k aB aA aC K = K z0 z1 z2 z3 := by unfold Yaw.f; rw [h]; rfl
theorem Yy.f_of {β : Type} {k a0 a1 z0 z1} (h : Yy.t k a0 a1 = some (z0,z1)) (K : BA → Bool → Option β) : Yy.f k a0 a1 K = K z0 z1 := by unfold Yy.f; rw [h]; rfl
def RSS (B : Nat) (r : List D) : Prop := ∃ (c0 : BA) (c1 : BA),r = [.str c0,.str c1] ∧ c0.size ≤ B ∧ c1.size ≤ B ∧ True
theorem RSS.open {B : Nat} {r : List D} (h : RSS B r) : ∃ (c0 : BA) (c1 : BA),r = [.str c0,.str c1] ∧ c0.size ≤ B ∧ c1.size ≤ B ∧ True := h
theorem RSS.mono {B B' : Nat} (hb : B ≤ B') {r : List D} (h : RSS B r) : RSS B' r := by
 obtain ⟨c0,c1,rfl,k0,k1,_⟩ := h
 exact ⟨_,_,rfl,(Nat.le_trans k0 hb),(Nat.le_trans k1 hb),trivial⟩
theorem RSS.wide {xs : LD} (h : ZB RSS lim xs) : ZB RSS 2097152 xs := ⟨Nat.le_trans h.1 (by decide),fun r hr => (h.2 r hr).mono (by decide)⟩
theorem RSS.len {B : Nat} {r : List D} (h : RSS B r) : r.length = 2 := by
 obtain ⟨c0,c1,rfl,_⟩ := h.open
 rfl
theorem RSS.flat {B : Nat} {xs : LD} (h : ∀ r ∈ xs,RSS B r) : Zcg 2 xs := fun r hr => by
 obtain ⟨c0,c1,rfl,_⟩ := (h r hr).open
 exact ⟨rfl,by simp [Zag]⟩
theorem RSS.wt {B : Nat} {xs : LD} (h : ∀ r ∈ xs,RSS B r) : Zu xs = 2 * xs.length := wt_flat (R := RSS B) (fun r h => by obtain ⟨c0,c1,rfl,_⟩ := h; rfl) xs h
theorem RSS.deep {B : Nat} {xs : LD} (h : ∀ r ∈ xs,RSS B r) : Zc xs = xs.map (·.map C.d) := deep_flat (R := RSS B) (fun r h => by obtain ⟨c0,c1,rfl,_⟩ := h; rfl) xs h
theorem RSS.gets {B : Nat} {xs : LD} (h : ∀ r ∈ xs,RSS B r) {v : Int} (h0 : 0 ≤ v) (h1 : v < xs.length) : gR xs v = [.str (gS xs v 0),.str (gS xs v 1)] ∧ (gS xs v 0).size ≤ B ∧ (gS xs v 1).size ≤ B ∧ True := by
 obtain ⟨c0,c1,e,k0,k1,_⟩ := (h (gR xs v) (gR_mem h0 h1)).open
 unfold gS
 rw [e]
 exact ⟨rfl,k0,k1,trivial⟩
theorem RSS.rows {B : Nat} {xs : LD} (h : ∀ r ∈ xs,RSS B r) {v : Int} (h0 : 0 ≤ v) (h1 : v < xs.length) {β : Type} (F : List D → Option β) : atRow xs v F = F [.str (gS xs v 0),.str (gS xs v 1)] := by
 rw [← (RSS.gets h h0 h1).1]
 exact Zck h0 h1 F
theorem RSS.get {B : Nat} {xs : LD} (h : ZB RSS B xs) {v : Int} (h0 : 0 ≤ v) (h1 : v < xs.length) : gR xs v = [.str (gS xs v 0),.str (gS xs v 1)] ∧ (gS xs v 0).size ≤ B ∧ (gS xs v 1).size ≤ B ∧ True := RSS.gets h.2 h0 h1
theorem RSS.row {B : Nat} {xs : LD} (h : ZB RSS B xs) {v : Int} (h0 : 0 ≤ v) (h1 : v < xs.length) {β : Type} (F : List D → Option β) : atRow xs v F = F [.str (gS xs v 0),.str (gS xs v 1)] := RSS.rows h.2 h0 h1 F
set_option maxRecDepth 100000 in
theorem Yy.T {a0 : LD} {a1 : BA} (ga0 : ZB RSS lim a0) (ga1 : a1.size ≤ lim) : Tm Fuel (fun k => Yy.t k a0 a1) (fun z => z.1.size ≤ lim) := by
 unfold Yy.t Yy.g
 have hm := maxLen_eq
 have hlim : lim = 1048576 := rfl
 have la0 := ga0.1
 refine Tm.loop (okk := Fuel) (p := fun k => k) (fun i hi => hi) (b := fun k => Yy.l0 k a0 a1 (fun z0 z1 => some (z0,z1))) (fun i => (((a0.length : Int)) - i).toNat) (fun i => 0 ≤ i ∧ i ≤ (a0.length : Int)) ?_ ?_ ?_
 ·rintro i hI
  try simp only [] at hI ⊢
  have : big = 2 ^ 64 := rfl
  omega
 ·((try simp only []); omega)
 ·rintro i hI L hL
  try simp only [] at hI
  obtain ⟨i0,i1⟩ := hI
  simp only [Yy.l0,atR,rdQ,Q.ask]
  refine Tm.ite (fun h1 => ?_) (fun h1 => ?_)
  ·try simp only [bz0,bz1,bz2,bz3,bz4,bz5,bz6,bz7,bz8,bz9,bza] at h1
   refine Tm.atRow (by first | assumption | omega) (by first | assumption | omega) (fun x2 hx3 hm4 => ?_)
   obtain ⟨c5,c6,rfl,g7,g8,_⟩ := (ga0.2 x2 hm4).open
   refine Tm.uncons ?_
   refine Tm.dStr ?_
   refine Tm.uncons ?_
   refine Tm.dStr ?_
   refine Tm.atEnd ?_
   refine Tm.ite (fun h9 => ?_) (fun h9 => ?_)
   ·try simp only [bz0,bz1,bz2,bz3,bz4,bz5,bz6,bz7,bz8,bz9,bza] at h9
    refine Tm.atRow (by first | assumption | omega) (by first | assumption | omega) (fun x10 hx11 hm12 => ?_)
    rw [hx3] at hx11
    injection hx11 with hx11
    subst hx11
    refine Tm.uncons ?_
    refine Tm.dStr ?_
    refine Tm.uncons ?_
    refine Tm.dStr ?_
    refine Tm.atEnd ?_
    exact Tm.ret (by first | assumption | (simp only [lim]; decide))
   ·try simp only [bz0,bz1,bz2,bz3,bz4,bz5,bz6,bz7,bz8,bz9,bza] at h9
    try rw [Z9 (x := i + 1) (by omega) (by omega)]
    exact hL _ (by (try simp only []); omega) (by (try simp only []); omega)
  ·try simp only [bz0,bz1,bz2,bz3,bz4,bz5,bz6,bz7,bz8,bz9,bza] at h1
   exact Tm.ret (by first | assumption | (simp only [lim]; decide))
noncomputable def Yy.v (a0 : LD) (a1 : BA) : BA × Bool := (Yy.t big a0 a1).getD default
theorem Yy.tv {a0 : LD} {a1 : BA} (ga0 : ZB RSS lim a0) (ga1 : a1.size ≤ lim) {k : Nat} (hk : Fuel k) : Yy.t k a0 a1 = some (Yy.v a0 a1) := (Yy.T ga0 ga1).val hk
theorem Yy.fv {a0 : LD} {a1 : BA} (ga0 : ZB RSS lim a0) (ga1 : a1.size ≤ lim) {k : Nat} (hk : Fuel k) {β : Type} (K : BA → Bool → Option β) : Yy.f k a0 a1 K = K ((Yy.v a0 a1).1) ((Yy.v a0 a1).2) := Yy.f_of (Yy.tv ga0 ga1 hk) K
theorem YF.f_of {β : Type} {k a0 a1 a2 z0} (h : YF.t k a0 a1 a2 = some z0) (K : Bool → Option β) : YF.f k a0 a1 a2 K = K z0 := by unfold YF.f; rw [h]; rfl
theorem YF.tm {ι α : Type} {ok : ι → Prop} {ψ : α → Prop} {p : ι → Nat} {B : Nat} (hp : ∀ i,ok i → B ≤ p i) {a0 a1 a2 φ} (h : Tm (fun k => B ≤ k) (fun k => YF.t k a0 a1 a2) φ) {G : ι → Bool → Option α} (hG : ∀ z0,φ z0 → Tm ok (fun i => G i z0) ψ) : Tm ok (fun i => YF.f (p i) a0 a1 a2 (G i)) ψ := bd1_tm (t := fun k => YF.t k a0 a1 a2) hp h hG
theorem YF.T {a0 a1 a2 : Int} : Tm Fuel (fun k => YF.t k a0 a1 a2) (fun r => r = true → a1 ≤ a0 ∧ a0 ≤ a2) := by
 unfold YF.t YF.g
 have hm := maxLen_eq
 have hlim : lim = 1048576 := rfl
 refine Tm.ite (fun h1 => ?_) (fun h1 => ?_)
 ·try simp only [bz0,bz1,bz2,bz3,bz4,bz5,bz6,bz7,bz8,bz9,bza] at h1
  exact Tm.ret (by first | (intro h; simp at h; omega) | (intro h; cases h))
 ·try simp only [bz0,bz1,bz2,bz3,bz4,bz5,bz6,bz7,bz8,bz9,bza] at h1
  exact Tm.ret (by first | (intro h; simp at h; omega) | (intro h; cases h))
theorem l1In_f {β : Type} {k : Nat} {a b c : Int} (K : Bool → Option β) : YF.f k a b c K = K (decide (b ≤ a) && decide (a ≤ c)) := by
 refine YF.f_of ?_ K
 unfold YF.t YF.g
 by_cases h : b ≤ a <;> simp [h]
def inB (a b c : Int) : Bool := decide (b ≤ a) && decide (a ≤ c)
theorem l1In_fv {β : Type} {k : Nat} {a b c : Int} (K : Bool → Option β) : YF.f k a b c K = K (inB a b c) := l1In_f K
theorem Yj.f_of {β : Type} {k a0 z0} (h : Yj.t k a0 = some z0) (K : Bool → Option β) : Yj.f k a0 K = K z0 := by unfold Yj.f; rw [h]; rfl
theorem Yj.tm {ι α : Type} {ok : ι → Prop} {ψ : α → Prop} {p : ι → Nat} {B : Nat} (hp : ∀ i,ok i → B ≤ p i) {a0 φ} (h : Tm (fun k => B ≤ k) (fun k => Yj.t k a0) φ) {G : ι → Bool → Option α} (hG : ∀ z0,φ z0 → Tm ok (fun i => G i z0) ψ) : Tm ok (fun i => Yj.f (p i) a0 (G i)) ψ := bd1_tm (t := fun k => Yj.t k a0) hp h hG
theorem Yj.T {a0 : BA} (ga0 : a0.size ≤ lim) : Tm Fuel (fun k => Yj.t k a0) (fun _ => True) := by
 unfold Yj.t Yj.g
 have hm := maxLen_eq
 have hlim : lim = 1048576 := rfl
 refine Tm.loop (okk := Fuel) (p := fun k => k) (fun i hi => hi) (b := fun k => Yj.l0 k a0 (fun z0 => some z0)) (fun i => (((a0.size : Int)) - i).toNat) (fun i => 0 ≤ i ∧ i ≤ (a0.size : Int)) ?_ ?_ ?_
 ·rintro i hI
  try simp only [] at hI ⊢
  have : big = 2 ^ 64 := rfl
  omega
 ·((try simp only []); omega)
 ·rintro i hI L hL
  try simp only [] at hI
  obtain ⟨i0,i1⟩ := hI
  simp only [Yj.l0]
  refine Tm.ite (fun h1 => ?_) (fun h1 => ?_)
  ·try simp only [bz0,bz1,bz2,bz3,bz4,bz5,bz6,bz7,bz8,bz9,bza] at h1
   refine Tm.atStr (by first | assumption | omega) (by first | assumption | omega) (fun b2 hb3 => ?_)
   try rw [Z9 (x := (b2.toNat : Int)) (by omega) (by omega)]
   refine YF.tm (fun i hi => hi.1) (YF.T) (fun y5 hy4 => ?_)
   refine Tm.ite (fun h6 => ?_) (fun h6 => ?_)
   ·try simp only [bz0,bz1,bz2,bz3,bz4,bz5,bz6,bz7,bz8,bz9,bza] at h6
    refine Tm.atStr (by first | assumption | omega) (by first | assumption | omega) (fun b7 hb8 => ?_)
    try rw [Z9 (x := (b7.toNat : Int)) (by omega) (by omega)]
    refine YF.tm (fun i hi => hi.1) (YF.T) (fun y10 hy9 => ?_)
    refine Tm.ite (fun h11 => ?_) (fun h11 => ?_)
    ·try simp only [bz0,bz1,bz2,bz3,bz4,bz5,bz6,bz7,bz8,bz9,bza] at h11
     refine Tm.atStr (by first | assumption | omega) (by first | assumption | omega) (fun b12 hb13 => ?_)
     refine Tm.ite (fun h14 => ?_) (fun h14 => ?_)
     ·try simp only [bz0,bz1,bz2,bz3,bz4,bz5,bz6,bz7,bz8,bz9,bza] at h14
      exact Tm.ret (by trivial)
     ·try simp only [bz0,bz1,bz2,bz3,bz4,bz5,bz6,bz7,bz8,bz9,bza] at h14
      try rw [Z9 (x := i + 1) (by omega) (by omega)]
      exact hL _ (by (try simp only []); omega) (by (try simp only []); omega)
    ·try simp only [bz0,bz1,bz2,bz3,bz4,bz5,bz6,bz7,bz8,bz9,bza] at h11
     have z15 := hy9 h11
     try rw [Z9 (x := i + 1) (by omega) (by omega)]
     exact hL _ (by (try simp only []); omega) (by (try simp only []); omega)
   ·try simp only [bz0,bz1,bz2,bz3,bz4,bz5,bz6,bz7,bz8,bz9,bza] at h6
    have z16 := hy4 h6
    try rw [Z9 (x := i + 1) (by omega) (by omega)]
    exact hL _ (by (try simp only []); omega) (by (try simp only []); omega)
  ·try simp only [bz0,bz1,bz2,bz3,bz4,bz5,bz6,bz7,bz8,bz9,bza] at h1
   refine YF.tm (fun i hi => hi.1) (YF.T) (fun y18 hy17 => ?_)
   refine Tm.ite (fun h19 => ?_) (fun h19 => ?_)
   ·try simp only [bz0,bz1,bz2,bz3,bz4,bz5,bz6,bz7,bz8,bz9,bza] at h19
    have z20 := hy17 h19
    refine Tm.atStr (by first | assumption | omega) (by first | assumption | omega) (fun b21 hb22 => ?_)
    refine Tm.ite (fun h23 => ?_) (fun h23 => ?_)
    ·try simp only [bz0,bz1,bz2,bz3,bz4,bz5,bz6,bz7,bz8,bz9,bza] at h23
     try rw [Z9 (x := (a0.size : Int) - 1) (by omega) (by omega)]
     refine Tm.atStr (by first | assumption | omega) (by first | assumption | omega) (fun b24 hb25 => ?_)
     exact Tm.ret (by trivial)
    ·try simp only [bz0,bz1,bz2,bz3,bz4,bz5,bz6,bz7,bz8,bz9,bza] at h23
     exact Tm.ret (by trivial)
   ·try simp only [bz0,bz1,bz2,bz3,bz4,bz5,bz6,bz7,bz8,bz9,bza] at h19
    exact Tm.ret (by trivial)
noncomputable def Yj.v (a0 : BA) : Bool := (Yj.t big a0).getD default
theorem Yj.tv {a0 : BA} (ga0 : a0.size ≤ lim) {k : Nat} (hk : Fuel k) : Yj.t k a0 = some (Yj.v a0) := (Yj.T ga0).val hk
theorem Yj.fv {a0 : BA} (ga0 : a0.size ≤ lim) {k : Nat} (hk : Fuel k) {β : Type} (K : Bool → Option β) : Yj.f k a0 K = K (Yj.v a0) := Yj.f_of (Yj.tv ga0 hk) K
noncomputable def Ya5 (xs : LD) : Bool := (List.range xs.length).all fun i => Yj.v (gS xs (i : Int) 0) && (!decide ((i : Int) > 0) || strLt (gS xs ((i : Int) - 1) 0) (gS xs (i : Int) 0))
theorem Yz.f_of {β : Type} {k a0 z0} (h : Yz.t k a0 = some z0) (K : Bool → Option β) : Yz.f k a0 K = K z0 := by unfold Yz.f; rw [h]; rfl
set_option maxRecDepth 100000 in
theorem Yz.T {a0 : LD} (ga0 : ZB RSS lim a0) : Tm Fuel (fun k => Yz.t k a0) (fun _ => True) := by
 unfold Yz.t Yz.g
 have hm := maxLen_eq
 have hlim : lim = 1048576 := rfl
 have la0 := ga0.1
 refine Tm.loop (okk := Fuel) (p := fun k => k) (fun i hi => hi) (b := fun k => Yz.l0 k a0 (fun z0 => some z0)) (fun i => (((a0.length : Int)) - i).toNat) (fun i => 0 ≤ i ∧ i ≤ (a0.length : Int)) ?_ ?_ ?_
 ·rintro i hI
  try simp only [] at hI ⊢
  have : big = 2 ^ 64 := rfl
  omega
 ·((try simp only []); omega)
 ·rintro i hI L hL
  try simp only [] at hI
  obtain ⟨i0,i1⟩ := hI
  simp only [Yz.l0,atR,rdQ,Q.ask]
  refine Tm.ite (fun h1 => ?_) (fun h1 => ?_)
  ·try simp only [bz0,bz1,bz2,bz3,bz4,bz5,bz6,bz7,bz8,bz9,bza] at h1
   refine Tm.atRow (by first | assumption | omega) (by first | assumption | omega) (fun x2 hx3 hm4 => ?_)
   obtain ⟨c5,c6,rfl,g7,g8,_⟩ := (ga0.2 x2 hm4).open
   refine Tm.uncons ?_
   refine Tm.dStr ?_
   refine Tm.uncons ?_
   refine Tm.dStr ?_
   refine Tm.atEnd ?_
   refine Yj.tm (fun i hi => hi.1) (Yj.T (by first | assumption | omega)) (fun y10 hy9 => ?_)
   refine Tm.ite (fun h11 => ?_) (fun h11 => ?_)
   ·try simp only [bz0,bz1,bz2,bz3,bz4,bz5,bz6,bz7,bz8,bz9,bza] at h11
    exact Tm.ret (by trivial)
   ·try simp only [bz0,bz1,bz2,bz3,bz4,bz5,bz6,bz7,bz8,bz9,bza] at h11
    refine Tm.atRow (by first | assumption | omega) (by first | assumption | omega) (fun x12 hx13 hm14 => ?_)
    rw [hx3] at hx13
    injection hx13 with hx13
    subst hx13
    refine Tm.uncons ?_
    refine Tm.dStr ?_
    refine Tm.uncons ?_
    refine Tm.dStr ?_
    refine Tm.atEnd ?_
    refine Yj.tm (fun i hi => hi.1) (Yj.T (by first | assumption | omega)) (fun y18 hy17 => ?_)
    refine Tm.ite (fun h19 => ?_) (fun h19 => ?_)
    ·try simp only [bz0,bz1,bz2,bz3,bz4,bz5,bz6,bz7,bz8,bz9,bza] at h19
     exact Tm.ret (by trivial)
    ·try simp only [bz0,bz1,bz2,bz3,bz4,bz5,bz6,bz7,bz8,bz9,bza] at h19
     refine Tm.ite (fun h20 => ?_) (fun h20 => ?_)
     ·try simp only [bz0,bz1,bz2,bz3,bz4,bz5,bz6,bz7,bz8,bz9,bza] at h20
      try rw [Z9 (x := i - 1) (by omega) (by omega)]
      refine Tm.atRow (by first | assumption | omega) (by first | assumption | omega) (fun x21 hx22 hm23 => ?_)
      obtain ⟨c24,c25,rfl,g26,g27,_⟩ := (ga0.2 x21 hm23).open
      refine Tm.uncons ?_
      refine Tm.dStr ?_
      refine Tm.uncons ?_
      refine Tm.dStr ?_
      refine Tm.atEnd ?_
      refine Tm.atRow (by first | assumption | omega) (by first | assumption | omega) (fun x28 hx29 hm30 => ?_)
      rw [hx3] at hx29
      injection hx29 with hx29
      subst hx29
      refine Tm.uncons ?_
      refine Tm.dStr ?_
      refine Tm.uncons ?_
      refine Tm.dStr ?_
      refine Tm.atEnd ?_
      refine Tm.ite (fun h33 => ?_) (fun h33 => ?_)
      ·try simp only [bz0,bz1,bz2,bz3,bz4,bz5,bz6,bz7,bz8,bz9,bza] at h33
       exact Tm.ret (by trivial)
      ·try simp only [bz0,bz1,bz2,bz3,bz4,bz5,bz6,bz7,bz8,bz9,bza] at h33
       try rw [Z9 (x := i + 1) (by omega) (by omega)]
       exact hL _ (by (try simp only []); omega) (by (try simp only []); omega)
     ·try simp only [bz0,bz1,bz2,bz3,bz4,bz5,bz6,bz7,bz8,bz9,bza] at h20
      try rw [Z9 (x := i + 1) (by omega) (by omega)]
      exact hL _ (by (try simp only []); omega) (by (try simp only []); omega)
  ·try simp only [bz0,bz1,bz2,bz3,bz4,bz5,bz6,bz7,bz8,bz9,bza] at h1
   exact Tm.ret (by trivial)
noncomputable def Yz.v (a0 : LD) : Bool := (Yz.t big a0).getD default
theorem Yz.tv {a0 : LD} (ga0 : ZB RSS lim a0) {k : Nat} (hk : Fuel k) : Yz.t k a0 = some (Yz.v a0) := (Yz.T ga0).val hk
theorem Yz.fv {a0 : LD} (ga0 : ZB RSS lim a0) {k : Nat} (hk : Fuel k) {β : Type} (K : Bool → Option β) : Yz.f k a0 K = K (Yz.v a0) := Yz.f_of (Yz.tv ga0 hk) K
theorem Yaj.f_of {β : Type} {k a0 z0} (h : Yaj.t k a0 = some z0) (K : LC → Option β) : Yaj.f k a0 K = K z0 := by unfold Yaj.f; rw [h]; rfl
theorem Yx.f_of {β : Type} {k a0 a1 a2 z0 z1} (h : Yx.t k a0 a1 a2 = some (z0,z1)) (K : LC → Bool → Option β) : Yx.f k a0 a1 a2 K = K z0 z1 := by unfold Yx.f; rw [h]; rfl
theorem YN.f_of {β : Type} {k aB aA aC a1 z0 z1 z2 z3} (h : YN.t k aB aA aC a1 = some (z0,z1,z2,z3)) (K : LC → LD → Int → Int → Option β) : YN.f k aB aA aC a1 K = K z0 z1 z2 z3 := by unfold YN.f; rw [h]; rfl
theorem Ybl {a : LD} (g : ZB RSS lim a) {k : Nat} {β : Type} (K : LC → Option β) : Yaj.f k a K = K (a.map (·.map C.d)) := Yaj.f_of (by
 have hl := g.1
 have hlim : lim = 1048576 := rfl
 have hm : Z8 = 2 ^ 36 := rfl
 unfold Yaj.t Yaj.g
 rw [ZH (RSS.flat g.2),ZH (by simp only [List.length_nil,map_len]; omega),List.nil_append]) K
set_option maxRecDepth 100000 in
set_option maxHeartbeats 1000000 in
theorem labelSet_ex {k : Nat} (hk : Fuel k) {l : LD} {s v : BA} (g : ∀ r ∈ l,RSS lim r) (hl : l.length ≤ 1000) (gs : s.size ≤ lim) (gv : v.size ≤ lim) : ∃ (l' : LD) (ok : Bool),(∀ r ∈ l',RSS lim r) ∧ l'.length ≤ l.length + 1 ∧ Yx.t k l s v = some (l'.map (·.map C.d),ok) := by
 have hlim : lim = 1048576 := rfl
 have hm : Z8 = 2 ^ 36 := rfl
 have hb : big = 2 ^ 64 := rfl
 have G : ZB RSS lim l := ⟨by omega,g⟩
 let Qz : Option (LC × Bool) → Prop := fun o => ∃ (l' : LD) (ok : Bool),(∀ r ∈ l',RSS lim r) ∧ l'.length ≤ l.length + 1 ∧ o = some (l'.map (·.map C.d),ok)
 have hsame : ∀ ok,Qz (some (l.map (·.map C.d),ok)) := fun ok => ⟨l,ok,g,by omega,rfl⟩
 have hnew : RSS lim [D.str s,D.str v] := ⟨s,v,rfl,gs,gv,trivial⟩
 have loop : Qz (ZA (Yx.l0 k l s v (fun z0 z1 => some (z0,z1))) k (false,0,[])) := by
  refine Ya0 (fun v => (l.length : Int).toNat - v.2.1.toNat) (fun v => 0 ≤ v.2.1 ∧ v.2.1 ≤ (l.length : Int) ∧ ∃ o : LD,v.2.2 = o.map (·.map C.d) ∧ (∀ r ∈ o,RSS lim r) ∧ (o.length : Int) ≤ v.2.1 + (if v.1 = true then 1 else 0)) Qz ?_ ⟨by simp,by simp,[],rfl,by simp,by simp⟩ (by unfold Fuel at hk; simp; omega)
  rintro ⟨p,i,out⟩ ⟨h0,h1,o,e,ho,hlen⟩ L hL
  simp only at h0 h1 e hlen
  subst e
  have hw : i < l.length → IntKind.wrap .i64 (i + 1) = i + 1 := fun _ => Z9 (by omega) (by omega)
  have hp : (if p = true then (1 : Int) else 0) ≤ 1 ∧ 0 ≤ (if p = true then (1 : Int) else 0) := by cases p <;> simp
  by_cases hi : i < l.length
  ·have hr := RSS.gets g h0 hi
   have hold : RSS lim [D.str (gS l i 0),.str (gS l i 1)] := ⟨_,_,rfl,hr.2.1,hr.2.2.1,trivial⟩
   have fin : ∀ (p' : Bool) (o' : LD),(∀ r ∈ o',RSS lim r) → (o'.length : Int) ≤ i + 1 + (if p' = true then 1 else 0) → Qz (L (p',i + 1,o'.map (·.map C.d))) := fun p' o' q1 q2 => hL _ ⟨by show 0 ≤ i + 1; omega,by show i + 1 ≤ (l.length : Int); omega,o',rfl,q1,q2⟩ (by show (l.length : Int).toNat - (i + 1).toNat < (l.length : Int).toNat - i.toNat; omega)
   have up1 : ∀ (o' : LD) (x y : BA),o'.map (·.map C.d) ++ ([[.d (.str x),.d (.str y)]] : LC) = (o' ++ [[D.str x,D.str y]]).map (·.map C.d) := fun o' x y => by rw [List.map_append]; rfl
   simp only [Yx.l0,atR,rdQ,Q.ask,ZY hi,cond_true,RSS.row G h0 hi,Z4,ZaQ,Zan,hw hi,map_len,List.length_append,List.length_singleton,ZH (show o.length + 1 ≤ Z8 by omega),ZH (show o.length + 1 + 1 ≤ Z8 by omega)]
   cases p with
   | true =>
    simp only [Bool.not_true,cond_false]
    cases Zae (gS l i 0) s
    ·simp only [Bool.not_false,cond_true,up1]
     exact fin _ _ (YaU ho hold) (by rw [List.length_append,List.length_singleton]; simp at hlen ⊢; omega)
    ·exact fin _ _ ho (by simp at hlen ⊢; omega)
   | false =>
    simp only [Bool.not_false,cond_true]
    simp at hlen
    cases strLt (gS l i 0) s
    ·simp only [Bool.not_false,cond_true]
     cases Zae (gS l i 0) s
     ·simp only [Bool.not_false,cond_true,up1]
      exact fin _ _ (YaU (YaU ho hnew) hold) (by simp; omega)
     ·simp only [Bool.not_true,cond_false,up1]
      exact fin _ _ (YaU ho hnew) (by simp; omega)
    ·simp only [Bool.not_true,cond_false]
     cases Zae (gS l i 0) s
     ·simp only [Bool.not_false,cond_true,up1]
      exact fin _ _ (YaU ho hold) (by simp; omega)
     ·exact fin _ _ ho (by simp; omega)
  ·simp only [Yx.l0,atR,rdQ,Q.ask,ZZ hi,cond_false,map_len,List.length_singleton]
   cases p with
   | true => exact ⟨o,true,ho,by simp at hlen; omega,rfl⟩
   | false =>
    simp only [Bool.not_false,cond_true]
    rw [ZH (show o.length + 1 ≤ Z8 by simp at hlen; omega)]
    exact ⟨o ++ [[D.str s,D.str v]],true,YaU ho hnew,by simp at hlen ⊢; omega,by rw [List.map_append]; rfl⟩
 show Qz _
 unfold Yx.t Yx.g Yx.m
 rw [Yy.fv G gs hk,Yz.fv G hk]
 cases Yz.v l
 ·simp only [Bool.not_false,cond_true,Ybl G]; exact hsame _
 simp only [Bool.not_true,cond_false,Yj.fv gs hk]
 cases Yj.v s
 ·simp only [Bool.not_false,cond_true,Ybl G]; exact hsame _
 simp only [Bool.not_true,cond_false,Yj.fv gv hk]
 cases Yj.v v
 ·simp only [Bool.not_false,cond_true,Ybl G]; exact hsame _
 simp only [Bool.not_true,cond_false]
 cases (Yy.v l s).2
 ·simp only [Bool.not_false,cond_true]
  cases ((l.length : Int)) == 8
  ·exact loop
  ·simp only [cond_true,Ybl G]; exact hsame _
 ·exact loop
theorem name_ex {b : LD} {i h : Int} {k : Nat} (c : Cur b i) : ∃ s i' h',s.size ≤ lim ∧ Cur b i' ∧ Yaw.t k b i h = some (s,b,i',h') := by
 unfold Yaw.t Yaw.g
 have hstr : ∀ r ∈ ([[.str (⟨#[97]⟩ : BA)],[.str (⟨#[98]⟩ : BA)],[.str (⟨#[99]⟩ : BA)],[.str (⟨#[122,111,110,101]⟩ : BA)],[.str (⟨#[116,105,101,114]⟩ : BA)],[.str (⟨#[103,111,108,100]⟩ : BA)],[.str (⟨#[101,97,115,116]⟩ : BA)],[.str (⟨#[120,45,49]⟩ : BA)],[.str (⟨#[97,98,99,100,101,102,103,104,105,106,107,108,109,110,111,112,113,114,115,116]⟩ : BA)]] : LD),RS lim r := by
  intro r hr
  simp only [List.mem_cons,List.not_mem_nil,or_false] at hr
  rcases hr with rfl | rfl | rfl | rfl | rfl | rfl | rfl | rfl | rfl <;> exact ⟨_,rfl,by decide,trivial⟩
 obtain ⟨j,i1,h1,j0,j1,hc1,e1⟩ := str_ex (k := k) (h := h) c hstr (by decide)
 rw [Yak.f_of e1]
 exact ⟨_,_,_,(RS.gets hstr j0 j1).2.1,hc1,rfl⟩
set_option maxHeartbeats 1000000 in
theorem labels_ex {k : Nat} (hk : Fuel k) {b : LD} {i h M : Int} (c : Cur b i) (hM : M ≤ 100) : ∃ (l : LD) (i' h' : Int),(∀ r ∈ l,RSS lim r) ∧ l.length ≤ M.toNat ∧ Cur b i' ∧ YN.t k b i h M = some (l.map (·.map C.d),b,i',h') := by
 have hb : big = 2 ^ 64 := rfl
 unfold YN.t YN.g
 obtain ⟨x,i1,h1,x0,x1,x2,hc1,e1⟩ := YaW (k := k) (h := h) (n := M) c
 rw [Yv.f_of e1]
 refine Ya0 (fun v => v.1.toNat) (fun v => 0 ≤ v.1 ∧ v.2.1 = b ∧ Cur b v.2.2.1 ∧ ∃ o : LD,v.2.2.2.2 = o.map (·.map C.d) ∧ (∀ r ∈ o,RSS lim r) ∧ (o.length : Int) + v.1 ≤ M.toNat) (fun o => ∃ (l : LD) (i' h' : Int),(∀ r ∈ l,RSS lim r) ∧ l.length ≤ M.toNat ∧ Cur b i' ∧ o = some (l.map (·.map C.d),b,i',h')) ?_ (v := (x,b,i1,h1,[])) ⟨x0,rfl,hc1,[],rfl,by simp,by simp; omega⟩ (by unfold Fuel at hk; show x.toNat < k; omega)
 rintro ⟨n,b',i,h,out⟩ ⟨n0,eb,hc,o,e,ho,hlen⟩ L hL
 simp only at n0 eb hc e hlen
 subst eb e
 by_cases hn : n > 0
 ·obtain ⟨s,i2,h2,gs,hc2,e2⟩ := name_ex (k := k) (h := h) hc
  obtain ⟨v,i3,h3,gv,hc3,e3⟩ := name_ex (k := k) (h := h2) hc2
  obtain ⟨l',ok,g',gl,e4⟩ := labelSet_ex hk ho (by omega) gs gv
  simp only [YN.l0,ZY hn,cond_true,Yaw.f_of e2,Yaw.f_of e3,imm_rows,Yx.f_of e4,Z9 (show -9223372036854775808 ≤ n - 1 by omega) (show n - 1 ≤ 9223372036854775807 by omega)]
  exact hL _ ⟨by show 0 ≤ n - 1; omega,rfl,hc3,l',rfl,g',by show (l'.length : Int) + (n - 1) ≤ _; omega⟩ (by show (n - 1).toNat < n.toNat; omega)
 ·simp only [YN.l0,ZZ hn,cond_false]
  exact ⟨o,i,h,ho,by omega,hc,rfl⟩
theorem Yap.f_of {β : Type} {k aB aA aC a1 z0 z1 z2 z3} (h : Yap.t k aB aA aC a1 = some (z0,z1,z2,z3)) (K : Int → LD → Int → Int → Option β) : Yap.f k aB aA aC a1 K = K z0 z1 z2 z3 := by unfold Yap.f; rw [h]; rfl
set_option maxRecDepth 100000 in
theorem int_ex {b : LD} {i h : Int} {k : Nat} (c : Cur b i) (l : List Int) (hl : 0 < l.length) : ∃ x i' h',x ∈ l ∧ Cur b i' ∧ Yap.t k b i h (l.map fun x => [.int .i64 x]) = some (x,b,i',h') := by
 obtain ⟨x,i',h',x0,x1,-,c',e⟩ := YaW (k := k) (h := h) (n := (l.length : Int)) c
 have x1 := x1 (by omega)
 unfold Yap.t Yap.g; simp only [atR,rdQ,Q.ask]
 rw [List.length_map,Yv.f_of e,Zck x0 (by rw [List.length_map]; exact x1)]
 have e2 : gR (l.map fun x => [D.int .i64 x]) x = [.int .i64 (l[x.toNat]'(by omega))] := by
  unfold gR
  rw [List.getD_eq_getElem?_getD,List.getElem?_map,List.getElem?_eq_getElem (by omega)]
  rfl
 rw [e2]
 simp only [Z4,Z5,Zan]
 exact ⟨_,_,_,List.getElem_mem _,c',rfl⟩
theorem Yh.f_of {β : Type} {k : Nat} {aB : LD} {aA aC a1 z0 : Int} {z1 : BA} {z2 : Int} {z3 z4 : LC} {z5 : LD} {z6 z7 : Int} (h : Yh.t k aB aA aC a1 = some (z0,z1,z2,z3,z4,z5,z6,z7)) (K : Int → BA → Int → LC → LC → LD → Int → Int → Option β) : Yh.f k aB aA aC a1 K = K z0 z1 z2 z3 z4 z5 z6 z7 := by
 unfold Yh.f
 unfold Yh.w
 rw [h]
inductive VSm (m : Nat) : Nat → List D → Prop
 | mk {n : Nat} (c0 : Int) (c1 : BA) (c2 : Int) (c3 c4 : LD) (w0 : (Lit.int .i64 c0).wf = true) (k1 : c1.size ≤ lim) (w2 : (Lit.int .i64 c2).wf = true) (l3 : c3.length ≤ m) (h3 : ∀ r ∈ c3,RS lim r) (l4 : c4.length ≤ m) (h4 : ∀ r ∈ c4,VSm m n r) : VSm m (n + 1) [.int .i64 c0,.str c1,.int .i64 c2,.sl c3,.sl c4]
theorem VSm.up {m m' : Nat} (hm : m ≤ m') : ∀ {n n' : Nat} {r : List D},VSm m n r → n ≤ n' → VSm m' n' r
 | _,n',_,.mk (n := n) c0 c1 c2 c3 c4 w0 k1 w2 l3 h3 l4 h4,hn => by
  obtain ⟨q,rfl⟩ : ∃ q,n' = q + 1 := ⟨n' - 1,by omega⟩
  exact .mk c0 c1 c2 c3 c4 w0 k1 w2 (by omega) h3 (by omega) fun r hr => (h4 r hr).up hm (by omega)
theorem VSm.val {m : Nat} (hm : m ≤ 2000) : ∀ {n : Nat} {r : List D},VSm m n r → Yan lim n r
 | _,_,.mk (n := n) c0 c1 c2 c3 c4 w0 k1 w2 l3 h3 l4 h4 => Yan.mk c0 c1 c2 c3 c4 w0 k1 w2 ⟨Nat.le_trans l3 (Nat.le_trans hm (by decide)),h3⟩ (Nat.le_trans l4 (Nat.le_trans hm (by decide))) fun r hr => (h4 r hr).val hm
def VOk (n : Nat) (c0 : Int) (c1 : BA) (c2 : Int) (c3 c4 : LD) : Prop := VSm 1000 n [.int .i64 c0,.str c1,.int .i64 c2,.sl c3,.sl c4]
theorem VOk.mk {n : Nat} {c0 c2 : Int} {c1 : BA} {c3 c4 : LD} (w0 : -9223372036854775808 ≤ c0 ∧ c0 ≤ 9223372036854775807) (k1 : c1.size ≤ lim) (w2 : -9223372036854775808 ≤ c2 ∧ c2 ≤ 9223372036854775807) (h3 : ∀ r ∈ c3,RS lim r) (l3 : c3.length ≤ 1000) (l4 : c4.length ≤ 1000) (h4 : ∀ r ∈ c4,VSm 1000 n r) : VOk (n + 1) c0 c1 c2 c3 c4 :=
 VSm.mk c0 c1 c2 c3 c4 (wf_of w0.1 w0.2) k1 (wf_of w2.1 w2.2) l3 h3 l4 h4
theorem row_own {x : Int} {y : BA} {z : Int} {u v : LD} : ([[.d (.int .i64 x),.d (.str y),.d (.int .i64 z),.own (Zc u),.own (Zc v)]] : LC) = Zc [[.int .i64 x,.str y,.int .i64 z,.sl u,.sl v]] := by
 simp only [Zc,ZN,deepD]
theorem deep_app1 {a : LD} {x : Int} {y : BA} {z : Int} {u v : LD} : Zc a ++ ([[.d (.int .i64 x),.d (.str y),.d (.int .i64 z),.own (Zc u),.own (Zc v)]] : LC) = Zc (a ++ [[.int .i64 x,.str y,.int .i64 z,.sl u,.sl v]]) := by
 rw [row_own,Zbb]
theorem strs_in {l : List BA} (h : ∀ s ∈ l,s.size ≤ 1000) : ∀ r ∈ l.map (fun s => [D.str s]),RS lim r := by
 intro r hr
 obtain ⟨s,hs,rfl⟩ := List.mem_map.mp hr
 exact ⟨s,rfl,Nat.le_trans (h s hs) (by decide),trivial⟩
def VDrawn (b : LD) (n : Nat) (o : Option (Int × BA × Int × LC × LC × LD × Int × Int)) : Prop :=
 ∃ c0 c1 c2 c3 c4 i h,VOk n c0 c1 c2 c3 c4 ∧ Cur b i ∧ o = some (c0,c1,c2,Zc c3,Zc c4,b,i,h)
theorem VDrawn.flat {b : LD} {n : Nat} {c0 c2 i h : Int} {c1 : BA} (hc : Cur b i) (w0 : 1 ≤ c0 ∧ c0 ≤ 5) (k1 : c1.size ≤ lim) (w2 : -9223372036854775808 ≤ c2 ∧ c2 ≤ 9223372036854775807) : VDrawn b (n + 1) (some (c0,c1,c2,[],[],b,i,h)) :=
 ⟨c0,c1,c2,[],[],i,h,.mk ⟨by omega,by omega⟩ k1 w2 (by simp) (by simp) (by simp) (by simp),hc,by simp only [Zc]⟩
theorem wk0 : IntKind.wrap .i64 (1 + 0) = 1 := by decide
theorem wk1 : IntKind.wrap .i64 (1 + 1) = 2 := by decide
theorem wk2 : IntKind.wrap .i64 (1 + 2) = 3 := by decide
theorem wk3 : IntKind.wrap .i64 (1 + 3) = 4 := by decide
theorem wk4 : IntKind.wrap .i64 (1 + 4) = 5 := by decide
def vStrs : List BA := [⟨#[]⟩,⟨#[97]⟩,⟨#[120,32,121]⟩,⟨#[34]⟩,⟨#[92,110]⟩,⟨#[105,109,97,103,101,58,49]⟩]
def vInts : List Int := [0,1,80,-5,9223372036854775807,-9223372036854775808]
theorem vStr_ex {b : LD} {i h : Int} {k n : Nat} {c0 : Int} (c : Cur b i) (w0 : 1 ≤ c0 ∧ c0 ≤ 5) : VDrawn b (n + 1) (Yak.f k b i h ([[.str (⟨#[]⟩ : BA)],[.str (⟨#[97]⟩ : BA)],[.str (⟨#[120,32,121]⟩ : BA)],[.str (⟨#[34]⟩ : BA)],[.str (⟨#[92,110]⟩ : BA)],[.str (⟨#[105,109,97,103,101,58,49]⟩ : BA)]] : LD) (fun y5 y6 y7 y8 => some (c0,y5,0,([] : LC),([] : LC),y6,y7,y8))) := by
 have hstr := strs_in (l := vStrs) (by decide)
 obtain ⟨j,i1,h1,j0,j1,hc1,e1⟩ := str_ex (k := k) (h := h) c hstr (by decide)
 have e2 : Yak.t k b i h ([[.str (⟨#[]⟩ : BA)],[.str (⟨#[97]⟩ : BA)],[.str (⟨#[120,32,121]⟩ : BA)],[.str (⟨#[34]⟩ : BA)],[.str (⟨#[92,110]⟩ : BA)],[.str (⟨#[105,109,97,103,101,58,49]⟩ : BA)]] : LD) = _ := e1
 rw [Yak.f_of e2]
 exact .flat hc1 w0 (RS.gets hstr j0 j1).2.1 ⟨by omega,by omega⟩
theorem vInt_ex {b : LD} {i h : Int} {k n : Nat} {c0 : Int} (c : Cur b i) (w0 : 1 ≤ c0 ∧ c0 ≤ 5) : VDrawn b (n + 1) (Yap.f k b i h ([[.int .i64 0],[.int .i64 1],[.int .i64 80],[.int .i64 (-5)],[.int .i64 9223372036854775807],[.int .i64 (-9223372036854775808)]] : LD) (fun y9 y10 y11 y12 => some (c0,(⟨#[]⟩ : BA),y9,([] : LC),([] : LC),y10,y11,y12))) := by
 obtain ⟨y,i2,h2,hy,hc2,e1⟩ := int_ex (k := k) (h := h) c vInts (by decide)
 have e2 : Yap.t k b i h ([[.int .i64 0],[.int .i64 1],[.int .i64 80],[.int .i64 (-5)],[.int .i64 9223372036854775807],[.int .i64 (-9223372036854775808)]] : LD) = _ := e1
 rw [Yap.f_of e2]
 simp only [vInts,List.mem_cons,List.not_mem_nil,or_false] at hy
 exact .flat hc2 w0 (by decide) ⟨by omega,by omega⟩
theorem vBool_ex {b : LD} {i h : Int} {k n : Nat} {c0 : Int} (c : Cur b i) (w0 : 1 ≤ c0 ∧ c0 ≤ 5) : VDrawn b (n + 1) (Yv.f k b i h 2 (fun y9 y10 y11 y12 => some (c0,(⟨#[]⟩ : BA),y9,([] : LC),([] : LC),y10,y11,y12))) := by
 obtain ⟨y,i2,h2,y0,y1,-,hc2,e1⟩ := YaW (k := k) (h := h) (n := 2) c
 have y1 := y1 (by decide)
 rw [Yv.f_of e1]
 exact .flat hc2 w0 (by decide) ⟨by omega,by omega⟩
set_option maxRecDepth 100000 in
set_option maxHeartbeats 4000000 in
theorem value_ex (d : Nat) : ∀ {b : LD} {i h : Int} {k : Nat},Cur b i → d ≤ 100 → big + d + 1 ≤ k → VDrawn b (d + 1) (Yh.t k b i h (d : Int)) := by
 have hm : Z8 = 2 ^ 36 := rfl
 have hlim : lim = 1048576 := rfl
 have hb : big = 2 ^ 64 := rfl
 induction d with
 | zero =>
  intro b i h k hc hd hk
  obtain ⟨k,rfl⟩ : ∃ k',k = k' + 1 := ⟨k - 1,by omega⟩
  rw [Yh.t_succ]
  unfold Yh.g Yh.body Yh.m
  obtain ⟨x,i1,h1,x0,x1,-,hc1,e1⟩ := YaW (k := k) (h := h) (n := 5) hc
  have x1 := x1 (by decide)
  rw [Yv.f_of e1]
  dsimp only
  rw [ZY (show ((0 : Nat) : Int) ≤ 1 by decide)]
  have hx : x = 0 ∨ x = 1 ∨ x = 2 ∨ x = 3 ∨ x = 4 := by omega
  rcases hx with rfl | rfl | rfl | rfl | rfl
  ·simp only [wk0,cond_true,cond_false,ZZ (show ¬ (1 : Int) > 3 by decide),Int.reduceBEq]; exact vStr_ex hc1 ⟨by decide,by decide⟩
  ·simp only [wk1,cond_true,cond_false,ZZ (show ¬ (2 : Int) > 3 by decide),Int.reduceBEq]; exact vInt_ex hc1 ⟨by decide,by decide⟩
  ·simp only [wk2,cond_true,cond_false,ZZ (show ¬ (3 : Int) > 3 by decide),Int.reduceBEq]; exact vBool_ex hc1 ⟨by decide,by decide⟩
  ·simp only [wk3,cond_true,cond_false,ZY (show (4 : Int) > 3 by decide),Int.reduceBEq]; exact vInt_ex hc1 ⟨by decide,by decide⟩
  ·simp only [wk4,cond_true,cond_false,ZY (show (5 : Int) > 3 by decide),Int.reduceBEq]; exact vInt_ex hc1 ⟨by decide,by decide⟩
 | succ d ih =>
  intro b i h k hc hd hk
  obtain ⟨k,rfl⟩ : ∃ k',k = k' + 1 := ⟨k - 1,by omega⟩
  rw [Yh.t_succ]
  unfold Yh.g Yh.body Yh.m
  obtain ⟨x,i1,h1,x0,x1,-,hc1,e1⟩ := YaW (k := k) (h := h) (n := 5) hc
  have x1 := x1 (by decide)
  rw [Yv.f_of e1]
  dsimp only
  have hx : x = 0 ∨ x = 1 ∨ x = 2 ∨ x = 3 ∨ x = 4 := by omega
  by_cases hd1 : ((d + 1 : Nat) : Int) ≤ 1
  ·rw [ZY hd1]
   rcases hx with rfl | rfl | rfl | rfl | rfl
   ·simp only [wk0,cond_true,cond_false,ZZ (show ¬ (1 : Int) > 3 by decide),Int.reduceBEq]; exact vStr_ex hc1 ⟨by decide,by decide⟩
   ·simp only [wk1,cond_true,cond_false,ZZ (show ¬ (2 : Int) > 3 by decide),Int.reduceBEq]; exact vInt_ex hc1 ⟨by decide,by decide⟩
   ·simp only [wk2,cond_true,cond_false,ZZ (show ¬ (3 : Int) > 3 by decide),Int.reduceBEq]; exact vBool_ex hc1 ⟨by decide,by decide⟩
   ·simp only [wk3,cond_true,cond_false,ZY (show (4 : Int) > 3 by decide),Int.reduceBEq]; exact vInt_ex hc1 ⟨by decide,by decide⟩
   ·simp only [wk4,cond_true,cond_false,ZY (show (5 : Int) > 3 by decide),Int.reduceBEq]; exact vInt_ex hc1 ⟨by decide,by decide⟩
  ·rw [ZZ hd1]
   have hwd : IntKind.wrap .i64 (((d + 1 : Nat) : Int) - 1) = (d : Int) := by rw [Z9 (by omega) (by omega)]; omega
   rcases hx with rfl | rfl | rfl | rfl | rfl
   ·simp only [wk0,cond_true,cond_false,Int.reduceBEq]; exact vStr_ex hc1 ⟨by decide,by decide⟩
   ·simp only [wk1,cond_true,cond_false,Int.reduceBEq]; exact vInt_ex hc1 ⟨by decide,by decide⟩
   ·simp only [wk2,cond_true,cond_false,Int.reduceBEq]; exact vBool_ex hc1 ⟨by decide,by decide⟩
   ·simp only [wk3,cond_true,cond_false,Int.reduceBEq]
    obtain ⟨y,i2,h2,y0,y1,-,hc2,e2⟩ := YaW (k := k) (h := h1) (n := 4) hc1
    have y1 := y1 (by decide)
    rw [Yv.f_of e2]
    refine Ya0 (fun v => v.1.toNat) (fun v => 0 ≤ v.1 ∧ v.2.1 = b ∧ Cur b v.2.2.1 ∧ ∃ o : LD,v.2.2.2.2 = Zc o ∧ (∀ r ∈ o,VSm 1000 (d + 1) r) ∧ (o.length : Int) + v.1 ≤ 4) (VDrawn b (d + 2)) ?_ (v := (y,b,i2,h2,[])) ⟨y0,rfl,hc2,[],by simp only [Zc],by simp,by simp; omega⟩ (by show y.toNat < k; omega)
    rintro ⟨n,b',i,h,out⟩ ⟨n0,eb,hc,o,e,ho,hlen⟩ L hL
    simp only at n0 eb hc e hlen
    subst eb e
    by_cases hn : n > 0
    ·obtain ⟨c0,c1,c2,c3,c4,i3,h3,hv,hc3,e3⟩ := ih (k := k) (h := h) hc (by omega) (by omega)
     simp only [Yh.l4,ZY hn,cond_true,hwd,Yh.f_of e3,Z9 (show -9223372036854775808 ≤ n - 1 by omega) (show n - 1 ≤ 9223372036854775807 by omega)]
     rw [ZH (by rw [ZS,List.length_singleton]; omega),deep_app1]
     exact hL _ ⟨by show 0 ≤ n - 1; omega,rfl,hc3,_,rfl,YaU ho hv,by rw [List.length_append,List.length_singleton]; show ((o.length + 1 : Nat) : Int) + (n - 1) ≤ 4; omega⟩ (by show (n - 1).toNat < n.toNat; omega)
    ·simp only [Yh.l4,ZZ hn,cond_false]
     exact ⟨4,(⟨#[]⟩ : BA),0,[],o,i,h,.mk ⟨by omega,by omega⟩ (by decide) ⟨by omega,by omega⟩ (by simp) (by simp) (by omega) ho,hc,by simp only [Zc]⟩
   ·simp only [wk4,cond_true,cond_false,Int.reduceBEq]
    obtain ⟨l,i2,h2,hl,hll,hc2,e2⟩ := labels_ex (k := k) (h := h1) (M := 5) (show Fuel k by show big ≤ k; omega) hc1 (by decide)
    have hll : l.length ≤ 5 := hll
    rw [YN.f_of e2]
    refine Ya0 (fun v => 5 - v.1.toNat) (fun v => 0 ≤ v.1 ∧ v.1 ≤ (l.length : Int) ∧ v.2.1 = b ∧ Cur b v.2.2.1 ∧ ∃ ks o : LD,v.2.2.2.2.1 = ks.map (·.map C.d) ∧ v.2.2.2.2.2 = Zc o ∧ (∀ r ∈ ks,RS lim r) ∧ (∀ r ∈ o,VSm 1000 (d + 1) r) ∧ (o.length : Int) = v.1 ∧ (ks.length : Int) = v.1) (VDrawn b (d + 2)) ?_ (v := (0,b,i2,h2,[],[])) ⟨by simp,by simp,rfl,hc2,[],[],rfl,by simp only [Zc],by simp,by simp,by simp,by simp⟩ (by show 5 - 0 < k; omega)
    rintro ⟨n,b',i,h,keys,out⟩ ⟨n0,n1,eb,hc,ks,o,e,e',hk',ho,hlen,hlen'⟩ L hL
    simp only at n0 n1 eb hc e e' hlen hlen'
    subst eb e e'
    by_cases hn : n < (l.length : Int)
    ·obtain ⟨c0,c1,c2,c3,c4,i3,h3,hv,hc3,e3⟩ := ih (k := k) (h := h) hc (by omega) (by omega)
     have hr := RSS.gets hl n0 hn
     simp only [Yh.l5,map_len,ZY hn,cond_true,ZH (show (0 : Int) ≤ n ∧ n < (l.length : Int) from ⟨n0,hn⟩),atNat_up n0 hn,hr.1,List.map_cons,List.map_nil,List.drop_zero,Z4,cD_at,ZaQ,hwd,Yh.f_of e3,List.length_singleton,Z9 (show -9223372036854775808 ≤ n + 1 by omega) (show n + 1 ≤ 9223372036854775807 by omega)]
     rw [ZH (by omega),ZH (by rw [ZS]; omega),deep_app1]
     exact hL _ ⟨by show 0 ≤ n + 1; omega,by show n + 1 ≤ (l.length : Int); omega,rfl,hc3,ks ++ [[.str (gS l n 0)]],_,by rw [List.map_append]; rfl,rfl,YaU hk' ⟨_,rfl,hr.2.1,trivial⟩,YaU ho hv,by rw [List.length_append,List.length_singleton]; show ((o.length + 1 : Nat) : Int) = n + 1; omega,by rw [List.length_append,List.length_singleton]; show ((ks.length + 1 : Nat) : Int) = n + 1; omega⟩ (by show 5 - (n + 1).toNat < 5 - n.toNat; omega)
    ·simp only [Yh.l5,map_len,ZZ hn,cond_false]
     exact ⟨5,(⟨#[]⟩ : BA),0,ks,o,i,h,.mk ⟨by omega,by omega⟩ (by decide) ⟨by omega,by omega⟩ hk' (by omega) (by omega) ho,hc,by rw [RS.deep hk']⟩
theorem Yai.f_of {β : Type} {k aB aA aC z0 z1 z2 z3} (h : Yai.t k aB aA aC = some (z0,z1,z2,z3)) (K : LD → LD → Int → Int → Option β) : Yai.f k aB aA aC K = K z0 z1 z2 z3 := by unfold Yai.f; rw [h]; rfl
theorem YY.f_of {β : Type} {k a0 z0} (h : YY.t k a0 = some z0) (K : Bool → Option β) : YY.f k a0 K = K z0 := by unfold YY.f; rw [h]; rfl
def textB (s : BA) : Bool := (List.range s.size).all fun i => inB (bS s (i : Int)) 32 126
theorem l4Text_fv {s : BA} (g : s.size ≤ lim) {k : Nat} (hk : Fuel k) {β : Type} (K : Bool → Option β) : YY.f k s K = K (textB s && decide ((s.size : Int) ≤ 100)) := YY.f_of (by
 have hlim : lim = 1048576 := rfl
 have hb : big = 2 ^ 64 := rfl
 unfold YY.t YY.g textB
 rw [iter_all0 (n := s.size) (fun i => inB (bS s (i : Int)) 32 126) (r1 := some false) (r2 := some (decide ((s.size : Int) ≤ 100))) (by unfold Fuel at hk; omega)]
 ·generalize List.all _ _ = x
  cases x <;> rfl
 ·intro L i hi
  simp (disch := omega) only [YY.l0,ZY (show (i : Int) < s.size by omega),cond_true,atStr_at,wrap_b,l1In_fv,Z9]
  generalize inB _ _ _ = x
  cases x <;> rfl
 ·intro L
  simp [YY.l0]) K
theorem YU.f_of {β : Type} {k aB aA aC aD aK z0} (h : YU.t k aB aA aC aD aK = some z0) (K : Bool → Option β) : YU.f k aB aA aC aD aK K = K z0 := by unfold YU.f; rw [h]; rfl
theorem Yt.f_of {β : Type} {k aB aA aC aD aK a1 z0} (h : Yt.t k aB aA aC aD aK a1 = some z0) (K : Int → Option β) : Yt.f k aB aA aC aD aK a1 K = K z0 := by unfold Yt.f Yt.w; rw [h]; rfl
theorem Yt.tm {ι α : Type} {ok : ι → Prop} {ψ : α → Prop} {p : ι → Nat} {B : Nat} (hp : ∀ i,ok i → B ≤ p i) {aB aA aC aD aK a1 φ} (h : Tm (fun k => B ≤ k) (fun k => Yt.t k aB aA aC aD aK a1) φ) {G : ι → Int → Option α} (hG : ∀ z0,φ z0 → Tm ok (fun i => G i z0) ψ) : Tm ok (fun i => Yt.f (p i) aB aA aC aD aK a1 (G i)) ψ := bd1_tm (t := fun k => Yt.t k aB aA aC aD aK a1) hp h hG
set_option maxRecDepth 100000 in
theorem l4Keys_fv {c0 : Int} {c1 : BA} {c2 : Int} {c3 c4 : LD} (g : ZB RS lim c3) {k : Nat} (hk : Fuel k) {β : Type} (K : Bool → Option β) : YU.f k c0 c1 c2 c3 c4 K = K (Ya5 c3 && (c3.length : Int) == (c4.length : Int)) := YU.f_of (by
 have hl := g.1
 have hlim : lim = 1048576 := rfl
 have hb : big = 2 ^ 64 := rfl
 unfold YU.t YU.g
 rw [iter_all0 (n := c3.length) (fun i => Yj.v (gS c3 (i : Int) 0) && (!decide ((i : Int) > 0) || strLt (gS c3 ((i : Int) - 1) 0) (gS c3 (i : Int) 0))) (r1 := some false) (r2 := some ((c3.length : Int) == (c4.length : Int))) (by unfold Fuel at hk; omega)]
 ·unfold Ya5
  generalize List.all _ _ = x
  cases x <;> rfl
 ·intro L i hi
  have k0 := (RS.get g (v := (i : Int)) (by omega) (by omega)).2.1
  simp (disch := omega) only [YU.l0,atR,rdQ,Q.ask,ZY (show (i : Int) < c3.length by omega),cond_true,RS.row g,Z4,ZaQ,Zan,Yj.fv k0 hk,Z9]
  by_cases h0 : (i : Int) > 0
  ·simp (disch := omega) only [ZY h0,cond_true,RS.row g,Z4,ZaQ,Zan]
   cases Yj.v (gS c3 (i : Int) 0) <;> cases strLt (gS c3 ((i : Int) - 1) 0) (gS c3 (i : Int) 0) <;> rfl
  ·simp only [ZZ h0,cond_false]
   cases Yj.v (gS c3 (i : Int) 0) <;> rfl
 ·intro L
  simp [YU.l0,atR,rdQ,Q.ask]) K
def Ybi : BA := (⟨#[]⟩ : BA)
noncomputable def YaZ (kind : Int) (text : BA) (num : Int) (keys kids : LD) : Bool :=
 bif kind == 1 then (keys.length : Int) == 0 && ((kids.length : Int) == 0 && (num == 0 && (textB text && decide ((text.size : Int) ≤ 100))))
 else bif kind == 2 then (keys.length : Int) == 0 && ((kids.length : Int) == 0 && Zae text Ybi)
 else bif kind == 3 then (keys.length : Int) == 0 && ((kids.length : Int) == 0 && (Zae text Ybi && inB num 0 1))
 else bif kind == 4 then (keys.length : Int) == 0 && (Zae text Ybi && num == 0)
 else bif kind == 5 then (Ya5 keys && (keys.length : Int) == (kids.length : Int)) && (Zae text Ybi && num == 0)
 else false
def sumL (f : List D → Int) : LD → Int → Int
 | [],n => n
 | r :: rs,n => if f r = 0 ∨ n + f r > 300 then 0 else sumL f rs (n + f r)
noncomputable def YaL : Nat → List D → Int
 | 0,_ => 0
 | d + 1,r => bif sumL (YaL d) (rL r 4) 1 == 0 then 0 else bif YaZ (rI r 0) (rS r 1) (rI r 2) (rL r 3) (rL r 4) then sumL (YaL d) (rL r 4) 1 else 0
theorem sumL_range {f : List D → Int} (hf : ∀ r,0 ≤ f r) : ∀ {rs : LD} {n : Int},1 ≤ n → n ≤ 300 → 0 ≤ sumL f rs n ∧ sumL f rs n ≤ 300 ∧ (sumL f rs n ≠ 0 → n + rs.length ≤ 300)
 | [],n,h,h' => by simp only [sumL,List.length_nil]; omega
 | r :: rs,n,h,h' => by
  have := hf r
  simp only [sumL]
  split
  ·omega
  ·have := sumL_range hf (rs := rs) (n := n + f r) (by omega) (by omega)
   simp only [List.length_cons]
   omega
theorem Ya9 : ∀ (d : Nat) (r : List D),0 ≤ YaL d r ∧ YaL d r ≤ 300
 | 0,r => by simp [YaL]
 | d + 1,r => by
  have := sumL_range (f := YaL d) (fun r => (Ya9 d r).1) (rs := rL r 4) (n := 1) (by omega) (by omega)
  simp only [YaL]
  generalize sumL (YaL d) (rL r 4) 1 = n at *
  cases n == 0 <;> cases YaZ (rI r 0) (rS r 1) (rI r 2) (rL r 3) (rL r 4) <;> simp <;> omega
set_option maxRecDepth 100000 in
theorem look_t (d : Nat) : ∀ {c0 : Int} {c1 : BA} {c2 : Int} {c3 c4 : LD},c1.size ≤ lim → ZB RS lim c3 → ZB Yu lim c4 → d ≤ 6 → ∀ {k : Nat},big + d + 1 ≤ k → Yt.t k c0 c1 c2 c3 c4 (d : Int) = some (YaL d [.int .i64 c0,.str c1,.int .i64 c2,.sl c3,.sl c4]) := by
 have hlim : lim = 1048576 := rfl
 have hb : big = 2 ^ 64 := rfl
 induction d with
 | zero =>
  intro c0 c1 c2 c3 c4 g1 g3 g4 hd k hk
  cases k with
  | zero => omega
  | succ k => rfl
 | succ d ih =>
  intro c0 c1 c2 c3 c4 g1 g3 g4 hd k hk
  cases k with
  | zero => omega
  | succ k =>
  have hl := g4.1
  have hk0 : Fuel k := by unfold Fuel; omega
  rw [Yt.t_succ]
  unfold Yt.g Yt.body
  rw [show (((d + 1 : Nat) : Int) == 0) = false by rw [beq_eq_false_iff_ne]; omega,cond_false]
  have key := iter_val (b := Yt.l0 k (Yt.f k) ((d + 1 : Nat) : Int) c0 c1 c2 c3 c4 fun z0 => some z0) (fun v => ((c4.length : Int) - v.2).toNat) (fun v => 0 ≤ v.2 ∧ v.2 ≤ c4.length ∧ 1 ≤ v.1 ∧ v.1 ≤ 300)
   (fun v => bif sumL (YaL d) (c4.drop v.2.toNat) v.1 == 0 then some 0 else bif YaZ c0 c1 c2 c3 c4 then some (sumL (YaL d) (c4.drop v.2.toNat) v.1) else some 0) ?_ k (1,0) (by simp only []; omega) (by simp only []; omega)
  ·rw [key]
   simp only [YaL]
   show (bif sumL (YaL d) (List.drop 0 c4) 1 == 0 then some 0 else bif YaZ c0 c1 c2 c3 c4 then some (sumL (YaL d) (List.drop 0 c4) 1) else some 0) = some (bif sumL (YaL d) c4 1 == 0 then 0 else bif YaZ c0 c1 c2 c3 c4 then sumL (YaL d) c4 1 else 0)
   rw [List.drop_zero]
   cases sumL (YaL d) c4 1 == 0 <;> cases YaZ c0 c1 c2 c3 c4 <;> rfl
  ·rintro ⟨n,i⟩ ⟨i0,i1,n0,n1⟩ L hL
   simp only [] at i0 i1 n0 n1 hL ⊢
   by_cases hi : i < c4.length
   ·have hg := Yu.get g4 i0 hi
    have hr := Ya9 d (gR c4 i)
    have ih' := ih (c0 := gI c4 i 0) (c2 := gI c4 i 2) hg.2.2.1 hg.2.2.2.2.1 hg.2.2.2.2.2.1 (by omega) (k := k) (by omega)
    rw [← hg.1] at ih'
    simp (disch := omega) only [Yt.l0,atR,rdQ,Q.ask,ZY hi,cond_true,Yu.row g4,Z4,ZaQ,Z5,Zbl,Zan,Z9,show ((d + 1 : Nat) : Int) - 1 = (d : Int) by omega]
    rw [Yt.f_of ih',drop_gR i0 hi]
    simp only [sumL]
    by_cases hz : YaL d (gR c4 i) = 0
    ·rw [hz]
     simp
    ·rw [show (YaL d (gR c4 i) == 0) = false by rw [beq_eq_false_iff_ne]; exact hz,cond_false,Z9 (by omega) (by omega)]
     by_cases hn : n + YaL d (gR c4 i) > 300
     ·rw [ZY hn,if_pos (.inr hn)]
      rfl
     ·rw [ZZ hn,if_neg (by omega),cond_false,hL _ ⟨by simp only []; omega,by simp only []; omega,by simp only []; omega,by simp only []; omega⟩ (by simp only []; omega)]
   ·rw [drop_end (by omega)]
    simp only [Yt.l0,atR,rdQ,Q.ask,ZZ hi,cond_false,sumL,l4Keys_fv g3 hk0,l1In_fv,l4Text_fv g1 hk0]
    rw [show (n == 0) = false by rw [beq_eq_false_iff_ne]; omega,cond_false]
    unfold YaZ
    generalize (textB c1 && decide ((c1.size : Int) ≤ 100)) = b1
    generalize hb2 : Zae c1 (⟨#[]⟩ : BA) = b2
    have hb3 : Zae c1 Ybi = b2 := hb2
    rw [hb3]
    generalize Ya5 c3 = b3
    generalize inB c2 0 1 = b4
    generalize (c2 == 0) = b5
    generalize ((c4.length : Int) == 0) = b6
    generalize ((c3.length : Int) == (c4.length : Int)) = b7
    generalize ((c3.length : Int) == 0) = b8
    rcases ZaM c0 with rfl | rfl | rfl | rfl | rfl | ⟨e1,e2,e3,e4,e5⟩
    ·cases b1 <;> cases b5 <;> cases b6 <;> cases b8 <;> rfl
    ·cases b2 <;> cases b6 <;> cases b8 <;> rfl
    ·cases b2 <;> cases b4 <;> cases b6 <;> cases b8 <;> rfl
    ·cases b2 <;> cases b5 <;> cases b8 <;> rfl
    ·cases b2 <;> cases b3 <;> cases b5 <;> cases b7 <;> cases b8 <;> rfl
    ·cases b8 <;> simp only [e1,e2,e3,e4,e5,cond_false,cond_true]
theorem look_fv {d c0 : Int} {c1 : BA} {c2 : Int} {c3 c4 : LD} (hd0 : 0 ≤ d) (hd : d ≤ 6) (g1 : c1.size ≤ lim) (g3 : ZB RS lim c3) (g4 : ZB Yu lim c4) {k : Nat} (hk : Zai 1 k) {β : Type} (K : Int → Option β) : Yt.f k c0 c1 c2 c3 c4 d K = K (YaL d.toNat [.int .i64 c0,.str c1,.int .i64 c2,.sl c3,.sl c4]) := by
 have hb : big = 2 ^ 64 := rfl
 have h1 : lv 1 = 2 ^ 65 := rfl
 obtain ⟨n,rfl⟩ : ∃ n : Nat,d = n := ⟨d.toNat,by omega⟩
 exact Yt.f_of (look_t n g1 g3 g4 (by omega) (by unfold Zai at hk; omega)) K
theorem Yt.T {aB : Int} {aA : BA} {aC : Int} {aD aK : LD} {a1 : Int} (h0 : 0 ≤ a1) (h1 : a1 ≤ 6) (g1 : aA.size ≤ lim) (g3 : ZB RS lim aD) (g4 : ZB Yu lim aK) : Tm (Zai 1) (fun k => Yt.t k aB aA aC aD aK a1) (fun _ => True) := by
 have hb : big = 2 ^ 64 := rfl
 have h2 : lv 1 = 2 ^ 65 := rfl
 obtain ⟨n,rfl⟩ : ∃ n : Nat,a1 = n := ⟨a1.toNat,by omega⟩
 exact Tm.of (fun k hk => look_t n g1 g3 g4 (by omega) (by omega)) trivial
theorem Yp.f_of {β : Type} {k aB aA aC aD aK z0} (h : Yp.t k aB aA aC aD aK = some z0) (K : Bool → Option β) : Yp.f k aB aA aC aD aK K = K z0 := by unfold Yp.f; rw [h]; rfl
theorem Yp.tm {ι α : Type} {ok : ι → Prop} {ψ : α → Prop} {p : ι → Nat} {B : Nat} (hp : ∀ i,ok i → B ≤ p i) {aB aA aC aD aK φ} (h : Tm (fun k => B ≤ k) (fun k => Yp.t k aB aA aC aD aK) φ) {G : ι → Bool → Option α} (hG : ∀ z0,φ z0 → Tm ok (fun i => G i z0) ψ) : Tm ok (fun i => Yp.f (p i) aB aA aC aD aK (G i)) ψ := bd1_tm (t := fun k => Yp.t k aB aA aC aD aK) hp h hG
theorem Yp.T {aB : Int} {aA : BA} {aC : Int} {aD aK : LD} (ga0_1 : aA.size ≤ lim) (ga0_3 : ZB RS lim aD) (ga0_4 : ZB Yu lim aK) : Tm (Zai 1) (fun k => Yp.t k aB aA aC aD aK) (fun _ => True) := by
 unfold Yp.t Yp.g
 have hm := maxLen_eq
 have hlim : lim = 1048576 := rfl
 have la0_3 := ga0_3.1
 have la0_4 := ga0_4.1
 refine Yt.tm (fun i hi => hi) (Yt.T (by first | assumption | omega) (by first | assumption | omega) (by first | assumption | omega) (by first | assumption | omega) (by first | assumption | omega)) (fun y2 hy1 => ?_)
 exact Tm.ret (by trivial)
noncomputable def Yp.v (aB : Int) (aA : BA) (aC : Int) (aD aK : LD) : Bool := (Yp.t (lv 1) aB aA aC aD aK).getD default
theorem Yp.tv {aB : Int} {aA : BA} {aC : Int} {aD aK : LD} (ga0_1 : aA.size ≤ lim) (ga0_3 : ZB RS lim aD) (ga0_4 : ZB Yu lim aK) {k : Nat} (hk : (Zai 1) k) : Yp.t k aB aA aC aD aK = some (Yp.v aB aA aC aD aK) := (Yp.T ga0_1 ga0_3 ga0_4).val hk
theorem Yp.fv {aB : Int} {aA : BA} {aC : Int} {aD aK : LD} (ga0_1 : aA.size ≤ lim) (ga0_3 : ZB RS lim aD) (ga0_4 : ZB Yu lim aK) {k : Nat} (hk : (Zai 1) k) {β : Type} (K : Bool → Option β) : Yp.f k aB aA aC aD aK K = K (Yp.v aB aA aC aD aK) := Yp.f_of (Yp.tv ga0_1 ga0_3 ga0_4 hk) K
theorem Yo.f_of {β : Type} {k a0 z0} (h : Yo.t k a0 = some z0) (K : Bool → Option β) : Yo.f k a0 K = K z0 := by unfold Yo.f; rw [h]; rfl
theorem Yo.tm {ι α : Type} {ok : ι → Prop} {ψ : α → Prop} {p : ι → Nat} {B : Nat} (hp : ∀ i,ok i → B ≤ p i) {a0 φ} (h : Tm (fun k => B ≤ k) (fun k => Yo.t k a0) φ) {G : ι → Bool → Option α} (hG : ∀ z0,φ z0 → Tm ok (fun i => G i z0) ψ) : Tm ok (fun i => Yo.f (p i) a0 (G i)) ψ := bd1_tm (t := fun k => Yo.t k a0) hp h hG
set_option maxRecDepth 100000 in
theorem Yo.T {a0 : LD} (ga0 : ZB RS lim a0) : Tm Fuel (fun k => Yo.t k a0) (fun _ => True) := by
 unfold Yo.t Yo.g
 have hm := maxLen_eq
 have hlim : lim = 1048576 := rfl
 have la0 := ga0.1
 refine Tm.loop (okk := Fuel) (p := fun k => k) (fun i hi => hi) (b := fun k => Yo.l0 k a0 (fun z0 => some z0)) (fun i => (((a0.length : Int)) - i).toNat) (fun i => 0 ≤ i ∧ i ≤ (a0.length : Int)) ?_ ?_ ?_
 ·rintro i hI
  try simp only [] at hI ⊢
  have : big = 2 ^ 64 := rfl
  omega
 ·((try simp only []); omega)
 ·rintro i hI L hL
  try simp only [] at hI
  obtain ⟨i0,i1⟩ := hI
  simp only [Yo.l0,atR,rdQ,Q.ask]
  refine Tm.ite (fun h1 => ?_) (fun h1 => ?_)
  ·try simp only [bz0,bz1,bz2,bz3,bz4,bz5,bz6,bz7,bz8,bz9,bza] at h1
   refine Tm.atRow (by first | assumption | omega) (by first | assumption | omega) (fun x2 hx3 hm4 => ?_)
   obtain ⟨c5,rfl,g6,_⟩ := (ga0.2 x2 hm4).open
   refine Tm.uncons ?_
   refine Tm.dStr ?_
   refine Tm.atEnd ?_
   refine Yj.tm (fun i hi => hi.1) (Yj.T (by first | assumption | omega)) (fun y8 hy7 => ?_)
   refine Tm.ite (fun h9 => ?_) (fun h9 => ?_)
   ·try simp only [bz0,bz1,bz2,bz3,bz4,bz5,bz6,bz7,bz8,bz9,bza] at h9
    exact Tm.ret (by trivial)
   ·try simp only [bz0,bz1,bz2,bz3,bz4,bz5,bz6,bz7,bz8,bz9,bza] at h9
    refine Tm.ite (fun h10 => ?_) (fun h10 => ?_)
    ·try simp only [bz0,bz1,bz2,bz3,bz4,bz5,bz6,bz7,bz8,bz9,bza] at h10
     try rw [Z9 (x := i - 1) (by omega) (by omega)]
     refine Tm.atRow (by first | assumption | omega) (by first | assumption | omega) (fun x11 hx12 hm13 => ?_)
     obtain ⟨c14,rfl,g15,_⟩ := (ga0.2 x11 hm13).open
     refine Tm.uncons ?_
     refine Tm.dStr ?_
     refine Tm.atEnd ?_
     refine Tm.atRow (by first | assumption | omega) (by first | assumption | omega) (fun x16 hx17 hm18 => ?_)
     rw [hx3] at hx17
     injection hx17 with hx17
     subst hx17
     refine Tm.uncons ?_
     refine Tm.dStr ?_
     refine Tm.atEnd ?_
     refine Tm.ite (fun h20 => ?_) (fun h20 => ?_)
     ·try simp only [bz0,bz1,bz2,bz3,bz4,bz5,bz6,bz7,bz8,bz9,bza] at h20
      exact Tm.ret (by trivial)
     ·try simp only [bz0,bz1,bz2,bz3,bz4,bz5,bz6,bz7,bz8,bz9,bza] at h20
      try rw [Z9 (x := i + 1) (by omega) (by omega)]
      exact hL _ (by (try simp only []); omega) (by (try simp only []); omega)
    ·try simp only [bz0,bz1,bz2,bz3,bz4,bz5,bz6,bz7,bz8,bz9,bza] at h10
     try rw [Z9 (x := i + 1) (by omega) (by omega)]
     exact hL _ (by (try simp only []); omega) (by (try simp only []); omega)
  ·try simp only [bz0,bz1,bz2,bz3,bz4,bz5,bz6,bz7,bz8,bz9,bza] at h1
   exact Tm.ret (by trivial)
noncomputable def Yo.v (a0 : LD) : Bool := (Yo.t big a0).getD default
theorem Yo.tv {a0 : LD} (ga0 : ZB RS lim a0) {k : Nat} (hk : Fuel k) : Yo.t k a0 = some (Yo.v a0) := (Yo.T ga0).val hk
theorem Yo.fv {a0 : LD} (ga0 : ZB RS lim a0) {k : Nat} (hk : Fuel k) {β : Type} (K : Bool → Option β) : Yo.f k a0 K = K (Yo.v a0) := Yo.f_of (Yo.tv ga0 hk) K
theorem Yaf.f_of {β : Type} {k aB aA aC aD aK bY bA bH bB bI bC bD bJ bE bK bF bG a1 a2 a3 z0} (h : Yaf.t k aB aA aC aD aK bY bA bH bB bI bC bD bJ bE bK bF bG a1 a2 a3 = some z0) (K : Bool → Option β) : Yaf.f k aB aA aC aD aK bY bA bH bB bI bC bD bJ bE bK bF bG a1 a2 a3 K = K z0 := by unfold Yaf.f; rw [h]; rfl
theorem Yaf.tm {ι α : Type} {ok : ι → Prop} {ψ : α → Prop} {p : ι → Nat} {B : Nat} (hp : ∀ i,ok i → B ≤ p i) {aB aA aC aD aK bY bA bH bB bI bC bD bJ bE bK bF bG a1 a2 a3 φ} (h : Tm (fun k => B ≤ k) (fun k => Yaf.t k aB aA aC aD aK bY bA bH bB bI bC bD bJ bE bK bF bG a1 a2 a3) φ) {G : ι → Bool → Option α} (hG : ∀ z0,φ z0 → Tm ok (fun i => G i z0) ψ) : Tm ok (fun i => Yaf.f (p i) aB aA aC aD aK bY bA bH bB bI bC bD bJ bE bK bF bG a1 a2 a3 (G i)) ψ := bd1_tm (t := fun k => Yaf.t k aB aA aC aD aK bY bA bH bB bI bC bD bJ bE bK bF bG a1 a2 a3) hp h hG
theorem Yaf.T {aB : Int} {aA : BA} {aC aD aK : Int} {bY : Bool} {bA : LD} {bH : Int} {bB : BA} {bI : Int} {bC bD : LD} {bJ : Int} {bE : BA} {bK : Int} {bF bG : LD} {a1 a2 : Int} {a3 : Bool} (ga0_1 : aA.size ≤ lim) (ga0_6 : ZB RS lim bA) (ga0_8 : bB.size ≤ lim) (ga0_10 : ZB RS lim bC) (ga0_11 : ZB Yu lim bD) (ga0_13 : bE.size ≤ lim) (ga0_15 : ZB RS lim bF) (ga0_16 : ZB Yu lim bG) : Tm (Zai 1) (fun k => Yaf.t k aB aA aC aD aK bY bA bH bB bI bC bD bJ bE bK bF bG a1 a2 a3) (fun _ => True) := by
 unfold Yaf.t Yaf.g
 have hm := maxLen_eq
 have hlim : lim = 1048576 := rfl
 have la0_6 := ga0_6.1
 have la0_10 := ga0_10.1
 have la0_11 := ga0_11.1
 have la0_15 := ga0_15.1
 have la0_16 := ga0_16.1
 refine YF.tm (fun i hi => up0 hi) (YF.T) (fun y2 hy1 => ?_)
 refine Tm.ite (fun h3 => ?_) (fun h3 => ?_)
 ·try simp only [bz0,bz1,bz2,bz3,bz4,bz5,bz6,bz7,bz8,bz9,bza] at h3
  have z4 := hy1 h3
  refine Yj.tm (fun i hi => up0 hi) (Yj.T (by first | assumption | omega)) (fun y6 hy5 => ?_)
  refine Tm.ite (fun h7 => ?_) (fun h7 => ?_)
  ·try simp only [bz0,bz1,bz2,bz3,bz4,bz5,bz6,bz7,bz8,bz9,bza] at h7
   try rw [Z9 (x := a2 - 1) (by omega) (by omega)]
   refine YF.tm (fun i hi => up0 hi) (YF.T) (fun y9 hy8 => ?_)
   refine Tm.ite (fun h10 => ?_) (fun h10 => ?_)
   ·try simp only [bz0,bz1,bz2,bz3,bz4,bz5,bz6,bz7,bz8,bz9,bza] at h10
    have z11 := hy8 h10
    refine YF.tm (fun i hi => up0 hi) (YF.T) (fun y13 hy12 => ?_)
    refine Tm.ite (fun h14 => ?_) (fun h14 => ?_)
    ·try simp only [bz0,bz1,bz2,bz3,bz4,bz5,bz6,bz7,bz8,bz9,bza] at h14
     have z15 := hy12 h14
     refine YF.tm (fun i hi => up0 hi) (YF.T) (fun y17 hy16 => ?_)
     refine Tm.ite (fun h18 => ?_) (fun h18 => ?_)
     ·try simp only [bz0,bz1,bz2,bz3,bz4,bz5,bz6,bz7,bz8,bz9,bza] at h18
      have z19 := hy16 h18
      refine Yo.tm (fun i hi => up0 hi) (Yo.T (by first | assumption | omega)) (fun y21 hy20 => ?_)
      refine Tm.ite (fun h22 => ?_) (fun h22 => ?_)
      ·try simp only [bz0,bz1,bz2,bz3,bz4,bz5,bz6,bz7,bz8,bz9,bza] at h22
       refine Yp.tm (fun i hi => hi) (Yp.T (by first | assumption | omega) (by first | assumption | omega) (by first | assumption | omega)) (fun y24 hy23 => ?_)
       refine Tm.ite (fun h25 => ?_) (fun h25 => ?_)
       ·try simp only [bz0,bz1,bz2,bz3,bz4,bz5,bz6,bz7,bz8,bz9,bza] at h25
        refine Yp.tm (fun i hi => hi) (Yp.T (by first | assumption | omega) (by first | assumption | omega) (by first | assumption | omega)) (fun y27 hy26 => ?_)
        refine Tm.ite (fun h28 => ?_) (fun h28 => ?_)
        ·try simp only [bz0,bz1,bz2,bz3,bz4,bz5,bz6,bz7,bz8,bz9,bza] at h28
         refine Tm.ite (fun h29 => ?_) (fun h29 => ?_)
         ·try simp only [bz0,bz1,bz2,bz3,bz4,bz5,bz6,bz7,bz8,bz9,bza] at h29
          exact Tm.ret (by trivial)
         ·try simp only [bz0,bz1,bz2,bz3,bz4,bz5,bz6,bz7,bz8,bz9,bza] at h29
          refine Tm.ite (fun h30 => ?_) (fun h30 => ?_)
          ·try simp only [bz0,bz1,bz2,bz3,bz4,bz5,bz6,bz7,bz8,bz9,bza] at h30
           exact Tm.ret (by trivial)
          ·try simp only [bz0,bz1,bz2,bz3,bz4,bz5,bz6,bz7,bz8,bz9,bza] at h30
           exact Tm.ret (by trivial)
        ·try simp only [bz0,bz1,bz2,bz3,bz4,bz5,bz6,bz7,bz8,bz9,bza] at h28
         exact Tm.ret (by trivial)
       ·try simp only [bz0,bz1,bz2,bz3,bz4,bz5,bz6,bz7,bz8,bz9,bza] at h25
        exact Tm.ret (by trivial)
      ·try simp only [bz0,bz1,bz2,bz3,bz4,bz5,bz6,bz7,bz8,bz9,bza] at h22
       exact Tm.ret (by trivial)
     ·try simp only [bz0,bz1,bz2,bz3,bz4,bz5,bz6,bz7,bz8,bz9,bza] at h18
      exact Tm.ret (by trivial)
    ·try simp only [bz0,bz1,bz2,bz3,bz4,bz5,bz6,bz7,bz8,bz9,bza] at h14
     exact Tm.ret (by trivial)
   ·try simp only [bz0,bz1,bz2,bz3,bz4,bz5,bz6,bz7,bz8,bz9,bza] at h10
    exact Tm.ret (by trivial)
  ·try simp only [bz0,bz1,bz2,bz3,bz4,bz5,bz6,bz7,bz8,bz9,bza] at h7
   exact Tm.ret (by trivial)
 ·try simp only [bz0,bz1,bz2,bz3,bz4,bz5,bz6,bz7,bz8,bz9,bza] at h3
  exact Tm.ret (by trivial)
theorem Yas.f_of {β : Type} {k aB aA aC aD aK bY bA bH bB bI bC bD bJ bE bK bF bG aQ aR aT aV aX bL bM bN bO bP bQ bR bT bU bV bW bX z0} (h : Yas.t k aB aA aC aD aK bY bA bH bB bI bC bD bJ bE bK bF bG aQ aR aT aV aX bL bM bN bO bP bQ bR bT bU bV bW bX = some z0) (K : Bool → Option β) : Yas.f k aB aA aC aD aK bY bA bH bB bI bC bD bJ bE bK bF bG aQ aR aT aV aX bL bM bN bO bP bQ bR bT bU bV bW bX K = K z0 := by unfold Yas.f; rw [h]; rfl
theorem Yl.f_of {β : Type} {k a0 a1 a2 z0} (h : Yl.t k a0 a1 a2 = some z0) (K : Bool → Option β) : Yl.f k a0 a1 a2 K = K z0 := by unfold Yl.f; rw [h]; rfl
theorem Yl.tm {ι α : Type} {ok : ι → Prop} {ψ : α → Prop} {p : ι → Nat} {B : Nat} (hp : ∀ i,ok i → B ≤ p i) {a0 a1 a2 φ} (h : Tm (fun k => B ≤ k) (fun k => Yl.t k a0 a1 a2) φ) {G : ι → Bool → Option α} (hG : ∀ z0,φ z0 → Tm ok (fun i => G i z0) ψ) : Tm ok (fun i => Yl.f (p i) a0 a1 a2 (G i)) ψ := bd1_tm (t := fun k => Yl.t k a0 a1 a2) hp h hG
noncomputable def objV (x0 : Int) (x1 : BA) (x2 x3 x4 : Int) (x5 : Bool) (x6 : LD) (x7 : Int) (x8 : BA) (x9 : Int) (x10 x11 : LD) (x12 : Int) (x13 : BA) (x14 : Int) (x15 x16 : LD) (Z8 rev : Int) (gone : Bool) : Bool :=
 inB x0 1 3 && (Yj.v x1 && (inB x2 1 Z8 && (inB x3 1 rev && (inB x4 1 x3 && (Yo.v x6 && (Yp.v x7 x8 x9 x10 x11 && (Yp.v x12 x13 x14 x15 x16 && (gone || (!x5 || decide ((x6.length : Int) > 0))))))))))
theorem l7Obj_fv {x0 : Int} {x1 : BA} {x2 x3 x4 : Int} {x5 : Bool} {x6 : LD} {x7 : Int} {x8 : BA} {x9 : Int} {x10 x11 : LD} {x12 : Int} {x13 : BA} {x14 : Int} {x15 x16 : LD} {rev next : Int} {gone : Bool} (g1 : x1.size ≤ lim) (g6 : ZB RS lim x6) (g8 : x8.size ≤ lim) (g10 : ZB RS lim x10) (g11 : ZB Yu lim x11) (g13 : x13.size ≤ lim) (g15 : ZB RS lim x15) (g16 : ZB Yu lim x16) {k : Nat} (hk : Zai 1 k) {β : Type} (K : Bool → Option β) :
  Yaf.f k x0 x1 x2 x3 x4 x5 x6 x7 x8 x9 x10 x11 x12 x13 x14 x15 x16 rev next gone K = K (objV x0 x1 x2 x3 x4 x5 x6 x7 x8 x9 x10 x11 x12 x13 x14 x15 x16 (IntKind.wrap .i64 (next - 1)) rev gone) := Yaf.f_of (by
 have hk0 : Fuel k := up0 hk
 unfold Yaf.t Yaf.g objV
 simp only [l1In_fv,Yj.fv g1 hk0,Yo.fv g6 hk0,Yp.fv g8 g10 g11 hk,Yp.fv g13 g15 g16 hk]
 generalize inB x0 1 3 = b0
 generalize Yj.v x1 = b1
 generalize inB x2 1 (IntKind.wrap .i64 (next - 1)) = b2
 generalize inB x3 1 rev = b3
 generalize inB x4 1 x3 = b4
 generalize Yo.v x6 = b5
 generalize Yp.v x7 x8 x9 x10 x11 = b6
 generalize Yp.v x12 x13 x14 x15 x16 = b7
 cases b0
 ·rfl
 cases b1
 ·rfl
 cases b2
 ·rfl
 cases b3
 ·rfl
 cases b4
 ·rfl
 cases b5
 ·rfl
 cases b6
 ·rfl
 cases b7
 ·rfl
 cases gone <;> cases x5 <;> rfl) K
noncomputable def lessV (x0 : Int) (x1 : BA) (y0 : Int) (y1 : BA) : Bool := decide (x0 < y0) || ((x0 == y0) && strLt x1 y1)
theorem l7Less_fv {x0 : Int} {x1 : BA} {x2 x3 x4 : Int} {x5 : Bool} {x6 : LD} {x7 : Int} {x8 : BA} {x9 : Int} {x10 x11 : LD} {x12 : Int} {x13 : BA} {x14 : Int} {x15 x16 : LD} {y0 : Int} {y1 : BA} {y2 y3 y4 : Int} {y5 : Bool} {y6 : LD} {y7 : Int} {y8 : BA} {y9 : Int} {y10 y11 : LD} {y12 : Int} {y13 : BA} {y14 : Int} {y15 y16 : LD} {k : Nat} {β : Type} (K : Bool → Option β) :
  Yas.f k x0 x1 x2 x3 x4 x5 x6 x7 x8 x9 x10 x11 x12 x13 x14 x15 x16 y0 y1 y2 y3 y4 y5 y6 y7 y8 y9 y10 y11 y12 y13 y14 y15 y16 K = K (lessV x0 x1 y0 y1) := Yas.f_of (by
 unfold Yas.t Yas.g lessV
 cases decide (x0 < y0) <;> cases x0 == y0 <;> rfl) K
noncomputable def objR (a : LD) (i Z8 rev : Int) : Bool := objV (gI a i 0) (gS a i 1) (gI a i 2) (gI a i 3) (gI a i 4) (gB a i 5) (gL a i 6) (gI a i 7) (gS a i 8) (gI a i 9) (gL a i 10) (gL a i 11) (gI a i 12) (gS a i 13) (gI a i 14) (gL a i 15) (gL a i 16) Z8 rev false
noncomputable def objsP (a : LD) (Z8 rev : Int) (i : Nat) : Bool := objR a i Z8 rev && ((!decide ((i : Int) > 0) || lessV (gI a ((i : Int) - 1) 0) (gS a ((i : Int) - 1) 1) (gI a (i : Int) 0) (gS a (i : Int) 1)) && (List.range i).all fun j => !(gI a (j : Int) 2 == gI a (i : Int) 2))
noncomputable def objsB (a : LD) (Z8 rev : Int) : Bool := (List.range a.length).all (objsP a Z8 rev) && decide ((a.length : Int) ≤ 60)
set_option maxRecDepth 100000 in
theorem l7Objs_t {a : LD} {rev next : Int} (g : ZB Ya lim a) {k : Nat} (hk : Zai 1 k) : Yl.t k a rev next = some (objsB a (IntKind.wrap .i64 (next - 1)) rev) := by
 have hk0 : Fuel k := up0 hk
 have hl := g.1
 have hlim : lim = 1048576 := rfl
 have hb : big = 2 ^ 64 := rfl
 unfold Yl.t Yl.g
 refine (iter_allT (fun i => (a,rev,next,(i : Int))) (n := a.length) (objsP a (IntKind.wrap .i64 (next - 1)) rev) (r1 := some false) (r2 := some (decide ((a.length : Int) ≤ 60))) (by unfold Fuel at hk0; omega) (fun L i hi => ?_) (fun L => by simp [Yl.l0,Yl.m0,atR,rdQ,Q.ask])).trans ?_
 ·obtain ⟨-,-,k1,-,-,-,k6,-,k8,-,k10,k11,-,k13,-,k15,k16,-⟩ := Ya.get g (v := (i : Int)) (by omega) (by omega)
  have hin : ∀ {b : (Int → Option Bool) → Int → Option Bool},(∀ (L1 : Int → Option Bool) (j : Nat),j < i → b L1 (j : Int) = bif !(gI a (j : Int) 2 == gI a (i : Int) 2) then L1 ((j : Int) + 1) else some false) → (∀ L1,b L1 (i : Int) = L (a,rev,next,((i + 1 : Nat) : Int))) → ZA b k 0 = bif (List.range i).all (fun j => !(gI a (j : Int) 2 == gI a (i : Int) 2)) then L (a,rev,next,((i + 1 : Nat) : Int)) else some false := fun q1 q2 => iter_all0 _ (by unfold Fuel at hk0; omega) q1 q2
  have e1 : ZA (Yl.l1 k a rev next (i : Int) L some) k 0 = bif (List.range i).all (fun j => !(gI a (j : Int) 2 == gI a (i : Int) 2)) then L (a,rev,next,((i + 1 : Nat) : Int)) else some false := hin (fun L1 j hj => by
   simp (disch := omega) only [Yl.l1,atR,rdQ,Q.ask,ZY (show (j : Int) < i by omega),cond_true,Ya.row g,Z4,Z5,ZaQ,ZaV,Zbl,Zan,Z9]
   cases gI a (j : Int) 2 == gI a (i : Int) 2 <;> rfl) (fun L1 => by
   simp (disch := omega) only [Yl.l1,atR,rdQ,Q.ask,ZZ (show ¬ (i : Int) < i by omega),cond_false,Z9]
   rfl)
  have e2 : ZA (Yl.l2 k a rev next (i : Int) L some) k 0 = bif (List.range i).all (fun j => !(gI a (j : Int) 2 == gI a (i : Int) 2)) then L (a,rev,next,((i + 1 : Nat) : Int)) else some false := hin (fun L1 j hj => by
   simp (disch := omega) only [Yl.l2,atR,rdQ,Q.ask,ZY (show (j : Int) < i by omega),cond_true,Ya.row g,Z4,Z5,ZaQ,ZaV,Zbl,Zan,Z9]
   cases gI a (j : Int) 2 == gI a (i : Int) 2 <;> rfl) (fun L1 => by
   simp (disch := omega) only [Yl.l2,atR,rdQ,Q.ask,ZZ (show ¬ (i : Int) < i by omega),cond_false,Z9]
   rfl)
  have e3 : ∀ {F : Bool → Option Bool},Yaf.f k (gI a i 0) (gS a i 1) (gI a i 2) (gI a i 3) (gI a i 4) (gB a i 5) (gL a i 6) (gI a i 7) (gS a i 8) (gI a i 9) (gL a i 10) (gL a i 11) (gI a i 12) (gS a i 13) (gI a i 14) (gL a i 15) (gL a i 16) rev next false F = F (objR a i (IntKind.wrap .i64 (next - 1)) rev) := l7Obj_fv k1 k6 k8 k10 k11 k13 k15 k16 hk _
  unfold objsP
  simp (disch := omega) only [Yl.l0,Yl.m0,atR,rdQ,Q.ask,ZY (show (i : Int) < a.length by omega),cond_true,Ya.row g,Z4,Z5,ZaQ,ZaV,Zbl,Zan,e3,e1,e2]
  cases objR a (i : Int) (IntKind.wrap .i64 (next - 1)) rev
  ·rfl
  by_cases h0 : (i : Int) > 0
  ·simp (disch := omega) only [ZY h0,cond_true,Z9,Ya.row g,Z4,Z5,ZaQ,ZaV,Zbl,Zan,l7Less_fv,Bool.not_true,cond_false]
   cases lessV (gI a ((i : Int) - 1) 0) (gS a ((i : Int) - 1) 1) (gI a (i : Int) 0) (gS a (i : Int) 1) <;> rfl
  ·simp only [ZZ h0,cond_false,Bool.not_true,Bool.not_false,Bool.true_or,Bool.true_and]
 ·unfold objsB
  cases (List.range a.length).all (objsP a (IntKind.wrap .i64 (next - 1)) rev) <;> rfl
theorem l7Objs_fv {a : LD} {rev next : Int} (g : ZB Ya lim a) {k : Nat} (hk : Zai 1 k) {β : Type} (K : Bool → Option β) : Yl.f k a rev next K = K (objsB a (IntKind.wrap .i64 (next - 1)) rev) := Yl.f_of (l7Objs_t g hk) K
theorem Yl.T {a0 : LD} {a1 a2 : Int} (g : ZB Ya lim a0) : Tm (Zai 1) (fun k => Yl.t k a0 a1 a2) (fun _ => True) := Tm.of (v := objsB a0 (IntKind.wrap .i64 (a2 - 1)) a1) (fun k hk => l7Objs_t g hk) trivial
theorem bl_step (x y : UInt8) (xs ys : List UInt8) : Op.bytesLess (x :: xs) (y :: ys) = true ↔ x.toNat < y.toNat ∨ (x = y ∧ Op.bytesLess xs ys = true) := by
 rw [show Op.bytesLess (x :: xs) (y :: ys) = (decide (x < y) || (x == y && Op.bytesLess xs ys)) by simp only [Op.bytesLess]]
 by_cases h : x < y
 ·have : x.toNat < y.toNat := UInt8.lt_iff_toNat_lt.mp h
  simp [h,this]
 ·have hn : ¬ x.toNat < y.toNat := fun q => h (UInt8.lt_iff_toNat_lt.mpr q)
  by_cases e : x = y
  ·subst e; simp [h]
  ·have h2 : y < x := by
    refine UInt8.lt_iff_toNat_lt.mpr ?_
    have : x.toNat ≠ y.toNat := fun q => e (UInt8.toNat_inj.mp q)
    omega
   simp [h,hn,e,h2]
theorem bl_trans : ∀ {x y z : List UInt8},Op.bytesLess x y = true → Op.bytesLess y z = true → Op.bytesLess x z = true
 | [],[],z,h,_ => by simp [Op.bytesLess] at h
 | [],_ :: _,[],_,h => by simp [Op.bytesLess] at h
 | [],_ :: _,_ :: _,_,_ => by simp [Op.bytesLess]
 | _ :: _,[],_,h,_ => by simp [Op.bytesLess] at h
 | _ :: _,_ :: _,[],_,h => by simp [Op.bytesLess] at h
 | x :: xs,y :: ys,z :: zs,h1,h2 => by
  rw [bl_step] at h1 h2 ⊢
  rcases h1 with h1 | ⟨rfl,h1⟩ <;> rcases h2 with h2 | ⟨rfl,h2⟩
  ·exact .inl (by omega)
  ·exact .inl h1
  ·exact .inl h2
  ·exact .inr ⟨rfl,bl_trans h1 h2⟩
theorem bl_irr : ∀ x : List UInt8,Op.bytesLess x x = false
 | [] => by simp [Op.bytesLess]
 | x :: xs => by
  cases h : Op.bytesLess (x :: xs) (x :: xs)
  ·rfl
  ·rw [bl_step] at h
   rcases h with h | ⟨_,h⟩
   ·omega
   ·rw [bl_irr xs] at h; cases h
theorem bl_tri : ∀ {x y : List UInt8},Op.bytesLess x y = false → x ≠ y → Op.bytesLess y x = true
 | [],[],_,h => absurd rfl h
 | [],_ :: _,h,_ => by simp [Op.bytesLess] at h
 | _ :: _,[],_,_ => by simp [Op.bytesLess]
 | x :: xs,y :: ys,h,hne => by
  rw [bl_step]
  have h' : ¬ (x.toNat < y.toNat ∨ (x = y ∧ Op.bytesLess xs ys = true)) := fun q => by rw [(bl_step x y xs ys).mpr q] at h; cases h
  by_cases e : x = y
  ·subst e
   refine .inr ⟨rfl,bl_tri ?_ fun q => hne (by rw [q])⟩
   cases q : Op.bytesLess xs ys
   ·rfl
   ·exact absurd (.inr ⟨rfl,q⟩) h'
  ·have : x.toNat ≠ y.toNat := fun q => e (UInt8.toNat_inj.mp q)
   exact .inl (by have := fun q => h' (.inl q); omega)
theorem strEq_iff2 {a b : BA} : Zae a b = true ↔ a.toList = b.toList := by unfold Zae; exact beq_iff_eq
noncomputable def Yab (x y : List D) : Bool := lessV (rI x 0) (rS x 1) (rI y 0) (rS y 1)
def YaN (x y : List D) : Bool := (rI x 0 == rI y 0) && Zae (rS x 1) (rS y 1)
theorem YaX {x y : List D} : Yab x y = true ↔ rI x 0 < rI y 0 ∨ (rI x 0 = rI y 0 ∧ Op.bytesLess (rS x 1).toList (rS y 1).toList = true) := by
 unfold Yab lessV strLt
 simp
theorem sameR_iff {x y : List D} : YaN x y = true ↔ rI x 0 = rI y 0 ∧ (rS x 1).toList = (rS y 1).toList := by
 unfold YaN
 rw [Bool.and_eq_true,beq_iff_eq,strEq_iff2]
theorem Ya2 : Ordered Yab YaN where
 irr x y h := by
  obtain ⟨h1,h2⟩ := sameR_iff.mp h
  cases q : Yab x y
  ·rfl
  ·rcases YaX.mp q with z | ⟨_,z⟩
   ·omega
   ·rw [h2,bl_irr] at z; cases z
 tri x y h1 h2 := by
  have h1' : ¬ (rI x 0 < rI y 0 ∨ (rI x 0 = rI y 0 ∧ Op.bytesLess (rS x 1).toList (rS y 1).toList = true)) := fun q => by rw [YaX.mpr q] at h1; cases h1
  have h2' : ¬ (rI x 0 = rI y 0 ∧ (rS x 1).toList = (rS y 1).toList) := fun q => by rw [sameR_iff.mpr q] at h2; cases h2
  refine YaX.mpr ?_
  by_cases e : rI x 0 = rI y 0
  ·refine .inr ⟨e.symm,bl_tri ?_ fun q => h2' ⟨e,q⟩⟩
   cases q : Op.bytesLess (rS x 1).toList (rS y 1).toList
   ·rfl
   ·exact absurd (.inr ⟨e,q⟩) h1'
  ·exact .inl (by have := fun q => h1' (.inl q); omega)
 asym x y h := by
  cases q : Yab y x
  ·rfl
  ·rcases YaX.mp h with z | ⟨z1,z2⟩ <;> rcases YaX.mp q with u | ⟨u1,u2⟩
   ·omega
   ·omega
   ·omega
   ·have := bl_trans z2 u2
    rw [bl_irr] at this; cases this
 trans x y z h1 h2 := by
  refine YaX.mpr ?_
  rcases YaX.mp h1 with z1 | ⟨z1,z2⟩ <;> rcases YaX.mp h2 with u | ⟨u1,u2⟩
  ·exact .inl (by omega)
  ·exact .inl (by omega)
  ·exact .inl (by omega)
  ·exact .inr ⟨by omega,bl_trans z2 u2⟩
 cong x y z h1 h2 := by
  obtain ⟨a1,a2⟩ := sameR_iff.mp h1
  refine YaX.mpr ?_
  rcases YaX.mp h2 with u | ⟨u1,u2⟩
  ·exact .inl (by omega)
  ·exact .inr ⟨by omega,by rw [a2]; exact u2⟩
 sym x y h := by
  obtain ⟨a1,a2⟩ := sameR_iff.mp h
  exact sameR_iff.mpr ⟨a1.symm,a2.symm⟩
theorem Ym.f_of {β : Type} {k aB aA aC aD z0} (h : Ym.t k aB aA aC aD = some z0) (K : Bool → Option β) : Ym.f k aB aA aC aD K = K z0 := by unfold Ym.f; rw [h]; rfl
theorem Ym.tm {ι α : Type} {ok : ι → Prop} {ψ : α → Prop} {p : ι → Nat} {B : Nat} (hp : ∀ i,ok i → B ≤ p i) {aB aA aC aD φ} (h : Tm (fun k => B ≤ k) (fun k => Ym.t k aB aA aC aD) φ) {G : ι → Bool → Option α} (hG : ∀ z0,φ z0 → Tm ok (fun i => G i z0) ψ) : Tm ok (fun i => Ym.f (p i) aB aA aC aD (G i)) ψ := bd1_tm (t := fun k => Ym.t k aB aA aC aD) hp h hG
set_option maxRecDepth 100000 in
theorem Ym.T {aB : LD} {aA aC : Int} {aD : LD} (ga0_0 : ZB Ya lim aB) (ga0_3 : ZB Yb lim aD) : Tm (Zai 1) (fun k => Ym.t k aB aA aC aD) (fun _ => True) := by
 unfold Ym.t Ym.g Ym.m
 have hm := maxLen_eq
 have hlim : lim = 1048576 := rfl
 have la0_0 := ga0_0.1
 have la0_3 := ga0_3.1
 refine YF.tm (fun i hi => up0 hi) (YF.T) (fun y2 hy1 => ?_)
 refine Tm.ite (fun h3 => ?_) (fun h3 => ?_)
 ·try simp only [bz0,bz1,bz2,bz3,bz4,bz5,bz6,bz7,bz8,bz9,bza] at h3
  exact Tm.ret (by trivial)
 ·try simp only [bz0,bz1,bz2,bz3,bz4,bz5,bz6,bz7,bz8,bz9,bza] at h3
  have z4 := hy1 h3
  refine YF.tm (fun i hi => up0 hi) (YF.T) (fun y6 hy5 => ?_)
  refine Tm.ite (fun h7 => ?_) (fun h7 => ?_)
  ·try simp only [bz0,bz1,bz2,bz3,bz4,bz5,bz6,bz7,bz8,bz9,bza] at h7
   exact Tm.ret (by trivial)
  ·try simp only [bz0,bz1,bz2,bz3,bz4,bz5,bz6,bz7,bz8,bz9,bza] at h7
   have z8 := hy5 h7
   refine Tm.ite (fun h9 => ?_) (fun h9 => ?_)
   ·try simp only [bz0,bz1,bz2,bz3,bz4,bz5,bz6,bz7,bz8,bz9,bza] at h9
    exact Tm.ret (by trivial)
   ·try simp only [bz0,bz1,bz2,bz3,bz4,bz5,bz6,bz7,bz8,bz9,bza] at h9
    refine Yl.tm (fun i hi => hi) (Yl.T (by first | assumption | omega)) (fun y11 hy10 => ?_)
    refine Tm.ite (fun h12 => ?_) (fun h12 => ?_)
    ·try simp only [bz0,bz1,bz2,bz3,bz4,bz5,bz6,bz7,bz8,bz9,bza] at h12
     exact Tm.ret (by trivial)
    ·try simp only [bz0,bz1,bz2,bz3,bz4,bz5,bz6,bz7,bz8,bz9,bza] at h12
     refine Tm.loop (okk := (Zai 1)) (p := fun k => k) (fun i hi => up0 hi) (b := fun k => Ym.l0 k aB aA aC aD (fun z0 => some z0)) (fun i => (((aD.length : Int)) - i).toNat) (fun i => 0 ≤ i ∧ i ≤ (aD.length : Int)) ?_ ?_ ?_
     ·rintro i hI
      try simp only [] at hI ⊢
      have : big = 2 ^ 64 := rfl
      omega
     ·((try simp only []); omega)
     ·rintro i hI L hL
      try simp only [] at hI
      obtain ⟨i0,i1⟩ := hI
      simp only [Ym.l0,atR,rdQ,Q.ask]
      refine Tm.ite (fun h13 => ?_) (fun h13 => ?_)
      ·try simp only [bz0,bz1,bz2,bz3,bz4,bz5,bz6,bz7,bz8,bz9,bza] at h13
       refine Tm.atRow (by first | assumption | omega) (by first | assumption | omega) (fun x14 hx15 hm16 => ?_)
       obtain ⟨c17,c18,c19,c20,c21,c22,c23,c24,c25,c26,c27,c28,c29,c30,c31,c32,c33,c34,c35,rfl,g36,g37,g38,g39,g40,g41,g42,g43,g44,g45,g46,g47,g48,g49,g50,g51,g52,_⟩ := (ga0_3.2 x14 hm16).open
       refine Tm.uncons ?_
       refine Tm.dInt ?_
       refine Tm.uncons ?_
       refine Tm.dBool ?_
       refine Tm.uncons ?_
       refine Tm.dInt ?_
       refine Tm.uncons ?_
       refine Tm.dStr ?_
       refine Tm.uncons ?_
       refine Tm.dInt ?_
       refine Tm.uncons ?_
       refine Tm.dInt ?_
       refine Tm.uncons ?_
       refine Tm.dInt ?_
       refine Tm.uncons ?_
       refine Tm.dBool ?_
       refine Tm.uncons ?_
       refine Tm.dSl ?_
       refine Tm.uncons ?_
       refine Tm.dInt ?_
       refine Tm.uncons ?_
       refine Tm.dStr ?_
       refine Tm.uncons ?_
       refine Tm.dInt ?_
       refine Tm.uncons ?_
       refine Tm.dSl ?_
       refine Tm.uncons ?_
       refine Tm.dSl ?_
       refine Tm.uncons ?_
       refine Tm.dInt ?_
       refine Tm.uncons ?_
       refine Tm.dStr ?_
       refine Tm.uncons ?_
       refine Tm.dInt ?_
       refine Tm.uncons ?_
       refine Tm.dSl ?_
       refine Tm.uncons ?_
       refine Tm.dSl ?_
       refine Tm.atEnd ?_
       refine Yaf.tm (fun i hi => hi.1) (Yaf.T (by first | assumption | omega) (by first | assumption | omega) (by first | assumption | omega) (by first | assumption | omega) (by first | assumption | omega) (by first | assumption | omega) (by first | assumption | omega) (by first | assumption | omega)) (fun y54 hy53 => ?_)
       refine Tm.ite (fun h55 => ?_) (fun h55 => ?_)
       ·try simp only [bz0,bz1,bz2,bz3,bz4,bz5,bz6,bz7,bz8,bz9,bza] at h55
        exact Tm.ret (by trivial)
       ·try simp only [bz0,bz1,bz2,bz3,bz4,bz5,bz6,bz7,bz8,bz9,bza] at h55
        refine Tm.ite (fun h56 => ?_) (fun h56 => ?_)
        ·try simp only [bz0,bz1,bz2,bz3,bz4,bz5,bz6,bz7,bz8,bz9,bza] at h56
         exact Tm.ret (by trivial)
        ·try simp only [bz0,bz1,bz2,bz3,bz4,bz5,bz6,bz7,bz8,bz9,bza] at h56
         refine Tm.ite (fun h57 => ?_) (fun h57 => ?_)
         ·try simp only [bz0,bz1,bz2,bz3,bz4,bz5,bz6,bz7,bz8,bz9,bza] at h57
          try rw [Z9 (x := i - 1) (by omega) (by omega)]
          refine Tm.atRow (by first | assumption | omega) (by first | assumption | omega) (fun x58 hx59 hm60 => ?_)
          obtain ⟨c61,c62,c63,c64,c65,c66,c67,c68,c69,c70,c71,c72,c73,c74,c75,c76,c77,c78,c79,rfl,g80,g81,g82,g83,g84,g85,g86,g87,g88,g89,g90,g91,g92,g93,g94,g95,g96,_⟩ := (ga0_3.2 x58 hm60).open
          refine Tm.uncons ?_
          refine Tm.dInt ?_
          refine Tm.uncons ?_
          refine Tm.dBool ?_
          refine Tm.uncons ?_
          refine Tm.dInt ?_
          refine Tm.uncons ?_
          refine Tm.dStr ?_
          refine Tm.uncons ?_
          refine Tm.dInt ?_
          refine Tm.uncons ?_
          refine Tm.dInt ?_
          refine Tm.uncons ?_
          refine Tm.dInt ?_
          refine Tm.uncons ?_
          refine Tm.dBool ?_
          refine Tm.uncons ?_
          refine Tm.dSl ?_
          refine Tm.uncons ?_
          refine Tm.dInt ?_
          refine Tm.uncons ?_
          refine Tm.dStr ?_
          refine Tm.uncons ?_
          refine Tm.dInt ?_
          refine Tm.uncons ?_
          refine Tm.dSl ?_
          refine Tm.uncons ?_
          refine Tm.dSl ?_
          refine Tm.uncons ?_
          refine Tm.dInt ?_
          refine Tm.uncons ?_
          refine Tm.dStr ?_
          refine Tm.uncons ?_
          refine Tm.dInt ?_
          refine Tm.uncons ?_
          refine Tm.dSl ?_
          refine Tm.uncons ?_
          refine Tm.dSl ?_
          refine Tm.atEnd ?_
          refine Tm.ite (fun h97 => ?_) (fun h97 => ?_)
          ·try simp only [bz0,bz1,bz2,bz3,bz4,bz5,bz6,bz7,bz8,bz9,bza] at h97
           exact Tm.ret (by trivial)
          ·try simp only [bz0,bz1,bz2,bz3,bz4,bz5,bz6,bz7,bz8,bz9,bza] at h97
           try rw [Z9 (x := i + 1) (by omega) (by omega)]
           exact hL _ (by (try simp only []); omega) (by (try simp only []); omega)
         ·try simp only [bz0,bz1,bz2,bz3,bz4,bz5,bz6,bz7,bz8,bz9,bza] at h57
          try rw [Z9 (x := i + 1) (by omega) (by omega)]
          exact hL _ (by (try simp only []); omega) (by (try simp only []); omega)
      ·try simp only [bz0,bz1,bz2,bz3,bz4,bz5,bz6,bz7,bz8,bz9,bza] at h13
       exact Tm.ret (by trivial)
noncomputable def Ym.v (aB : LD) (aA aC : Int) (aD : LD) : Bool := (Ym.t (lv 1) aB aA aC aD).getD default
theorem Ym.tv {aB : LD} {aA aC : Int} {aD : LD} (ga0_0 : ZB Ya lim aB) (ga0_3 : ZB Yb lim aD) {k : Nat} (hk : (Zai 1) k) : Ym.t k aB aA aC aD = some (Ym.v aB aA aC aD) := (Ym.T ga0_0 ga0_3).val hk
theorem Ym.fv {aB : LD} {aA aC : Int} {aD : LD} (ga0_0 : ZB Ya lim aB) (ga0_3 : ZB Yb lim aD) {k : Nat} (hk : (Zai 1) k) {β : Type} (K : Bool → Option β) : Ym.f k aB aA aC aD K = K (Ym.v aB aA aC aD) := Ym.f_of (Ym.tv ga0_0 ga0_3 hk) K
def sinceL (d : LD) (n : Int) : LD := d.filter fun r => !decide (rI r 0 ≤ n)
noncomputable def YaT (a : LD) (b c : Int) (d : LD) (n : Int) : LC × Bool :=
 bif Ym.v a b c d && inB n 0 b then (bif decide (((sinceL d n).length : Int) < IntKind.wrap .i64 (b - n)) then ([],false) else (Zc (sinceL d n),true)) else ([],false)
theorem sinceL_ok {d : LD} {n : Int} {B : Nat} (g : ZB Yb B d) : ZB Yb B (sinceL d n) := ⟨Nat.le_trans (List.length_filter_le _ _) g.1,fun r hr => g.2 r (List.mem_filter.mp hr).1⟩
theorem wt_filter (p : List D → Bool) : ∀ (d : LD),Zu (d.filter p) ≤ Zu d
 | [] => Nat.le_refl _
 | r :: d => by
  have := wt_filter p d
  rw [List.filter_cons]
  split
  ·simp only [Zu]; omega
  ·simp only [Zu]; omega
theorem Yr.f_of {β : Type} {k aB aA aC aD a1 a2 a3 z0} (h : Yr.t k aB aA aC aD a1 a2 a3 = some z0) (K : Int → Option β) : Yr.f k aB aA aC aD a1 a2 a3 K = K z0 := by unfold Yr.f; rw [h]; rfl
theorem Yr.T {aB : LD} {aA aC : Int} {aD : LD} {a1 : Int} {a2 : BA} {a3 : Bool} (ga0_0 : ZB Ya lim aB) (ga0_3 : ZB Yb lim aD) (ga2 : a2.size ≤ lim) : Tm (Zai 1) (fun k => Yr.t k aB aA aC aD a1 a2 a3) (fun _ => True) := by
 unfold Yr.t Yr.g
 have hm := maxLen_eq
 have hlim : lim = 1048576 := rfl
 have la0_0 := ga0_0.1
 have la0_3 := ga0_3.1
 refine Ym.tm (fun i hi => hi) (Ym.T (by first | assumption | omega) (by first | assumption | omega)) (fun y2 hy1 => ?_)
 refine Tm.ite (fun h3 => ?_) (fun h3 => ?_)
 ·try simp only [bz0,bz1,bz2,bz3,bz4,bz5,bz6,bz7,bz8,bz9,bza] at h3
  exact Tm.ret (by trivial)
 ·try simp only [bz0,bz1,bz2,bz3,bz4,bz5,bz6,bz7,bz8,bz9,bza] at h3
  refine YF.tm (fun i hi => up0 hi) (YF.T) (fun y5 hy4 => ?_)
  refine Tm.ite (fun h6 => ?_) (fun h6 => ?_)
  ·try simp only [bz0,bz1,bz2,bz3,bz4,bz5,bz6,bz7,bz8,bz9,bza] at h6
   exact Tm.ret (by trivial)
  ·try simp only [bz0,bz1,bz2,bz3,bz4,bz5,bz6,bz7,bz8,bz9,bza] at h6
   have z7 := hy4 h6
   refine Yj.tm (fun i hi => up0 hi) (Yj.T (by first | assumption | omega)) (fun y9 hy8 => ?_)
   refine Tm.ite (fun h10 => ?_) (fun h10 => ?_)
   ·try simp only [bz0,bz1,bz2,bz3,bz4,bz5,bz6,bz7,bz8,bz9,bza] at h10
    exact Tm.ret (by trivial)
   ·try simp only [bz0,bz1,bz2,bz3,bz4,bz5,bz6,bz7,bz8,bz9,bza] at h10
    refine Tm.ite (fun h11 => ?_) (fun h11 => ?_)
    ·try simp only [bz0,bz1,bz2,bz3,bz4,bz5,bz6,bz7,bz8,bz9,bza] at h11
     exact Tm.ret (by trivial)
    ·try simp only [bz0,bz1,bz2,bz3,bz4,bz5,bz6,bz7,bz8,bz9,bza] at h11
     refine Tm.ite (fun h12 => ?_) (fun h12 => ?_)
     ·try simp only [bz0,bz1,bz2,bz3,bz4,bz5,bz6,bz7,bz8,bz9,bza] at h12
      exact Tm.ret (by trivial)
     ·try simp only [bz0,bz1,bz2,bz3,bz4,bz5,bz6,bz7,bz8,bz9,bza] at h12
      refine Tm.ite (fun h13 => ?_) (fun h13 => ?_)
      ·try simp only [bz0,bz1,bz2,bz3,bz4,bz5,bz6,bz7,bz8,bz9,bza] at h13
       exact Tm.ret (by trivial)
      ·try simp only [bz0,bz1,bz2,bz3,bz4,bz5,bz6,bz7,bz8,bz9,bza] at h13
       exact Tm.ret (by trivial)
noncomputable def Yr.v (aB : LD) (aA aC : Int) (aD : LD) (a1 : Int) (a2 : BA) (a3 : Bool) : Int := (Yr.t (lv 1) aB aA aC aD a1 a2 a3).getD default
theorem Yr.tv {aB : LD} {aA aC : Int} {aD : LD} {a1 : Int} {a2 : BA} {a3 : Bool} (ga0_0 : ZB Ya lim aB) (ga0_3 : ZB Yb lim aD) (ga2 : a2.size ≤ lim) {k : Nat} (hk : (Zai 1) k) : Yr.t k aB aA aC aD a1 a2 a3 = some (Yr.v aB aA aC aD a1 a2 a3) := (Yr.T ga0_0 ga0_3 ga2).val hk
theorem Yr.fv {aB : LD} {aA aC : Int} {aD : LD} {a1 : Int} {a2 : BA} {a3 : Bool} (ga0_0 : ZB Ya lim aB) (ga0_3 : ZB Yb lim aD) (ga2 : a2.size ≤ lim) {k : Nat} (hk : (Zai 1) k) {β : Type} (K : Int → Option β) : Yr.f k aB aA aC aD a1 a2 a3 K = K (Yr.v aB aA aC aD a1 a2 a3) := Yr.f_of (Yr.tv ga0_0 ga0_3 ga2 hk) K
theorem YA.f_of {β : Type} {k a0 z0} (h : YA.t k a0 = some z0) (K : LC → Option β) : YA.f k a0 K = K z0 := by unfold YA.f; rw [h]; rfl
theorem YE.f_of {β : Type} {k a0 z0} (h : YE.t k a0 = some z0) (K : LC → Option β) : YE.f k a0 K = K z0 := by unfold YE.f; rw [h]; rfl
theorem Ys.f_of {β : Type} {k aB aA aC aD z0 z1 z2 z3} (h : Ys.t k aB aA aC aD = some (z0,z1,z2,z3)) (K : LC → Int → Int → LC → Option β) : Ys.f k aB aA aC aD K = K z0 z1 z2 z3 := by unfold Ys.f; rw [h]; rfl
theorem YX.f_of {β : Type} {k a0 aQ aR aT aV aX bL bM bN bO bP bQ bR bT bU bV bW bX z0} (h : YX.t k a0 aQ aR aT aV aX bL bM bN bO bP bQ bR bT bU bV bW bX = some z0) (K : LC → Option β) : YX.f k a0 aQ aR aT aV aX bL bM bN bO bP bQ bR bT bU bV bW bX K = K z0 := by unfold YX.f; rw [h]; rfl
theorem Yf.f_of {β : Type} {k aB aA aC aD aK aQ aR aT aV aX z0} (h : Yf.t k aB aA aC aD aK aQ aR aT aV aX = some z0) (K : Bool → Option β) : Yf.f k aB aA aC aD aK aQ aR aT aV aX K = K z0 := by unfold Yf.f Yf.w; rw [h]; rfl
theorem YC.f_of {β : Type} {k a0 a1 z0} (h : YC.t k a0 a1 = some z0) (K : Bool → Option β) : YC.f k a0 a1 K = K z0 := by unfold YC.f; rw [h]; rfl
set_option maxRecDepth 100000 in
theorem YC.T {a0 : LD} {a1 : BA} (ga0 : ZB RS lim a0) (ga1 : a1.size ≤ lim) : Tm Fuel (fun k => YC.t k a0 a1) (fun _ => True) := by
 unfold YC.t YC.g
 have hm := maxLen_eq
 have hlim : lim = 1048576 := rfl
 have la0 := ga0.1
 refine Tm.loop (okk := Fuel) (p := fun k => k) (fun i hi => hi) (b := fun k => YC.l0 k a0 a1 (fun z0 => some z0)) (fun i => (((a0.length : Int)) - i).toNat) (fun i => 0 ≤ i ∧ i ≤ (a0.length : Int)) ?_ ?_ ?_
 ·rintro i hI
  try simp only [] at hI ⊢
  have : big = 2 ^ 64 := rfl
  omega
 ·((try simp only []); omega)
 ·rintro i hI L hL
  try simp only [] at hI
  obtain ⟨i0,i1⟩ := hI
  simp only [YC.l0,atR,rdQ,Q.ask]
  refine Tm.ite (fun h1 => ?_) (fun h1 => ?_)
  ·try simp only [bz0,bz1,bz2,bz3,bz4,bz5,bz6,bz7,bz8,bz9,bza] at h1
   refine Tm.atRow (by first | assumption | omega) (by first | assumption | omega) (fun x2 hx3 hm4 => ?_)
   obtain ⟨c5,rfl,g6,_⟩ := (ga0.2 x2 hm4).open
   refine Tm.uncons ?_
   refine Tm.dStr ?_
   refine Tm.atEnd ?_
   refine Tm.ite (fun h7 => ?_) (fun h7 => ?_)
   ·try simp only [bz0,bz1,bz2,bz3,bz4,bz5,bz6,bz7,bz8,bz9,bza] at h7
    exact Tm.ret (by trivial)
   ·try simp only [bz0,bz1,bz2,bz3,bz4,bz5,bz6,bz7,bz8,bz9,bza] at h7
    try rw [Z9 (x := i + 1) (by omega) (by omega)]
    exact hL _ (by (try simp only []); omega) (by (try simp only []); omega)
  ·try simp only [bz0,bz1,bz2,bz3,bz4,bz5,bz6,bz7,bz8,bz9,bza] at h1
   exact Tm.ret (by trivial)
noncomputable def YC.v (a0 : LD) (a1 : BA) : Bool := (YC.t big a0 a1).getD default
theorem YC.tv {a0 : LD} {a1 : BA} (ga0 : ZB RS lim a0) (ga1 : a1.size ≤ lim) {k : Nat} (hk : Fuel k) : YC.t k a0 a1 = some (YC.v a0 a1) := (YC.T ga0 ga1).val hk
theorem YC.fv {a0 : LD} {a1 : BA} (ga0 : ZB RS lim a0) (ga1 : a1.size ≤ lim) {k : Nat} (hk : Fuel k) {β : Type} (K : Bool → Option β) : YC.f k a0 a1 K = K (YC.v a0 a1) := YC.f_of (YC.tv ga0 ga1 hk) K
theorem YS.f_of {β : Type} {k a0 a1 a2 z0} (h : YS.t k a0 a1 a2 = some z0) (K : Bool → Option β) : YS.f k a0 a1 a2 K = K z0 := by unfold YS.f; rw [h]; rfl
theorem YaC.f_of {β : Type} {k a0 z0} (h : YaC.t k a0 = some z0) (K : Bool → Option β) : YaC.f k a0 K = K z0 := by unfold YaC.f; rw [h]; rfl
theorem within_f {β : Type} {k : Nat} {a b c : Int} (K : Bool → Option β) : YS.f k a b c K = K (decide (b ≤ a) && decide (a ≤ c)) := by
 refine YS.f_of ?_ K
 unfold YS.t YS.g
 by_cases h : b ≤ a <;> simp [h]
theorem YV.same {k : Nat} {a : BA} : YV.t k a = Yj.t k a := by
 unfold YV.t Yj.t YV.g Yj.g
 congr 1
 funext L v
 simp only [YV.l0,Yj.l0,l1In_f,within_f]
 refine bif_congr (fun _ => ?_) (fun _ => rfl)
 unfold atStr
 split
 ·split
  ·rename_i b _
   have hb : b.toNat < 256 := b.toNat_lt
   simp only []
   rw [Z9 (x := (b.toNat : Int)) (by omega) (by omega)]
   generalize (b.toNat : Int) = x
   by_cases h1 : x < 97 <;> by_cases h2 : x < 48 <;> by_cases h3 : x > 57 <;> by_cases h4 : x > 122 <;> simp [h1,h2,h3,h4] <;> (try omega) <;> grind
  ·rfl
 ·rfl
theorem impl_NameOk_f {β : Type} {k : Nat} {a : BA} (K : Bool → Option β) : YV.f k a K = Yj.f k a K := by
 unfold YV.f Yj.f
 rw [YV.same]
theorem Ya4 {β : Type} {k : Nat} {a b c : Int} (K : Bool → Option β) : YS.f k a b c K = K (inB a b c) := within_f K
theorem YJ.f_of {β : Type} {k a0 a1 z0} (h : YJ.t k a0 a1 = some z0) (K : Bool → Option β) : YJ.f k a0 a1 K = K z0 := by unfold YJ.f; rw [h]; rfl
set_option maxRecDepth 100000 in
theorem namesOk_fv {a : LD} {n : Int} (g : ZB RS lim a) {k : Nat} (hk : Fuel k) {β : Type} (K : Bool → Option β) : YJ.f k a n K = K (Ya5 a && decide ((a.length : Int) ≤ n)) := YJ.f_of (by
 have hl := g.1
 have hlim : lim = 1048576 := rfl
 have hb : big = 2 ^ 64 := rfl
 unfold YJ.t YJ.g
 rw [iter_all0 (n := a.length) (fun i => Yj.v (gS a (i : Int) 0) && (!decide ((i : Int) > 0) || strLt (gS a ((i : Int) - 1) 0) (gS a (i : Int) 0))) (r1 := some false) (r2 := some (decide ((a.length : Int) ≤ n))) (by unfold Fuel at hk; omega)]
 ·unfold Ya5
  generalize List.all _ _ = x
  cases x <;> rfl
 ·intro L i hi
  have k0 := (RS.get g (v := (i : Int)) (by omega) (by omega)).2.1
  simp (disch := omega) only [YJ.l0,atR,rdQ,Q.ask,ZY (show (i : Int) < a.length by omega),cond_true,RS.row g,Z4,ZaQ,Zan,impl_NameOk_f,Yj.fv k0 hk,Z9]
  by_cases h0 : (i : Int) > 0
  ·simp (disch := omega) only [ZY h0,cond_true,RS.row g,Z4,ZaQ,Zan]
   cases Yj.v (gS a (i : Int) 0) <;> cases strLt (gS a ((i : Int) - 1) 0) (gS a (i : Int) 0) <;> rfl
  ·simp only [ZZ h0,cond_false]
   cases Yj.v (gS a (i : Int) 0) <;> rfl
 ·intro L
  simp [YJ.l0,atR,rdQ,Q.ask]) K
theorem YI.f_of {β : Type} {k aB aA aC aD aK z0} (h : YI.t k aB aA aC aD aK = some z0) (K : Bool → Option β) : YI.f k aB aA aC aD aK K = K z0 := by unfold YI.f; rw [h]; rfl
theorem Yq.f_of {β : Type} {k aB aA aC aD aK a1 z0} (h : Yq.t k aB aA aC aD aK a1 = some z0) (K : Int → Option β) : Yq.f k aB aA aC aD aK a1 K = K z0 := by unfold Yq.f Yq.w; rw [h]; rfl
theorem Yah.f_of {β : Type} {k aB aA aC aD aK z0} (h : Yah.t k aB aA aC aD aK = some z0) (K : Bool → Option β) : Yah.f k aB aA aC aD aK K = K z0 := by unfold Yah.f; rw [h]; rfl
theorem shapeOk_fv {c0 : Int} {c1 : BA} {c2 : Int} {c3 c4 : LD} (g1 : c1.size ≤ lim) (g3 : ZB RS lim c3) {k : Nat} (hk : Fuel k) {β : Type} (K : Bool → Option β) : YI.f k c0 c1 c2 c3 c4 K = K (YaZ c0 c1 c2 c3 c4 && (!(c0 == 5) || decide ((c3.length : Int) ≤ 300))) := YI.f_of (by
 have hlim : lim = 1048576 := rfl
 have hb : big = 2 ^ 64 := rfl
 unfold YI.t YI.g YI.m
 have text : ZA (YI.l0 k ((c2 : Int) == 0) (((c3.length : Int) : Int) == 0) (((c4.length : Int) : Int) == 0) (c1.size : Int) c0 c1 c2 c3 c4 fun z0 => some z0) k 0 = some (textB c1 && (decide ((c1.size : Int) ≤ 100) && (c2 == 0 && ((c3.length : Int) == 0 && (c4.length : Int) == 0)))) := by
  rw [iter_all0 (n := c1.size) (fun i => inB (bS c1 (i : Int)) 32 126) (r1 := some false) (r2 := some (decide ((c1.size : Int) ≤ 100) && (c2 == 0 && ((c3.length : Int) == 0 && (c4.length : Int) == 0)))) (by unfold Fuel at hk; omega)]
  ·unfold textB
   generalize List.all _ _ = x
   cases x <;> rfl
  ·intro L i hi
   simp (disch := omega) only [YI.l0,ZY (show (i : Int) < c1.size by omega),cond_true,atStr_at,wrap_b,Ya4,Z9]
   generalize inB _ _ _ = x
   cases x <;> rfl
  ·intro L
   simp only [YI.l0,ZZ (show ¬ (c1.size : Int) < c1.size by omega),cond_false]
   cases decide ((c1.size : Int) ≤ 100) <;> cases c2 == 0 <;> cases ((c3.length : Int) == 0) <;> rfl
 simp only [text,Ya4,namesOk_fv g3 hk]
 unfold YaZ
 generalize textB c1 = b1
 generalize decide ((c1.size : Int) ≤ 100) = b0
 generalize hb2 : Zae c1 (⟨#[]⟩ : BA) = b2
 have hb3 : Zae c1 Ybi = b2 := hb2
 rw [hb3]
 generalize Ya5 c3 = b3
 generalize inB c2 0 1 = b4
 generalize (c2 == 0) = b5
 generalize ((c4.length : Int) == 0) = b6
 generalize ((c3.length : Int) == (c4.length : Int)) = b7
 generalize ((c3.length : Int) == 0) = b8
 generalize decide ((c3.length : Int) ≤ 300) = b9
 rcases ZaM c0 with rfl | rfl | rfl | rfl | rfl | ⟨e1,e2,e3,e4,e5⟩
 ·cases b0 <;> cases b1 <;> cases b5 <;> cases b6 <;> cases b8 <;> rfl
 ·cases b2 <;> cases b6 <;> cases b8 <;> rfl
 ·cases b2 <;> cases b4 <;> cases b6 <;> cases b8 <;> rfl
 ·cases b2 <;> cases b5 <;> cases b8 <;> rfl
 ·cases b2 <;> cases b3 <;> cases b5 <;> cases b7 <;> cases b9 <;> rfl
 ·simp only [e1,e2,e3,e4,e5,cond_false,Bool.false_and]) K
set_option maxRecDepth 100000 in
theorem measured_t (d : Nat) : ∀ {c0 : Int} {c1 : BA} {c2 : Int} {c3 c4 : LD},c1.size ≤ lim → ZB RS lim c3 → ZB Yu lim c4 → d ≤ 6 → ∀ {k : Nat},big + d + 1 ≤ k → Yq.t k c0 c1 c2 c3 c4 (d : Int) = some (bif YaL d [.int .i64 c0,.str c1,.int .i64 c2,.sl c3,.sl c4] == 0 then 301 else YaL d [.int .i64 c0,.str c1,.int .i64 c2,.sl c3,.sl c4]) := by
 have hlim : lim = 1048576 := rfl
 have hb : big = 2 ^ 64 := rfl
 induction d with
 | zero =>
  intro c0 c1 c2 c3 c4 g1 g3 g4 hd k hk
  cases k with
  | zero => omega
  | succ k => rfl
 | succ d ih =>
  intro c0 c1 c2 c3 c4 g1 g3 g4 hd k hk
  cases k with
  | zero => omega
  | succ k =>
  have hl := g4.1
  have hk0 : Fuel k := by unfold Fuel; omega
  rw [Yq.t_succ]
  unfold Yq.g Yq.body
  rw [show (((d + 1 : Nat) : Int) == 0) = false by rw [beq_eq_false_iff_ne]; omega,cond_false,shapeOk_fv g1 g3 hk0]
  have key := iter_val (b := Yq.l0 k (Yq.f k) ((d + 1 : Nat) : Int) c4 (c4.length : Int) fun z0 => some z0) (fun v => ((c4.length : Int) - v.2).toNat) (fun v => 0 ≤ v.2 ∧ v.2 ≤ c4.length ∧ 1 ≤ v.1 ∧ v.1 ≤ 300)
   (fun v => bif sumL (YaL d) (c4.drop v.2.toNat) v.1 == 0 then some 301 else some (sumL (YaL d) (c4.drop v.2.toNat) v.1)) ?_ k (1,0) (by simp only []; omega) (by simp only []; omega)
  ·rw [key]
   show (bif !(YaZ c0 c1 c2 c3 c4 && (!(c0 == 5) || decide ((c3.length : Int) ≤ 300))) then some 301 else bif sumL (YaL d) (List.drop 0 c4) 1 == 0 then some 301 else some (sumL (YaL d) (List.drop 0 c4) 1)) = some (bif YaL (d + 1) [.int .i64 c0,.str c1,.int .i64 c2,.sl c3,.sl c4] == 0 then 301 else YaL (d + 1) [.int .i64 c0,.str c1,.int .i64 c2,.sl c3,.sl c4])
   have el : YaL (d + 1) [.int .i64 c0,.str c1,.int .i64 c2,.sl c3,.sl c4] = bif sumL (YaL d) c4 1 == 0 then 0 else bif YaZ c0 c1 c2 c3 c4 then sumL (YaL d) c4 1 else 0 := rfl
   rw [List.drop_zero,el]
   have hs := sumL_range (f := YaL d) (fun r => (Ya9 d r).1) (rs := c4) (n := 1) (by omega) (by omega)
   by_cases hz : sumL (YaL d) c4 1 = 0
   ·rw [hz]
    cases (YaZ c0 c1 c2 c3 c4 && (!(c0 == 5) || decide ((c3.length : Int) ≤ 300))) <;> rfl
   ·have hz' : (sumL (YaL d) c4 1 == 0) = false := by rw [beq_eq_false_iff_ne]; exact hz
    rw [hz',cond_false,cond_false]
    by_cases hsh : YaZ c0 c1 c2 c3 c4 = true
    ·have h5 : (!(c0 == 5) || decide ((c3.length : Int) ≤ 300)) = true := by
      by_cases h5 : c0 = 5
      ·subst h5
       have : (c3.length : Int) = c4.length := by
        unfold YaZ at hsh
        simp at hsh
        omega
       have := hs.2.2 hz
       simp
       omega
      ·simp [h5]
     rw [hsh,h5]
     simp only [Bool.and_self,Bool.not_true,cond_false,cond_true,hz']
    ·rw [Bool.not_eq_true] at hsh
     rw [hsh]
     rfl
  ·rintro ⟨n,i⟩ ⟨i0,i1,n0,n1⟩ L hL
   simp only [] at i0 i1 n0 n1 hL ⊢
   by_cases hi : i < c4.length
   ·have hg := Yu.get g4 i0 hi
    have hr := Ya9 d (gR c4 i)
    have ih' := ih (c0 := gI c4 i 0) (c2 := gI c4 i 2) hg.2.2.1 hg.2.2.2.2.1 hg.2.2.2.2.2.1 (by omega) (k := k) (by omega)
    rw [← hg.1] at ih'
    simp (disch := omega) only [Yq.l0,atR,rdQ,Q.ask,ZY hi,cond_true,Yu.row g4,Z4,ZaQ,Z5,Zbl,Zan,Z9,show ((d + 1 : Nat) : Int) - 1 = (d : Int) by omega]
    rw [Yq.f_of ih',drop_gR i0 hi]
    simp only [sumL]
    by_cases hz : YaL d (gR c4 i) = 0
    ·rw [hz,show ((0 : Int) == 0) = true from rfl,cond_true,Z9 (by omega) (by omega),ZY (by omega)]
     simp
    ·rw [show (YaL d (gR c4 i) == 0) = false by rw [beq_eq_false_iff_ne]; exact hz,cond_false,Z9 (by omega) (by omega)]
     by_cases hn : n + YaL d (gR c4 i) > 300
     ·rw [ZY hn,if_pos (.inr hn)]
      rfl
     ·rw [ZZ hn,if_neg (by omega),cond_false,hL _ ⟨by simp only []; omega,by simp only []; omega,by simp only []; omega,by simp only []; omega⟩ (by simp only []; omega)]
   ·rw [drop_end (by omega)]
    simp only [Yq.l0,atR,rdQ,Q.ask,ZZ hi,cond_false,sumL]
    rw [show (n == 0) = false by rw [beq_eq_false_iff_ne]; omega,cond_false]
noncomputable def valB (c0 : Int) (c1 : BA) (c2 : Int) (c3 c4 : LD) : Bool := decide (YaL 6 [.int .i64 c0,.str c1,.int .i64 c2,.sl c3,.sl c4] > 0)
theorem spec_ValueOk_fv {c0 : Int} {c1 : BA} {c2 : Int} {c3 c4 : LD} (g1 : c1.size ≤ lim) (g3 : ZB RS lim c3) (g4 : ZB Yu lim c4) {k : Nat} (hk : Zai 1 k) {β : Type} (K : Bool → Option β) : Yp.f k c0 c1 c2 c3 c4 K = K (valB c0 c1 c2 c3 c4) := Yp.f_of (by
 unfold Yp.t Yp.g
 rw [look_fv (by omega) (by omega) g1 g3 g4 hk]
 rfl) K
theorem impl_ValueOk_fv {c0 : Int} {c1 : BA} {c2 : Int} {c3 c4 : LD} (g1 : c1.size ≤ lim) (g3 : ZB RS lim c3) (g4 : ZB Yu lim c4) {k : Nat} (hk : Zai 1 k) {β : Type} (K : Bool → Option β) : Yah.f k c0 c1 c2 c3 c4 K = K (valB c0 c1 c2 c3 c4) := Yah.f_of (by
 have hb : big = 2 ^ 64 := rfl
 have h1 : lv 1 = 2 ^ 65 := rfl
 unfold Yah.t Yah.g
 rw [Yq.f_of (show Yq.t k c0 c1 c2 c3 c4 6 = _ from measured_t 6 g1 g3 g4 (by omega) (by unfold Zai at hk; omega))]
 unfold valB
 have hr := Ya9 6 [.int .i64 c0,.str c1,.int .i64 c2,.sl c3,.sl c4]
 generalize YaL 6 [.int .i64 c0,.str c1,.int .i64 c2,.sl c3,.sl c4] = n at *
 by_cases hz : n = 0
 ·subst hz; rfl
 ·rw [show (n == 0) = false by rw [beq_eq_false_iff_ne]; exact hz,cond_false,ZY (by omega),ZY (by omega)]) K
theorem Yay.f_of {β : Type} {k aB aA aC aD aK bY bA bH bB bI bC bD bJ bE bK bF bG a1 a2 a3 z0} (h : Yay.t k aB aA aC aD aK bY bA bH bB bI bC bD bJ bE bK bF bG a1 a2 a3 = some z0) (K : Bool → Option β) : Yay.f k aB aA aC aD aK bY bA bH bB bI bC bD bJ bE bK bF bG a1 a2 a3 K = K z0 := by unfold Yay.f; rw [h]; rfl
theorem Yae.f_of {β : Type} {k a0 z0} (h : Yae.t k a0 = some z0) (K : Bool → Option β) : Yae.f k a0 K = K z0 := by unfold Yae.f; rw [h]; rfl
theorem Y8.f_of {β : Type} {k a0 a1 z0} (h : Y8.t k a0 a1 = some z0) (K : Int → Option β) : Y8.f k a0 a1 K = K z0 := by unfold Y8.f; rw [h]; rfl
theorem Y7.f_of {β : Type} {k a0 a1 z0} (h : Y7.t k a0 a1 = some z0) (K : Int → Option β) : Y7.f k a0 a1 K = K z0 := by unfold Y7.f; rw [h]; rfl
theorem Yac.f_of {β : Type} {k aB aA aC aD aK bY bA bH bB bI bC bD bJ bE bK bF bG aQ aR aT aV aX bL bM bN bO bP bQ bR bT bU bV bW bX z0} (h : Yac.t k aB aA aC aD aK bY bA bH bB bI bC bD bJ bE bK bF bG aQ aR aT aV aX bL bM bN bO bP bQ bR bT bU bV bW bX = some z0) (K : Int → Option β) : Yac.f k aB aA aC aD aK bY bA bH bB bI bC bD bJ bE bK bF bG aQ aR aT aV aX bL bM bN bO bP bQ bR bT bU bV bW bX K = K z0 := by unfold Yac.f; rw [h]; rfl
theorem Yao.f_of {β : Type} {k aB aA aC aD aK bY bA bH bB bI bC bD bJ bE bK bF bG f0_0 f0_1 f0_2 f0_3 f0_4 f0_5 f0_6 f0_7 f0_8 f0_9 f0_10 f0_11 f0_12 f0_13 f0_14 f0_15 f0_16 z0} (h : Yao.t k aB aA aC aD aK bY bA bH bB bI bC bD bJ bE bK bF bG f0_0 f0_1 f0_2 f0_3 f0_4 f0_5 f0_6 f0_7 f0_8 f0_9 f0_10 f0_11 f0_12 f0_13 f0_14 f0_15 f0_16 = some z0) (K : Bool → Option β) : Yao.f k aB aA aC aD aK bY bA bH bB bI bC bD bJ bE bK bF bG f0_0 f0_1 f0_2 f0_3 f0_4 f0_5 f0_6 f0_7 f0_8 f0_9 f0_10 f0_11 f0_12 f0_13 f0_14 f0_15 f0_16 K = K z0 := by unfold Yao.f; rw [h]; rfl
theorem Yd.f_of {β : Type} {k a0 a1_0_0 a1_0_1 a1_0_2 a1_0_3 a1_0_4 a1_0_5 a1_0_6 a1_0_7 a1_0_8 a1_0_9 a1_0_10 a1_0_11 a1_0_12 a1_0_13 a1_0_14 a1_0_15 a1_0_16 z0} (h : Yd.t k a0 a1_0_0 a1_0_1 a1_0_2 a1_0_3 a1_0_4 a1_0_5 a1_0_6 a1_0_7 a1_0_8 a1_0_9 a1_0_10 a1_0_11 a1_0_12 a1_0_13 a1_0_14 a1_0_15 a1_0_16 = some z0) (K : Int → Option β) : Yd.f k a0 a1_0_0 a1_0_1 a1_0_2 a1_0_3 a1_0_4 a1_0_5 a1_0_6 a1_0_7 a1_0_8 a1_0_9 a1_0_10 a1_0_11 a1_0_12 a1_0_13 a1_0_14 a1_0_15 a1_0_16 K = K z0 := by unfold Yd.f; rw [h]; rfl
theorem Yk.f_of {β : Type} {k a0 a1_0_0 a1_0_1 a1_0_2 a1_0_3 a1_0_4 a1_0_5 a1_0_6 a1_0_7 a1_0_8 a1_0_9 a1_0_10 a1_0_11 a1_0_12 a1_0_13 a1_0_14 a1_0_15 a1_0_16 z0} (h : Yk.t k a0 a1_0_0 a1_0_1 a1_0_2 a1_0_3 a1_0_4 a1_0_5 a1_0_6 a1_0_7 a1_0_8 a1_0_9 a1_0_10 a1_0_11 a1_0_12 a1_0_13 a1_0_14 a1_0_15 a1_0_16 = some z0) (K : Bool → Option β) : Yk.f k a0 a1_0_0 a1_0_1 a1_0_2 a1_0_3 a1_0_4 a1_0_5 a1_0_6 a1_0_7 a1_0_8 a1_0_9 a1_0_10 a1_0_11 a1_0_12 a1_0_13 a1_0_14 a1_0_15 a1_0_16 K = K z0 := by unfold Yk.f; rw [h]; rfl
theorem YT.f_of {β : Type} {k a0 a1 a2 z0} (h : YT.t k a0 a1 a2 = some z0) (K : Bool → Option β) : YT.f k a0 a1 a2 K = K z0 := by unfold YT.f; rw [h]; rfl
theorem less_cmp : ∀ (a b : List UInt8),decide (Go.Lib.compareBytes a b ≥ 0) = !Op.bytesLess a b
 | [],[] => rfl
 | [],_ :: _ => rfl
 | _ :: _,[] => rfl
 | x :: a,y :: b => by
  have ih := less_cmp a b
  unfold Go.Lib.compareBytes Op.bytesLess
  by_cases h1 : x < y
  ·simp [h1]
  ·by_cases h2 : y < x
   ·have h3 : x ≠ y := fun e => by subst e; exact h1 h2
    simp [h1,h2,h3]
   ·have h3 : x = y := UInt8.le_antisymm (UInt8.not_lt.1 h2) (UInt8.not_lt.1 h1)
    subst h3
    simp only [h1,if_false,ih]
    simp
theorem cmpS_less (a b : BA) : decide (cmpS a b ≥ 0) = !strLt a b := by
 unfold cmpS strLt
 rw [less_cmp,Go.Lib.toList_data,Go.Lib.toList_data]
set_option maxRecDepth 100000 in
theorem waits_v {a : LD} (g : ZB RS lim a) {k : Nat} (hk : Fuel k) : Yo.v a = (Ya5 a && decide ((a.length : Int) ≤ 4)) := by
 have hv := Yo.tv g hk
 suffices h : Yo.t k a = some (Ya5 a && decide ((a.length : Int) ≤ 4)) by
  rw [hv] at h
  injection h
 have hl := g.1
 have hlim : lim = 1048576 := rfl
 have hb : big = 2 ^ 64 := rfl
 unfold Yo.t Yo.g
 rw [iter_all0 (n := a.length) (fun i => Yj.v (gS a (i : Int) 0) && (!decide ((i : Int) > 0) || strLt (gS a ((i : Int) - 1) 0) (gS a (i : Int) 0))) (r1 := some false) (r2 := some (decide ((a.length : Int) ≤ 4))) (by unfold Fuel at hk; omega)]
 ·unfold Ya5
  generalize List.all _ _ = x
  cases x <;> rfl
 ·intro L i hi
  have k0 := (RS.get g (v := (i : Int)) (by omega) (by omega)).2.1
  simp (disch := omega) only [Yo.l0,atR,rdQ,Q.ask,ZY (show (i : Int) < a.length by omega),cond_true,RS.row g,Z4,ZaQ,Zan,Yj.fv k0 hk,Z9]
  by_cases h0 : (i : Int) > 0
  ·simp (disch := omega) only [ZY h0,cond_true,RS.row g,Z4,ZaQ,Zan]
   cases Yj.v (gS a (i : Int) 0) <;> cases strLt (gS a ((i : Int) - 1) 0) (gS a (i : Int) 0) <;> rfl
  ·simp only [ZZ h0,cond_false]
   cases Yj.v (gS a (i : Int) 0) <;> rfl
 ·intro L
  simp [Yo.l0,atR,rdQ,Q.ask]
theorem impl_ValueOk_v {c0 : Int} {c1 : BA} {c2 : Int} {c3 c4 : LD} (g1 : c1.size ≤ lim) (g3 : ZB RS lim c3) (g4 : ZB Yu lim c4) {k : Nat} (hk : Zai 1 k) {β : Type} (K : Bool → Option β) : Yah.f k c0 c1 c2 c3 c4 K = K (Yp.v c0 c1 c2 c3 c4) := by
 have h : some (Yp.v c0 c1 c2 c3 c4) = some (valB c0 c1 c2 c3 c4) := (Yp.fv (aB := c0) (aC := c2) g1 g3 g4 hk some).symm.trans (spec_ValueOk_fv g1 g3 g4 hk some)
 injection h with h
 rw [impl_ValueOk_fv g1 g3 g4 hk,h]
theorem objOk_fv {x0 : Int} {x1 : BA} {x2 x3 x4 : Int} {x5 : Bool} {x6 : LD} {x7 : Int} {x8 : BA} {x9 : Int} {x10 x11 : LD} {x12 : Int} {x13 : BA} {x14 : Int} {x15 x16 : LD} {rev Z8 : Int} {gone : Bool} (g1 : x1.size ≤ lim) (g6 : ZB RS lim x6) (g8 : x8.size ≤ lim) (g10 : ZB RS lim x10) (g11 : ZB Yu lim x11) (g13 : x13.size ≤ lim) (g15 : ZB RS lim x15) (g16 : ZB Yu lim x16) {k : Nat} (hk : Zai 1 k) {β : Type} (K : Bool → Option β) :
  Yay.f k x0 x1 x2 x3 x4 x5 x6 x7 x8 x9 x10 x11 x12 x13 x14 x15 x16 Z8 rev gone K = K (objV x0 x1 x2 x3 x4 x5 x6 x7 x8 x9 x10 x11 x12 x13 x14 x15 x16 Z8 rev gone) := Yay.f_of (by
 have hk0 : Fuel k := up0 hk
 have hi : ∀ {n : Int} {β : Type} (K : Bool → Option β),YaC.f k n K = K (inB n 1 3) := fun K => YaC.f_of (by unfold YaC.t YaC.g; rw [Ya4]) K
 unfold Yay.t Yay.g objV
 simp only [hi,Ya4,impl_NameOk_f,Yj.fv g1 hk0,namesOk_fv g6 hk0,← waits_v g6 hk0,impl_ValueOk_v g8 g10 g11 hk,impl_ValueOk_v g13 g15 g16 hk]
 generalize inB x0 1 3 = b0
 generalize Yj.v x1 = b1
 generalize inB x2 1 Z8 = b2
 generalize inB x3 1 rev = b3
 generalize inB x4 1 x3 = b4
 generalize Yo.v x6 = b5
 generalize Yp.v x7 x8 x9 x10 x11 = b6
 generalize Yp.v x12 x13 x14 x15 x16 = b7
 generalize decide ((x6.length : Int) > 0) = b8
 cases b0
 ·rfl
 cases b1
 ·rfl
 cases b2
 ·rfl
 cases b3
 ·rfl
 cases b4
 ·rfl
 cases b5
 ·rfl
 cases b6 <;> cases b7 <;> cases gone <;> cases x5 <;> cases b8 <;> rfl) K
theorem cmpObjs_fv {x0 : Int} {x1 : BA} {x2 x3 x4 : Int} {x5 : Bool} {x6 : LD} {x7 : Int} {x8 : BA} {x9 : Int} {x10 x11 : LD} {x12 : Int} {x13 : BA} {x14 : Int} {x15 x16 : LD} {y0 : Int} {y1 : BA} {y2 y3 y4 : Int} {y5 : Bool} {y6 : LD} {y7 : Int} {y8 : BA} {y9 : Int} {y10 y11 : LD} {y12 : Int} {y13 : BA} {y14 : Int} {y15 y16 : LD} {k : Nat} :
  ∃ c : Int,decide (c ≥ 0) = !lessV x0 x1 y0 y1 ∧ ∀ {β : Type} (K : Int → Option β),Yac.f k x0 x1 x2 x3 x4 x5 x6 x7 x8 x9 x10 x11 x12 x13 x14 x15 x16 y0 y1 y2 y3 y4 y5 y6 y7 y8 y9 y10 y11 y12 y13 y14 y15 y16 K = K c := by
 have hn : ∀ {n : Int} {β : Type} (K : Bool → Option β),Yae.f k n K = K false := fun {n β} K => Yae.f_of (by unfold Yae.t Yae.g; simp) K
 have hc : ∀ {β : Type} (K : Int → Option β),Y8.f k x0 y0 K = K (if x0 < y0 then -1 else if x0 > y0 then 1 else 0) := fun K => Y8.f_of (by
  unfold Y8.t Y8.g
  simp only [hn,cond_false]
  by_cases h1 : x0 < y0
  ·simp [h1]
  ·by_cases h2 : x0 > y0 <;> simp [h1,h2]) K
 have hs : ∀ {β : Type} (K : Int → Option β),Y7.f k x1 y1 K = K (cmpS x1 y1) := fun K => Y7.f_of (by unfold Y7.t Y7.g; rfl) K
 refine ⟨if x0 < y0 then -1 else if x0 > y0 then 1 else cmpS x1 y1,?_,fun {β} K => Yac.f_of ?_ K⟩
 ·unfold lessV
  by_cases h1 : x0 < y0
  ·simp [h1]
  ·by_cases h2 : x0 > y0
   ·have h3 : ¬ x0 = y0 := by omega
    simp [h1,h2,h3]
   ·have h3 : x0 = y0 := by omega
    subst h3
    simp only [h1,gt_iff_lt,if_false,decide_false,Bool.false_or,beq_self_eq_true,Bool.true_and]
    exact cmpS_less x1 y1
 ·unfold Yac.t Yac.g
  simp only [hc,hs]
  by_cases h1 : x0 < y0
  ·simp [h1]
  ·by_cases h2 : x0 > y0 <;> simp [h1,h2]
set_option maxRecDepth 100000 in
theorem objsOk_fv {a : LD} {rev Z8 : Int} (g : ZB Ya lim a) {k : Nat} (hk : Zai 1 k) {β : Type} (K : Bool → Option β) : YT.f k a Z8 rev K = K (objsB a Z8 rev) := YT.f_of (by
 have hk0 : Fuel k := up0 hk
 have hl := g.1
 have hlim : lim = 1048576 := rfl
 have hb : big = 2 ^ 64 := rfl
 unfold YT.t YT.g
 rw [iter_all0 (n := a.length) (objsP a Z8 rev) (r1 := some false) (r2 := some (decide ((a.length : Int) ≤ 60))) (by unfold Fuel at hk0; omega)]
 ·unfold objsB
  cases (List.range a.length).all (objsP a Z8 rev) <;> rfl
 ·intro L i hi
  obtain ⟨-,-,k1,-,-,-,k6,-,k8,-,k10,k11,-,k13,-,k15,k16,-⟩ := Ya.get g (v := (i : Int)) (by omega) (by omega)
  have e3 : ∀ {F : Bool → Option Bool},Yay.f k (gI a i 0) (gS a i 1) (gI a i 2) (gI a i 3) (gI a i 4) (gB a i 5) (gL a i 6) (gI a i 7) (gS a i 8) (gI a i 9) (gL a i 10) (gL a i 11) (gI a i 12) (gS a i 13) (gI a i 14) (gL a i 15) (gL a i 16) Z8 rev false F = F (objR a i Z8 rev) := objOk_fv k1 k6 k8 k10 k11 k13 k15 k16 hk _
  have gt : ZB Ya lim (a.take i) := ⟨by rw [List.length_take]; omega,rows_take g.2⟩
  have hx : ∀ {y0 : Int} {y1 : BA} {y2 y3 y4 : Int} {y5 : Bool} {y6 : LD} {y7 : Int} {y8 : BA} {y9 : Int} {y10 y11 : LD} {y12 : Int} {y13 : BA} {y14 : Int} {y15 y16 : LD} {β : Type} (K : Bool → Option β),Yk.f k (a.take i) y0 y1 y2 y3 y4 y5 y6 y7 y8 y9 y10 y11 y12 y13 y14 y15 y16 K = K (!(List.range i).all fun j => !(gI a (j : Int) 2 == y2)) := by
   intro y0 y1 y2 y3 y4 y5 y6 y7 y8 y9 y10 y11 y12 y13 y14 y15 y16 β K
   refine Yk.f_of ?_ K
   have hli : (a.take i).length = i := by rw [List.length_take]; omega
   have hf : ∀ {β : Type} (K : Int → Option β),Yd.f k (a.take i) y0 y1 y2 y3 y4 y5 y6 y7 y8 y9 y10 y11 y12 y13 y14 y15 y16 K = K (ZbV (fun j => gI a (j : Int) 2 == y2) i) := fun K => Yd.f_of (by
    unfold Yd.t Yd.g
    refine iter_findI (n := i) _ some (by unfold Fuel at hk0; omega) (fun L j hj => ?_) (fun L => by simp [Yd.l0,atR,rdQ,Q.ask,hli])
    have hs : ∀ {z0 : Int} {z1 : BA} {z2 z3 z4 : Int} {z5 : Bool} {z6 : LD} {z7 : Int} {z8 : BA} {z9 : Int} {z10 z11 : LD} {z12 : Int} {z13 : BA} {z14 : Int} {z15 z16 : LD} {β : Type} (K : Bool → Option β),Yao.f k z0 z1 z2 z3 z4 z5 z6 z7 z8 z9 z10 z11 z12 z13 z14 z15 z16 y0 y1 y2 y3 y4 y5 y6 y7 y8 y9 y10 y11 y12 y13 y14 y15 y16 K = K (z2 == y2) := fun K => Yao.f_of (by unfold Yao.t Yao.g; rfl) K
    have hg : gI (a.take i) (j : Int) 2 = gI a (j : Int) 2 := by unfold gI; rw [gR_take (by omega) (by omega)]
    simp (disch := omega) only [Yd.l0,atR,rdQ,Q.ask,ZY (show (j : Int) < (a.take i).length by omega),cond_true,Ya.row gt,Z4,Z5,ZaQ,ZaV,Zbl,Zan,hs,hg,Z9]) K
   unfold Yk.t Yk.g
   rw [hf,findI_all]
  have hd : (a.drop (Int.toNat (0 : Int))).take (Int.toNat (i : Int) - Int.toNat (0 : Int)) = a.take i := by simp
  have hg : ∀ {F : Option Bool},Zd (0 ≤ (0 : Int) ∧ (0 : Int) ≤ (i : Int) ∧ (i : Int) ≤ (a.length : Int) ∧ Zbk 17 a) F = F := ZH ⟨by omega,by omega,by omega,fun r hr => (g.2 r hr).len⟩
  unfold objsP
  simp (disch := omega) only [YT.l0,atR,rdQ,Q.ask,ZY (show (i : Int) < a.length by omega),cond_true,Ya.row g,Z4,Z5,ZaQ,ZaV,Zbl,Zan,e3,hg,hd,hx]
  cases objR a (i : Int) Z8 rev
  ·rfl
  by_cases h0 : (i : Int) > 0
  ·simp (disch := omega) only [ZY h0,cond_true,Z9,Ya.row g,Z4,Z5,ZaQ,ZaV,Zbl,Zan,Bool.not_true,cond_false]
   obtain ⟨c,hc,hf⟩ := cmpObjs_fv (k := k) (x0 := gI a ((i : Int) - 1) 0) (x1 := gS a ((i : Int) - 1) 1) (x2 := gI a ((i : Int) - 1) 2) (x3 := gI a ((i : Int) - 1) 3) (x4 := gI a ((i : Int) - 1) 4) (x5 := gB a ((i : Int) - 1) 5) (x6 := gL a ((i : Int) - 1) 6) (x7 := gI a ((i : Int) - 1) 7) (x8 := gS a ((i : Int) - 1) 8) (x9 := gI a ((i : Int) - 1) 9) (x10 := gL a ((i : Int) - 1) 10) (x11 := gL a ((i : Int) - 1) 11) (x12 := gI a ((i : Int) - 1) 12) (x13 := gS a ((i : Int) - 1) 13) (x14 := gI a ((i : Int) - 1) 14) (x15 := gL a ((i : Int) - 1) 15) (x16 := gL a ((i : Int) - 1) 16) (y0 := gI a (i : Int) 0) (y1 := gS a (i : Int) 1) (y2 := gI a (i : Int) 2) (y3 := gI a (i : Int) 3) (y4 := gI a (i : Int) 4) (y5 := gB a (i : Int) 5) (y6 := gL a (i : Int) 6) (y7 := gI a (i : Int) 7) (y8 := gS a (i : Int) 8) (y9 := gI a (i : Int) 9) (y10 := gL a (i : Int) 10) (y11 := gL a (i : Int) 11) (y12 := gI a (i : Int) 12) (y13 := gS a (i : Int) 13) (y14 := gI a (i : Int) 14) (y15 := gL a (i : Int) 15) (y16 := gL a (i : Int) 16)
   rw [hf,hc]
   cases lessV (gI a ((i : Int) - 1) 0) (gS a ((i : Int) - 1) 1) (gI a (i : Int) 0) (gS a (i : Int) 1)
   ·rfl
   ·simp (disch := omega) only [Bool.not_true,cond_false,Bool.not_false,Bool.false_or,Bool.true_and,Z9]
    cases (List.range i).all _ <;> rfl
  ·simp only [ZZ h0,cond_false,Bool.not_true,Bool.not_false,Bool.true_or,Bool.true_and]
   simp (disch := omega) only [Z9]
   cases (List.range i).all _ <;> rfl
 ·intro L
  simp [YT.l0,atR,rdQ,Q.ask]) K
end Go.Proofs.Ytpgplbalenfgfaa
