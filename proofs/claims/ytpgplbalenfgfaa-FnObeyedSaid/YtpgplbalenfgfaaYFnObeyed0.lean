/- Printed,and by hand: the functions that FnObeyed reaches come to their end; the program's answer as the reference's. -/
import Derived.Test.YtpgplbalenfgfaaXFnObeyed1
import Derived.KernelRfl
set_option linter.unusedVariables false
set_option linter.unusedSimpArgs false
namespace Go.Proofs.Ytpgplbalenfgfaa
open Go Go.T Go.Proofs
theorem YaW {V β : Type} {b : (V → Option β) → V → Option β} (m : V → Nat) (Inv : V → Prop) (Q : Option β → Prop) (step : ∀ v,Inv v → ∀ L,(∀ v',Inv v' → m v' < m v → Q (L v')) → Q (b L v)) : ∀ {k : Nat} {v : V},Inv v → m v < k → Q (ZA b k v)
 | 0,v,_,h => absurd h (Nat.not_lt_zero _)
 | k + 1,v,hv,h => step v hv (ZA b k) fun v' hv' hlt => YaW m Inv Q step hv' (by omega)
theorem mem_modify {α : Type} {P : α → Prop} {f : α → α} (hf : ∀ x,P x → P (f x)) : ∀ {xs : List α} {j : Nat},(∀ x ∈ xs,P x) → ∀ x ∈ xs.modify j f,P x
 | [],j,h,x,hx => by cases j <;> cases hx
 | y :: xs,0,h,x,hx => by
  simp only [List.modify_zero_cons] at hx
  rcases List.mem_cons.mp hx with rfl | hx
  ·exact hf y (h y (by simp))
  ·exact h x (by simp [hx])
 | y :: xs,j + 1,h,x,hx => by
  simp only [List.modify_succ_cons] at hx
  rcases List.mem_cons.mp hx with rfl | hx
  ·exact h x (by simp)
  ·exact mem_modify hf (fun z hz => h z (by simp [hz])) x hx
theorem YaI {α : Type} {P : α → Prop} {xs : List α} {y : α} (h : ∀ x ∈ xs,P x) (hy : P y) : ∀ x ∈ xs ++ [y],P x := by
 intro x hx
 rcases List.mem_append.mp hx with q | q
 ·exact h x q
 ·simp at q; subst q; exact hy
theorem wf_of {x : Int} (h0 : -9223372036854775808 ≤ x) (h1 : x ≤ 9223372036854775807) : (Lit.int .i64 x).wf = true := by
 simp [Lit.wf,IntKind.min,IntKind.max,IntKind.signed,IntKind.bits]
 omega
theorem big_lv1 {n : Nat} (h : n ≤ 4398046511104) : big + n ≤ lv 1 := by
 have hb : big = 2 ^ 64 := rfl
 have : lv 1 = 2 ^ 65 := rfl
 omega
theorem ZaM (n : Int) : n = 1 ∨ n = 2 ∨ n = 3 ∨ n = 4 ∨ n = 5 ∨ ((n == 1) = false ∧ (n == 2) = false ∧ (n == 3) = false ∧ (n == 4) = false ∧ (n == 5) = false) := by
 simp only [beq_eq_false_iff_ne]
 omega
theorem delR_deep {pr : List D → Option Bool} {q : List D → Bool} : ∀ {e : LD},(∀ r ∈ e,pr r = some (q r)) → delR pr (Zc e) = some (Zc (e.filter fun r => !q r))
 | [],_ => rfl
 | r :: e,h => by
  simp only [Zc,delR,imm_deepCells,h r (by simp),delR_deep (e := e) fun x hx => h x (by simp [hx])]
  rw [List.filter_cons]
  cases q r <;> rfl
theorem delK_deep {ix : LD → Option Int} {pr : List D → Option Bool} {q : List D → Bool} {d : LD} (hl : d.length ≤ 1048576) (hix : ix d = some (ZbV (fun i => q (gR d (i : Int))) d.length)) (h : ∀ r ∈ d,pr r = some (q r)) : delK ix pr (Zc d) = some (Zc (d.filter fun r => !q r)) := by
 unfold delK
 rw [ZK,hix]
 have hg : ∀ i (hi : i < d.length),gR d (i : Int) = d[i] := fun i hi => by
  have := gR_at (xs := d) (v := (i : Int)) (by omega) (by omega)
  rw [Int.toNat_natCast,List.getElem?_eq_getElem hi] at this
  injection this with this
  exact this.symm
 by_cases hz : ZbV (fun i => q (gR d (i : Int))) d.length < 0
 ·obtain ⟨h1,h2⟩ := findI_none hz
  simp only [h1,if_true]
  congr 2
  symm
  rw [List.filter_eq_self]
  intro x hx
  obtain ⟨i,hi,rfl⟩ := List.mem_iff_getElem.mp hx
  have := h2 i hi
  rw [hg i hi] at this
  rw [this]; rfl
 ·obtain ⟨h1,h2,h3,h4⟩ := findI_some (p := fun i => q (gR d (i : Int))) (n := d.length) (by omega)
  generalize ZbV (fun i => q (gR d (i : Int))) d.length = z at *
  simp only [show ¬ z = -1 by omega,if_false]
  rw [ZH ⟨by omega,by rw [ZS]; omega,by rw [ZS]; omega⟩]
  have ht : ∀ m,m ≤ d.length → (Zc d).take m = Zc (d.take m) ∧ (Zc d).drop m = Zc (d.drop m) := fun m hm => by
   have e : Zc d = Zc (d.take m) ++ Zc (d.drop m) := by rw [← Zbb,List.take_append_drop]
   have l : (Zc (d.take m)).length = m := by rw [ZS,List.length_take]; omega
   rw [e]
   exact ⟨List.take_left' l,List.drop_left' l⟩
  rw [(ht z.toNat (by omega)).1,(ht (z.toNat + 1) (by omega)).2,delR_deep fun r hr => h r (List.mem_of_mem_drop hr)]
  simp only []
  rw [← Zbb]
  congr 2
  have h5 : d = d.take z.toNat ++ (d[z.toNat] :: d.drop (z.toNat + 1)) := by rw [List.getElem_cons_drop,List.take_append_drop]
  conv => rhs; rw [h5]
  rw [List.filter_append,List.filter_cons]
  have h7 : q d[z.toNat] = true := by have := h2; rwa [hg _ h1] at this
  rw [h7]
  simp only [Bool.not_true,Bool.false_eq_true,if_false]
  congr 1
  symm
  rw [List.filter_eq_self]
  intro x hx
  obtain ⟨i,hi,rfl⟩ := List.mem_iff_getElem.mp hx
  rw [List.length_take] at hi
  have := h4 i (by omega)
  rw [hg i (by omega)] at this
  rw [List.getElem_take,this]; rfl
def insD (r : Nat → Int) (x : Nat) : List Nat → List Nat
 | [] => [x]
 | y :: l => if r y < r x then x :: y :: l else y :: insD r x l
def YaN (r : Nat → Int) (l : List Nat) : List Nat := l.foldl (fun a x => insD r x a) []
def AheadD (r : Nat → Int) (i j : Nat) : Prop := r j < r i ∨ (r i = r j ∧ i < j)
theorem insD_mem {r : Nat → Int} {x z : Nat} : ∀ {l : List Nat},z ∈ insD r x l ↔ z = x ∨ z ∈ l
 | [] => by simp [insD]
 | y :: l => by
  unfold insD
  split
  ·simp
  ·simp only [List.mem_cons,insD_mem (l := l)]
   constructor
   ·rintro (h | h | h) <;> simp [h]
   ·rintro (h | h | h) <;> simp [h]
theorem insD_len {r : Nat → Int} {x : Nat} : ∀ {l : List Nat},(insD r x l).length = l.length + 1
 | [] => rfl
 | y :: l => by
  unfold insD
  split
  ·simp
  ·simp [insD_len (l := l)]
theorem insD_pair {r : Nat → Int} {x : Nat} : ∀ {l : List Nat},l.Pairwise (AheadD r) → (∀ y ∈ l,y < x) → (insD r x l).Pairwise (AheadD r)
 | [],_,_ => by simp [insD]
 | y :: l,h,hx => by
  obtain ⟨h1,h2⟩ := List.pairwise_cons.mp h
  unfold insD
  split
  ·rename_i hr
   refine List.pairwise_cons.mpr ⟨fun z hz => ?_,h⟩
   rcases List.mem_cons.mp hz with rfl | hz
   ·exact .inl hr
   ·rcases h1 z hz with q | q
    ·exact .inl (by omega)
    ·exact .inl (by omega)
  ·rename_i hr
   refine List.pairwise_cons.mpr ⟨fun z hz => ?_,insD_pair h2 fun z hz => hx z (by simp [hz])⟩
   rcases insD_mem.mp hz with rfl | hz
   ·have := hx y (by simp)
    by_cases he : r y = r z
    ·exact .inr ⟨he,this⟩
    ·exact .inl (by omega)
   ·exact h1 z hz
theorem foldD {r : Nat → Int} : ∀ (l a : List Nat),a.Pairwise (AheadD r) → l.Pairwise (· < ·) → (∀ y ∈ a,∀ x ∈ l,y < x) →
  (l.foldl (fun a x => insD r x a) a).Pairwise (AheadD r) ∧ (∀ z,z ∈ l.foldl (fun a x => insD r x a) a ↔ z ∈ a ∨ z ∈ l) ∧ (l.foldl (fun a x => insD r x a) a).length = a.length + l.length
 | [],a,h,_,_ => ⟨h,by simp,by simp⟩
 | x :: l,a,h,hl,hx => by
  obtain ⟨h1,h2⟩ := List.pairwise_cons.mp hl
  obtain ⟨q1,q2,q3⟩ := foldD l (insD r x a) (insD_pair h fun y hy => hx y hy x (by simp)) h2 (fun y hy z hz => by
   rcases insD_mem.mp hy with rfl | hy
   ·exact h1 z hz
   ·exact hx y hy z (by simp [hz]))
  refine ⟨q1,fun z => ?_,by rw [List.foldl_cons,q3,insD_len,List.length_cons]; omega⟩
  rw [List.foldl_cons,q2,insD_mem,List.mem_cons]
  constructor
  ·rintro ((h | h) | h) <;> simp [h]
  ·rintro (h | h | h) <;> simp [h]
theorem isortD_facts {r : Nat → Int} {l : List Nat} (hl : l.Pairwise (· < ·)) : (YaN r l).Pairwise (AheadD r) ∧ (∀ z,z ∈ YaN r l ↔ z ∈ l) ∧ (YaN r l).length = l.length := by
 obtain ⟨h1,h2,h3⟩ := foldD (r := r) l [] (by simp) hl (by simp)
 exact ⟨h1,fun z => by rw [YaN,h2]; simp,by rw [YaN,h3]; simp⟩
theorem insD_map {r : Nat → Int} {f : Nat → Nat} {x : Nat} : ∀ {l : List Nat},insD r (f x) (l.map f) = (insD (fun i => r (f i)) x l).map f
 | [] => rfl
 | y :: l => by
  simp only [List.map_cons,insD]
  split
  ·rfl
  ·rw [insD_map (l := l)]; rfl
theorem isortD_map {r : Nat → Int} {f : Nat → Nat} {l : List Nat} : YaN r (l.map f) = (YaN (fun i => r (f i)) l).map f := by
 have : ∀ (l a : List Nat),(l.map f).foldl (fun a x => insD r x a) (a.map f) = (l.foldl (fun a x => insD (fun i => r (f i)) x a) a).map f := by
  intro l
  induction l with
  | nil => intro a; rfl
  | cons x l ih => intro a; simp only [List.map_cons,List.foldl_cons,insD_map,ih]
 exact this l []
def bestD (r : Nat → Int) : List Nat → Option Nat → Option Nat
 | [],b => b
 | i :: l,none => bestD r l (some i)
 | i :: l,some b => if r b < r i then bestD r l (some i) else bestD r l (some b)
theorem bestD_some {r : Nat → Int} : ∀ {l : List Nat} {b : Nat},(∀ i ∈ l,b < i) → l.Pairwise (· < ·) → ∃ c,bestD r l (some b) = some c ∧ (c = b ∨ c ∈ l) ∧ (c = b ∨ AheadD r c b) ∧ ∀ i ∈ l,i = c ∨ AheadD r c i
 | [],b,_,_ => ⟨b,rfl,.inl rfl,.inl rfl,by simp⟩
 | i :: l,b,h,hl => by
  obtain ⟨h1,h2⟩ := List.pairwise_cons.mp hl
  unfold bestD
  split
  ·rename_i hr
   obtain ⟨c,q1,q2,q3,q4⟩ := bestD_some (r := r) (b := i) h1 h2
   refine ⟨c,q1,.inr (by rcases q2 with h | h <;> simp [h]),.inr ?_,fun j hj => ?_⟩
   ·rcases q3 with rfl | q3
    ·exact .inl hr
    ·rcases q3 with q | q
     ·exact .inl (by omega)
     ·exact .inl (by omega)
   ·rcases List.mem_cons.mp hj with rfl | hj
    ·rcases q3 with rfl | q3
     ·exact .inl rfl
     ·exact .inr q3
    ·exact q4 j hj
  ·rename_i hr
   have hb := h i (by simp)
   obtain ⟨c,q1,q2,q3,q4⟩ := bestD_some (r := r) (b := b) (fun j hj => h j (by simp [hj])) h2
   refine ⟨c,q1,by rcases q2 with h | h <;> simp [h],q3,fun j hj => ?_⟩
   rcases List.mem_cons.mp hj with rfl | hj
   ·have hbi : AheadD r b j := by
     by_cases he : r b = r j
     ·exact .inr ⟨he,hb⟩
     ·exact .inl (by omega)
    rcases q3 with rfl | q3
    ·exact .inr hbi
    ·right
     rcases q3 with q | q <;> rcases hbi with p | p
     ·exact .inl (by omega)
     ·exact .inl (by omega)
     ·exact .inl (by omega)
     ·exact .inr ⟨by omega,by omega⟩
   ·exact q4 j hj
theorem best_next {r : Nat → Int} {l : List Nat} (hl : l.Pairwise (· < ·)) (h0 : ∀ i ∈ l,0 ≤ r i) {t : Nat} (ht : t < l.length) {r' : Nat → Int}
  (hr : ∀ i ∈ l,r' i = if i ∈ (YaN r l).take t then -1 else r i) : bestD r' l none = (YaN r l)[t]? := by
 obtain ⟨s1,s2,s3⟩ := isortD_facts (r := r) hl
 have hT : t < (YaN r l).length := by omega
 generalize YaN r l = S at s1 s2 s3 hr hT ⊢
 rw [List.getElem?_eq_getElem hT]
 cases l with
 | nil => simp at ht
 | cons a l =>
  obtain ⟨h1,h2⟩ := List.pairwise_cons.mp hl
  obtain ⟨c,q1,q2,q3,q4⟩ := bestD_some (r := r') h1 h2
  unfold bestD
  rw [q1]
  congr 1
  have hnd : S.Nodup := s1.imp fun {i j} h e => by subst e; rcases h with h | h <;> omega
  have hSt : S[t] ∉ S.take t := fun h => by
   obtain ⟨i,hi,he⟩ := List.mem_take_iff_getElem.mp h
   have := (List.getElem_inj hnd).mp he
   omega
  have hm : S[t] ∈ a :: l := (s2 _).mp (List.getElem_mem hT)
  have hrt : r' S[t] = r S[t] := by rw [hr _ hm,if_neg hSt]
  have h0t := h0 _ hm
  -- c is in the list,and nothing is ahead of it
  have hcm : c ∈ a :: l := by rcases q2 with h | h <;> simp [h]
  have hall : ∀ i ∈ a :: l,i = c ∨ AheadD r' c i := fun i hi => by
   rcases List.mem_cons.mp hi with rfl | hi
   ·rcases q3 with rfl | q
    ·exact .inl rfl
    ·exact .inr q
   ·exact q4 i hi
  rcases hall _ hm with h | h
  ·exact h.symm
  ·exfalso
   have hcn : c ∉ S.take t := fun hc => by
    have := hr c hcm
    rw [if_pos hc] at this
    rcases h with h | h <;> omega
   have hcr : r' c = r c := by rw [hr c hcm,if_neg hcn]
   obtain ⟨j,hj,rfl⟩ := List.mem_iff_getElem.mp ((s2 c).mpr hcm)
   have hjt : t < j := by
    rcases Nat.lt_trichotomy j t with q | q | q
    ·exact absurd (List.mem_take_iff_getElem.mpr ⟨j,by omega,rfl⟩) hcn
    ·subst q
     rcases h with h | h <;> omega
    ·exact q
   have := List.pairwise_iff_getElem.mp s1 t j hT hj hjt
   rw [AheadD,hrt,hcr] at h
   rcases this with p | p <;> rcases h with q | q <;> omega
section
variable (w c o : Nat → Int) (L : Nat) (n : Int)
def opB (i : Nat) : Bool := decide (0 < w i) && decide (o i < c i)
def opL : List Nat := (List.range L).filter (opB w c o)
def smL (l : List Nat) : Int := (l.map w).sum
abbrev smD : Int := smL w (opL w c o L)
def bsD (s : Int) (i : Nat) : Int := Int.tdiv (n * w i) s
def rsD (s : Int) (i : Nat) : Int := Int.tmod (n * w i) s
def lfD (s : Int) (l : List Nat) : Int := n - (l.map (bsD w n s)).sum
def chD (s : Int) (l : List Nat) : List Nat := (YaN (rsD w n s) l).take (lfD w n s l).toNat
def xD (s : Int) (l : List Nat) (i : Nat) : Int := bsD w n s i + if i ∈ chD w n s l then 1 else 0
def clD (s : Int) (l : List Nat) (i : Nat) : Int := if c i - o i < xD w n s l i then c i - o i else xD w n s l i
end
theorem sum_le {f : Nat → Int} {b : Int} : ∀ {l : List Nat},(∀ i ∈ l,0 ≤ f i ∧ f i ≤ b) → 0 ≤ (l.map f).sum ∧ (l.map f).sum ≤ b * l.length
 | [],_ => by simp
 | x :: l,h => by
  obtain ⟨q1,q2⟩ := sum_le (f := f) (b := b) (l := l) fun i hi => h i (by simp [hi])
  obtain ⟨p1,p2⟩ := h x (by simp)
  simp only [List.map_cons,List.sum_cons,List.length_cons]
  have : b * ((l.length + 1 : Nat) : Int) = b * (l.length : Int) + b := by rw [show ((l.length + 1 : Nat) : Int) = (l.length : Int) + 1 by omega,Int.mul_add,Int.mul_one]
  omega
theorem sum_split {w : Nat → Int} {n s : Int} (hs : 0 < s) (hn : 0 ≤ n) : ∀ {l : List Nat},(∀ i ∈ l,0 ≤ w i) → n * (l.map w).sum = s * (l.map (bsD w n s)).sum + (l.map (rsD w n s)).sum
 | [],_ => by simp
 | x :: l,h => by
  have ih := sum_split (w := w) hs hn (l := l) fun i hi => h i (by simp [hi])
  have h1 : s * bsD w n s x + rsD w n s x = n * w x := Int.mul_tdiv_add_tmod (n * w x) s
  simp only [List.map_cons,List.sum_cons]
  rw [Int.mul_add,Int.mul_add,ih,← h1]
  omega
theorem rsD_bound {w : Nat → Int} {n s : Int} (hs : 0 < s) (hn : 0 ≤ n) {i : Nat} (h : 0 ≤ w i) : 0 ≤ rsD w n s i ∧ rsD w n s i < s ∧ 0 ≤ bsD w n s i := by
 have h0 : 0 ≤ n * w i := Int.mul_nonneg hn h
 exact ⟨Int.tmod_nonneg _ h0,Int.tmod_lt_of_pos _ hs,Int.tdiv_nonneg h0 (by omega)⟩
theorem lfD_bound {w : Nat → Int} {n : Int} {l : List Nat} (hn : 0 ≤ n) (hw : ∀ i ∈ l,0 < w i) (hl : l ≠ []) : 0 < smL w l ∧ 0 ≤ lfD w n (smL w l) l ∧ lfD w n (smL w l) l < l.length ∧ 0 ≤ (l.map (bsD w n (smL w l))).sum := by
 have hs : 0 < smL w l := by
  cases l with
  | nil => exact absurd rfl hl
  | cons x l =>
   unfold smL
   have h1 := hw x (by simp)
   have h2 : 0 ≤ (l.map w).sum := by
    have : ∀ {l : List Nat},(∀ i ∈ l,0 < w i) → 0 ≤ (l.map w).sum := fun {l} => by
     induction l with
     | nil => simp
     | cons y l ih =>
      intro h
      have := h y (by simp)
      have := ih fun i hi => h i (by simp [hi])
      simp only [List.map_cons,List.sum_cons]
      omega
    exact this fun i hi => hw i (by simp [hi])
   simp only [List.map_cons,List.sum_cons]
   omega
 have hsp := sum_split (w := w) (n := n) hs hn (l := l) fun i hi => Int.le_of_lt (hw i hi)
 have hr := sum_le (f := rsD w n (smL w l)) (b := smL w l - 1) (l := l) fun i hi => by
  obtain ⟨p1,p2,_⟩ := rsD_bound (w := w) (n := n) hs hn (i := i) (Int.le_of_lt (hw i hi))
  omega
 change n * smL w l = _ at hsp
 have hb0 : 0 ≤ (l.map (bsD w n (smL w l))).sum := by
  have : ∀ {l' : List Nat} {s : Int},0 < s → (∀ i ∈ l',0 < w i) → 0 ≤ (l'.map (bsD w n s)).sum := fun {l' s} hs => by
   induction l' with
   | nil => simp
   | cons y l ih =>
    intro h
    obtain ⟨_,_,p⟩ := rsD_bound (w := w) (n := n) hs hn (i := y) (Int.le_of_lt (h y (by simp)))
    have := ih fun i hi => h i (by simp [hi])
    simp only [List.map_cons,List.sum_cons]
    omega
  exact this hs hw
 generalize (l.map (rsD w n (smL w l))).sum = R at hsp hr
 have hlf : smL w l * lfD w n (smL w l) l = R := by
  unfold lfD
  rw [Int.mul_sub,Int.mul_comm _ n,hsp]
  omega
 refine ⟨hs,?_,?_,hb0⟩
 ·generalize lfD w n (smL w l) l = f at hlf
  apply Int.not_lt.mp
  intro h
  have := Int.mul_neg_of_pos_of_neg hs h
  omega
 ·generalize lfD w n (smL w l) l = f at hlf
  have h1 : smL w l * f < smL w l * l.length := by
   rw [hlf]
   have : (smL w l - 1) * (l.length : Int) = smL w l * l.length - l.length := by rw [Int.sub_mul,Int.one_mul]
   have h2 : 0 < l.length := List.length_pos_iff.mpr hl
   omega
  exact Int.lt_of_mul_lt_mul_left h1 (Int.le_of_lt hs)
theorem opL_facts {w c o : Nat → Int} {L : Nat} : (opL w c o L).Pairwise (· < ·) ∧ ∀ i,i ∈ opL w c o L ↔ i < L ∧ 0 < w i ∧ o i < c i := by
 refine ⟨List.Pairwise.filter _ List.pairwise_lt_range,fun i => ?_⟩
 simp [opL,opB]
theorem xD_sum {w : Nat → Int} {n : Int} {l : List Nat} (hp : l.Pairwise (· < ·)) (hn : 0 ≤ n) (hw : ∀ i ∈ l,0 < w i) (hl : l ≠ []) : (l.map (xD w n (smL w l) l)).sum = n := by
 obtain ⟨h1,h2,h3,_⟩ := lfD_bound hn hw hl
 generalize hs : smL w l = s at h1 h2 h3
 obtain ⟨s1,s2,s3⟩ := isortD_facts (r := rsD w n s) hp
 have hnd : (chD w n s l).Nodup := by
  have : (YaN (rsD w n s) l).Nodup := s1.imp fun {i j} h e => by subst e; rcases h with h | h <;> omega
  exact this.sublist (List.take_sublist _ _)
 have hlen : ((chD w n s l).length : Int) = lfD w n s l := by
  unfold chD
  rw [List.length_take,s3]
  omega
 have hsub : ∀ i ∈ chD w n s l,i ∈ l := fun i hi => (s2 i).mp (List.mem_of_mem_take hi)
 have hcount : ∀ (l : List Nat),l.Pairwise (· < ·) → ∀ (ch : List Nat),ch.Nodup → (∀ i ∈ ch,i ∈ l) → (l.map fun i => if i ∈ ch then (1 : Int) else 0).sum = ch.length := by
  intro l
  induction l with
  | nil =>
   intro _ ch _ h
   cases ch with
   | nil => rfl
   | cons x ch => exact absurd (h x (by simp)) (by simp)
  | cons x l ih =>
   intro hp ch hnd hsub
   obtain ⟨p1,p2⟩ := List.pairwise_cons.mp hp
   simp only [List.map_cons,List.sum_cons]
   have hx : x ∉ l := fun h => by have := p1 x h; omega
   have e : (l.map fun i => if i ∈ ch then (1 : Int) else 0) = l.map fun i => if i ∈ ch.erase x then (1 : Int) else 0 := List.map_congr_left fun i hi => by
    have : i ≠ x := fun h => hx (h ▸ hi)
    simp only [List.mem_erase_of_ne this]
   rw [e,ih p2 (ch.erase x) (hnd.erase x) fun i hi => by
    have hne : i ≠ x := fun h => by subst h; exact (List.Nodup.not_mem_erase hnd) hi
    rcases List.mem_cons.mp (hsub i (List.mem_of_mem_erase hi)) with h | h
    ·exact absurd h hne
    ·exact h]
   by_cases hm : x ∈ ch
   ·rw [if_pos hm,List.length_erase_of_mem hm]
    have := List.length_pos_of_mem hm
    omega
   ·rw [if_neg hm,List.erase_of_not_mem hm]
    omega
 have hadd : ∀ (l : List Nat) (f g : Nat → Int),(l.map fun i => f i + g i).sum = (l.map f).sum + (l.map g).sum := by
  intro l f g
  induction l with
  | nil => rfl
  | cons x l ih => simp only [List.map_cons,List.sum_cons,ih]; omega
 have : l.map (xD w n s l) = l.map fun i => bsD w n s i + (if i ∈ chD w n s l then (1 : Int) else 0) := rfl
 rw [this,hadd,hcount l hp _ hnd hsub,hlen]
 unfold lfD
 omega
theorem clD_sum {w c o : Nat → Int} {n : Int} {l : List Nat} (hp : l.Pairwise (· < ·)) (hn : 0 < n) (hw : ∀ i ∈ l,0 < w i) (hc : ∀ i ∈ l,o i < c i) (hl : l ≠ []) :
  (∀ i ∈ l,0 ≤ clD w c o n (smL w l) l i ∧ clD w c o n (smL w l) l i ≤ c i - o i ∧ 0 ≤ xD w n (smL w l) l i) ∧ 0 < (l.map (clD w c o n (smL w l) l)).sum ∧ (l.map (clD w c o n (smL w l) l)).sum ≤ n := by
 obtain ⟨h1,h2,h3,_⟩ := lfD_bound (Int.le_of_lt hn) hw hl
 have hx := xD_sum hp (Int.le_of_lt hn) hw hl
 generalize smL w l = s at *
 have hx0 : ∀ i ∈ l,0 ≤ xD w n s l i := fun i hi => by
  obtain ⟨_,_,p⟩ := rsD_bound (w := w) (n := n) h1 (Int.le_of_lt hn) (i := i) (Int.le_of_lt (hw i hi))
  unfold xD
  split <;> omega
 have hcl : ∀ i ∈ l,0 ≤ clD w c o n s l i ∧ clD w c o n s l i ≤ c i - o i ∧ clD w c o n s l i ≤ xD w n s l i ∧ (0 < xD w n s l i → 0 < clD w c o n s l i) := fun i hi => by
  have := hx0 i hi
  have := hc i hi
  unfold clD
  split <;> omega
 refine ⟨fun i hi => ⟨(hcl i hi).1,(hcl i hi).2.1,hx0 i hi⟩,?_⟩
 have gen : ∀ l' : List Nat,(∀ i ∈ l',i ∈ l) → 0 ≤ (l'.map (clD w c o n s l)).sum ∧ (l'.map (clD w c o n s l)).sum ≤ (l'.map (xD w n s l)).sum ∧ (0 < (l'.map (xD w n s l)).sum → 0 < (l'.map (clD w c o n s l)).sum) := by
  intro l'
  induction l' with
  | nil => intro _; simp
  | cons y l' ih =>
   intro h
   obtain ⟨q1,q2,q3⟩ := ih fun i hi => h i (by simp [hi])
   obtain ⟨p1,_,p2,p3⟩ := hcl y (h y (by simp))
   have := hx0 y (h y (by simp))
   simp only [List.map_cons,List.sum_cons]
   refine ⟨by omega,by omega,fun h => ?_⟩
   by_cases h0 : 0 < xD w n s l y
   ·have := p3 h0; omega
   ·have := q3 (by omega); omega
 have := gen l fun i hi => hi
 rw [hx] at this
 exact ⟨this.2.2 hn,this.2.1⟩
def rowF (L : Nat) (g : Nat → C) : LC := (List.range L).map fun j => [g j]
def rowD (L : Nat) (g : Nat → D) : LD := (List.range L).map fun j => [g j]
abbrev cI (o : Nat → Int) : Nat → C := fun j => .d (.int .i64 (o j))
abbrev cB (o : Nat → Bool) : Nat → C := fun j => .d (.bool (o j))
theorem rowF_len (L : Nat) (g : Nat → C) : (rowF L g).length = L := by simp [rowF]
theorem rowD_len (L : Nat) (g : Nat → D) : (rowD L g).length = L := by simp [rowD]
theorem rowF_ext {L : Nat} {g h : Nat → C} (e : ∀ j,j < L → g j = h j) : rowF L g = rowF L h := List.map_congr_left fun j hj => by rw [e j (List.mem_range.mp hj)]
theorem rowF_at {L : Nat} {g : Nat → C} {i : Nat} (h : i < L) {β : Type} (F : List C → Option β) : ZaR (rowF L g) i F = F [g i] := by
 unfold ZaR rowF
 rw [List.getElem?_map,List.getElem?_range h]
 rfl
theorem rowF_mod {L : Nat} {g : Nat → C} {i : Nat} (h : i < L) (x : C) : ((rowF L g).modify i fun c => Zs c 0 [x]) = rowF L (fun j => if j = i then x else g j) := by
 refine List.ext_getElem (by simp [rowF]) fun j h1 h2 => ?_
 rw [List.getElem_modify]
 simp only [rowF,List.getElem_map,List.getElem_range]
 by_cases hj : i = j
 ·subst hj; simp [Zs]
 ·rw [if_neg hj,if_neg (fun h => hj h.symm)]
theorem rowF_rep (L : Nat) (x : C) : List.replicate L [x] = rowF L (fun _ => x) := by
 refine List.ext_getElem (by simp [rowF]) fun j h1 h2 => ?_
 simp [rowF]
theorem immRows_map : ∀ (l : LC),C.immRows l = l.map C.immCells
 | [] => rfl
 | x :: l => by simp only [C.immRows,List.map_cons,immRows_map l]
theorem imm_rowF (L : Nat) (g : Nat → C) : C.immRows (rowF L g) = rowD L (fun j => (g j).imm) := by
 rw [immRows_map,rowF,rowD,List.map_map]
 rfl
theorem rowD_at {L : Nat} {g : Nat → D} {i : Nat} (h : i < L) {β : Type} (F : List D → Option β) : atRow (rowD L g) (i : Int) F = F [g i] := by
 unfold atRow
 rw [if_pos (by omega),Int.toNat_natCast]
 unfold ZaR rowD
 rw [List.getElem?_map,List.getElem?_range h]
 rfl
theorem deep_rowI {L : Nat} {o : Nat → Int} : Zc (rowD L (fun j => .int .i64 (o j))) = rowF L (cI o) := by
 have : ∀ l : List Nat,Zc (l.map fun j => [D.int .i64 (o j)]) = l.map fun j => [C.d (.int .i64 (o j))] := fun l => by
  induction l with
  | nil => rfl
  | cons x l ih => simp only [List.map_cons,Zc,ZN,deepD,ih]
 exact this _
def upN (l : List Nat) : LC := l.map fun (x : Nat) => [.d (.int .i64 (x : Int))]
def ofN (l : List Nat) : LD := l.map fun (x : Nat) => [.int .i64 (x : Int)]
theorem upN_len (l : List Nat) : (upN l).length = l.length := by simp [upN]
theorem ofN_len (l : List Nat) : (ofN l).length = l.length := by simp [ofN]
theorem upN_app (a b : List Nat) : upN a ++ upN b = upN (a ++ b) := by simp [upN]
theorem imm_upN (l : List Nat) : C.immRows (upN l) = ofN l := by
 rw [immRows_map,upN,ofN,List.map_map]
 rfl
theorem upN_at {l : List Nat} {i : Nat} (h : i < l.length) {β : Type} (F : List C → Option β) : ZaR (upN l) i F = F [.d (.int .i64 (l[i] : Int))] := by simp [ZaR,upN,h]
theorem ofN_at {l : List Nat} {i : Nat} (h : i < l.length) {β : Type} (F : List D → Option β) : atRow (ofN l) (i : Int) F = F [.int .i64 (l[i] : Int)] := by
 unfold atRow
 rw [if_pos (by omega),Int.toNat_natCast]
 simp [ZaR,ofN,h]
theorem range_filter_succ (p : Nat → Bool) (i : Nat) : (List.range (i + 1)).filter p = (List.range i).filter p ++ (if p i then [i] else []) := by
 rw [List.range_succ,List.filter_append]
 simp [List.filter_cons]
section
variable {α : Type} (less same : α → α → Bool)
structure Ordered : Prop where
 irr : ∀ x y,same x y = true → less x y = false
 tri : ∀ x y,less x y = false → same x y = false → less y x = true
 asym : ∀ x y,less x y = true → less y x = false
 trans : ∀ x y z,less x y = true → less y z = true → less x z = true
 cong : ∀ x y z,same x y = true → less y z = true → less x z = true
 sym : ∀ x y,same x y = true → same y x = true
def withF (o o' : α) : Bool → List α → List α
 | put,[] => if put then [] else [o']
 | put,x :: xs => (if !put && !less x o then [o'] else []) ++ ((if same x o then [] else [x]) ++ withF o o' (put || !less x o) xs)
def lbF (o : α) (l : List α) : Nat := (l.takeWhile fun x => less x o).length
def hitF (o : α) (l : List α) : Bool := match l[lbF less o l]? with | some x => same x o | none => false
end
section
variable {α : Type} {less same : α → α → Bool} (H : Ordered less same) {o o' : α}
include H
theorem withF_past : ∀ {l : List α},(∀ x ∈ l,less o x = true) → withF less same o o' true l = l
 | [],_ => rfl
 | x :: xs,h => by
  have hx := h x (by simp)
  have hs : same x o = false := by
   cases q : same x o
   ·rfl
   ·have := H.irr o x (H.sym _ _ q)
    rw [hx] at this; cases this
  unfold withF
  rw [hs,Bool.true_or,withF_past fun y hy => h y (by simp [hy])]
  rfl
theorem withF_eq : ∀ {l : List α},l.Pairwise (fun x y => less x y = true) → withF less same o o' false l = l.take (lbF less o l) ++ o' :: l.drop (lbF less o l + if hitF less same o l then 1 else 0)
 | [],_ => rfl
 | x :: xs,h => by
  obtain ⟨h1,h2⟩ := List.pairwise_cons.mp h
  cases hx : less x o with
  | true =>
   have hs : same x o = false := by
    cases q : same x o
    ·rfl
    ·have := H.irr _ _ q
     rw [hx] at this; cases this
   have e : lbF less o (x :: xs) = lbF less o xs + 1 := by simp [lbF,List.takeWhile_cons,hx]
   have e2 : hitF less same o (x :: xs) = hitF less same o xs := by unfold hitF; rw [e]; rfl
   unfold withF
   rw [hx,hs]
   show [x] ++ withF less same o o' false xs = _
   rw [withF_eq h2,e,e2]
   simp only [List.nil_append,List.take_succ_cons,List.cons_append]
   rw [show lbF less o xs + 1 + (if hitF less same o xs = true then 1 else 0) = (lbF less o xs + if hitF less same o xs = true then 1 else 0) + 1 by omega,List.drop_succ_cons]
  | false =>
   have e : lbF less o (x :: xs) = 0 := by simp [lbF,List.takeWhile_cons,hx]
   have e2 : hitF less same o (x :: xs) = same x o := by unfold hitF; rw [e]; rfl
   have hp : ∀ y ∈ xs,less o y = true := fun y hy => by
    cases hs : same x o with
    | true => exact H.cong _ _ _ (H.sym _ _ hs) (h1 y hy)
    | false => exact H.trans _ _ _ (H.tri _ _ hx hs) (h1 y hy)
   unfold withF
   rw [hx,Bool.not_false,Bool.false_or,withF_past H hp,e,e2]
   cases same x o <;> simp
omit H in
theorem lbF_below : ∀ {l : List α} {i : Nat} (hi : i < l.length),i < lbF less o l → less l[i] o = true
 | x :: xs,i,hi,h => by
  cases hx : less x o with
  | false => simp [lbF,List.takeWhile_cons,hx] at h
  | true =>
   cases i with
   | zero => exact hx
   | succ i => exact lbF_below (l := xs) (by simpa using hi) (by simpa [lbF,List.takeWhile_cons,hx] using h)
theorem lbF_above : ∀ {l : List α} (_ : l.Pairwise (fun x y => less x y = true)) {i : Nat} (hi : i < l.length),lbF less o l ≤ i → less l[i] o = false
 | x :: xs,hp,i,hi,h => by
  obtain ⟨h1,h2⟩ := List.pairwise_cons.mp hp
  cases hx : less x o with
  | true =>
   cases i with
   | zero => simp [lbF,List.takeWhile_cons,hx] at h
   | succ i => exact lbF_above h2 (by simpa using hi) (by simpa [lbF,List.takeWhile_cons,hx] using h)
  | false =>
   cases i with
   | zero => exact hx
   | succ i =>
    have hxi := h1 (xs[i]'(by simpa using hi)) (List.getElem_mem _)
    show less (xs[i]'(by simpa using hi)) o = false
    cases q : less (xs[i]'(by simpa using hi)) o with
    | false => rfl
    | true =>
     have := H.trans _ _ _ hxi q
     rw [hx] at this; cases this
end
def ltK (key : Nat → Int) (i j : Nat) : Prop := key i < key j ∨ (key i = key j ∧ i < j)
theorem ltK_tr {key : Nat → Int} {i j l : Nat} (h : ltK key i j) (h' : ltK key j l) : ltK key i l := by
 unfold ltK at *; omega
theorem ltK_as {key : Nat → Int} {i j : Nat} (h : ltK key i j) : ¬ ltK key j i := by
 unfold ltK at *; omega
theorem st_uniq {key : Nat → Int} : ∀ {L M : List Nat},L.Pairwise (ltK key) → M.Pairwise (ltK key) → (∀ x,x ∈ L ↔ x ∈ M) → L = M
 | [],[],_,_,_ => rfl
 | [],y :: M,_,_,h => by have := (h y).mpr (by simp); simp at this
 | x :: L,[],_,_,h => by have := (h x).mp (by simp); simp at this
 | x :: L,y :: M,hL,hM,h => by
  obtain ⟨hx,hL2⟩ := List.pairwise_cons.mp hL
  obtain ⟨hy,hM2⟩ := List.pairwise_cons.mp hM
  have e : x = y := by
   rcases List.mem_cons.mp ((h x).mp (by simp)) with e | e
   ·exact e
   ·rcases List.mem_cons.mp ((h y).mpr (by simp)) with e2 | e2
    ·exact e2.symm
    ·exact absurd (hy x e) (ltK_as (hx y e2))
  subst e
  refine congrArg _ (st_uniq hL2 hM2 fun z => ⟨fun hz => ?_,fun hz => ?_⟩)
  ·rcases List.mem_cons.mp ((h z).mp (by simp [hz])) with e | e
   ·subst e; exact absurd (hx z hz) (fun q => ltK_as q q)
   ·exact e
  ·rcases List.mem_cons.mp ((h z).mpr (by simp [hz])) with e | e
   ·subst e; exact absurd (hy z hz) (fun q => ltK_as q q)
   ·exact e
def StOf (key : Nat → Int) (L R : List Nat) : Prop := R.Pairwise (ltK key) ∧ R.Perm L
theorem StOf.len {key : Nat → Int} {L R : List Nat} (h : StOf key L R) : R.length = L.length := h.2.length_eq
theorem st_join {key : Nat → Int} {A1 A2 B1 B2 R1 R2 : List Nat} (hA : (A1 ++ A2).Pairwise (ltK key)) (hB : (B1 ++ B2).Pairwise (ltK key)) (h1 : ∀ x ∈ A1,∀ y ∈ B2,ltK key x y) (h2 : ∀ x ∈ A2,∀ y ∈ B1,ltK key y x)
  (r1 : StOf key (A1 ++ B1) R1) (r2 : StOf key (A2 ++ B2) R2) : StOf key ((A1 ++ A2) ++ (B1 ++ B2)) (R1 ++ R2) := by
 refine ⟨List.pairwise_append.mpr ⟨r1.1,r2.1,fun x hx y hy => ?_⟩,?_⟩
 ·have hA3 := (List.pairwise_append.mp hA).2.2
  have hB3 := (List.pairwise_append.mp hB).2.2
  rcases List.mem_append.mp (r1.2.mem_iff.mp hx) with hx | hx <;> rcases List.mem_append.mp (r2.2.mem_iff.mp hy) with hy | hy
  ·exact hA3 x hx y hy
  ·exact h1 x hx y hy
  ·exact h2 y hy x hx
  ·exact hB3 x hx y hy
 ·refine (r1.2.append r2.2).trans ?_
  rw [List.append_assoc,List.append_assoc]
  refine List.Perm.append_left A1 ?_
  rw [← List.append_assoc,← List.append_assoc]
  exact List.Perm.append_right B2 List.perm_append_comm
theorem st_cut {key : Nat → Int} {L : List Nat} (h : L.Pairwise (ltK key)) {i j : Nat} (hi : i < L.length) (hj : j < L.length) (hij : i < j) : ltK key L[i] L[j] := List.pairwise_iff_getElem.mp h i j hi hj hij
theorem st_le {key : Nat → Int} {L : List Nat} (h : L.Pairwise (ltK key)) {i j : Nat} (hi : i < L.length) (hj : j < L.length) (hij : i ≤ j) : L[i] = L[j] ∨ ltK key L[i] L[j] := by
 rcases Nat.lt_or_eq_of_le hij with h1 | h1
 ·exact .inr (st_cut h hi hj h1)
 ·subst h1; exact .inl rfl
theorem mem_take_get {L : List Nat} {s x : Nat} (h : x ∈ L.take s) : ∃ i,∃ (hi : i < L.length),i < s ∧ L[i] = x := by
 obtain ⟨i,hi,rfl⟩ := List.mem_iff_getElem.mp h
 rw [List.length_take] at hi
 exact ⟨i,by omega,by omega,by simp⟩
theorem mem_drop_get {L : List Nat} {s x : Nat} (h : x ∈ L.drop s) : ∃ i,∃ (hi : i < L.length),s ≤ i ∧ L[i] = x := by
 obtain ⟨i,hi,rfl⟩ := List.mem_iff_getElem.mp h
 rw [List.length_drop] at hi
 exact ⟨s + i,by omega,by omega,by simp⟩
theorem st_across {key : Nat → Int} {A B : List Nat} (hA : A.Pairwise (ltK key)) (hB : B.Pairwise (ltK key)) {s e : Nat} (h : ∀ (h0 : 0 < s) (h1 : s ≤ A.length) (h2 : e < B.length),ltK key (A[s - 1]'(by omega)) B[e]) (hs : s ≤ A.length) : ∀ x ∈ A.take s,∀ y ∈ B.drop e,ltK key x y := by
 intro x hx y hy
 obtain ⟨i,hi,his,rfl⟩ := mem_take_get hx
 obtain ⟨j,hj,hej,rfl⟩ := mem_drop_get hy
 have h0 := h (by omega) hs (by omega)
 have h1 : A[i] = A[s - 1]'(by omega) ∨ ltK key A[i] (A[s - 1]'(by omega)) := st_le hA hi (by omega) (by omega)
 have h2 : B[e]'(by omega) = B[j] ∨ ltK key (B[e]'(by omega)) B[j] := st_le hB (by omega) hj hej
 rcases h1 with h1 | h1 <;> rcases h2 with h2 | h2
 ·rw [h1,← h2]; exact h0
 ·rw [h1]; exact ltK_tr h0 h2
 ·rw [← h2]; exact ltK_tr h1 h0
 ·exact ltK_tr h1 (ltK_tr h0 h2)
def leK (key : Nat → Int) (i j : Nat) : Bool := decide (key i < key j ∨ (key i = key j ∧ i ≤ j))
def Yax (key : Nat → Int) (L : List Nat) : List Nat := L.mergeSort (leK key)
theorem YaU {key : Nat → Int} {L : List Nat} (h : L.Nodup) : StOf key L (Yax key L) := by
 have hp : (Yax key L).Perm L := List.mergeSort_perm L _
 have h1 : (Yax key L).Pairwise (fun a b => leK key a b = true) := List.pairwise_mergeSort (fun a b c h1 h2 => by simp only [leK,decide_eq_true_eq] at *; omega) (fun a b => by simp only [leK,Bool.or_eq_true,decide_eq_true_eq]; omega) L
 have h2 : (Yax key L).Nodup := hp.nodup_iff.mpr h
 refine ⟨?_,hp⟩
 refine List.Pairwise.imp ?_ (h1.and h2)
 intro a b ⟨h3,h4⟩
 simp only [leK,decide_eq_true_eq] at h3
 unfold ltK
 omega
theorem StOf.nodup {key : Nat → Int} {L R : List Nat} (h : StOf key L R) : L.Nodup := by
 refine h.2.nodup_iff.mp (List.Pairwise.imp ?_ h.1)
 intro a b h1 h2
 subst h2
 exact ltK_as h1 h1
theorem srtK_eq {key : Nat → Int} {L R : List Nat} (h : StOf key L R) : R = Yax key L := by
 have h2 := YaU (key := key) h.nodup
 exact st_uniq h.1 h2.1 fun x => by rw [h.2.mem_iff,h2.2.mem_iff]
theorem Yau {key : Nat → Int} {L : List Nat} : (Yax key L).length = L.length := (List.mergeSort_perm L _).length_eq
theorem srtK_mem {key : Nat → Int} {L : List Nat} {x : Nat} : x ∈ Yax key L ↔ x ∈ L := (List.mergeSort_perm L _).mem_iff
theorem srtK_self {key : Nat → Int} {L : List Nat} (h : L.Pairwise (ltK key)) : Yax key L = L := (srtK_eq ⟨h,List.Perm.refl _⟩).symm
def cmpL (key : Nat → Int) : Nat → List Nat → List Nat
 | _,[] => []
 | x,s :: r => bif key s == key x then cmpL key s r else s :: cmpL key s r
theorem cmpL_spec {key : Nat → Int} : ∀ {r : List Nat} {x : Nat},(x :: r).Pairwise (ltK key) → (cmpL key x r).Pairwise (fun i j => key i < key j) ∧ (∀ y ∈ cmpL key x r,key x < key y) ∧ ∀ y,y ∈ cmpL key x r ↔ y ∈ r ∧ key y ≠ key x ∧ ∀ z ∈ r,key z = key y → y ≤ z
 | [],x,_ => ⟨List.Pairwise.nil,by simp [cmpL],by simp [cmpL]⟩
 | s :: r,x,h => by
  obtain ⟨hx,h2⟩ := List.pairwise_cons.mp h
  obtain ⟨hs,h3⟩ := List.pairwise_cons.mp h2
  obtain ⟨i1,i2,i3⟩ := cmpL_spec h2
  have hxs := hx s (by simp)
  have hkx : ∀ y ∈ r,key s ≤ key y := fun y hy => by have := hs y hy; unfold ltK at this; omega
  unfold cmpL
  cases hq : key s == key x with
  | true =>
   have hq := eq_of_beq hq
   simp only [cond_true]
   refine ⟨i1,fun y hy => by have := i2 y hy; omega,fun y => ?_⟩
   rw [i3 y]
   refine ⟨fun ⟨a,b,c⟩ => ⟨by simp [a],by omega,fun z hz he => ?_⟩,fun ⟨a,b,c⟩ => ⟨?_,by omega,fun z hz he => c z (by simp [hz]) he⟩⟩
   ·rcases List.mem_cons.mp hz with rfl | hz
    ·exact absurd he.symm b
    ·exact c z hz he
   ·rcases List.mem_cons.mp a with rfl | a
    ·exact absurd hq b
    ·exact a
  | false =>
   have hq := ne_of_beq_false hq
   simp only [cond_false]
   have hlt : key x < key s := by unfold ltK at hxs; omega
   refine ⟨List.pairwise_cons.mpr ⟨i2,i1⟩,fun y hy => ?_,fun y => ?_⟩
   ·rcases List.mem_cons.mp hy with rfl | hy
    ·exact hlt
    ·have := i2 y hy; omega
   ·refine ⟨fun hy => ?_,fun ⟨a,b,c⟩ => ?_⟩
    ·rcases List.mem_cons.mp hy with rfl | hy
     ·refine ⟨by simp,hq,fun z hz he => ?_⟩
      rcases List.mem_cons.mp hz with rfl | hz
      ·exact Nat.le_refl _
      ·have := hs z hz; unfold ltK at this; omega
     ·obtain ⟨a,b,c⟩ := (i3 y).mp hy
      have := hkx y a
      refine ⟨by simp [a],by omega,fun z hz he => ?_⟩
      rcases List.mem_cons.mp hz with rfl | hz
      ·exact absurd he.symm b
      ·exact c z hz he
    ·rcases List.mem_cons.mp a with rfl | a
     ·simp
     ·refine List.mem_cons.mpr (.inr ((i3 y).mpr ⟨a,fun he => ?_,fun z hz he => c z (by simp [hz]) he⟩))
      have h4 := c s (by simp) he.symm
      have h5 := hs y a
      unfold ltK at h5; omega
def cmpA (key : Nat → Int) : List Nat → List Nat
 | [] => []
 | x :: r => x :: cmpL key x r
theorem cmpA_spec {key : Nat → Int} {L : List Nat} (h : L.Pairwise (ltK key)) : (cmpA key L).Pairwise (fun i j => key i < key j) ∧ ∀ y,y ∈ cmpA key L ↔ y ∈ L ∧ ∀ z ∈ L,key z = key y → y ≤ z := by
 cases L with
 | nil => exact ⟨List.Pairwise.nil,by simp [cmpA]⟩
 | cons x r =>
  obtain ⟨i1,i2,i3⟩ := cmpL_spec h
  obtain ⟨hx,h2⟩ := List.pairwise_cons.mp h
  unfold cmpA
  refine ⟨List.pairwise_cons.mpr ⟨i2,i1⟩,fun y => ⟨fun hy => ?_,fun ⟨a,c⟩ => ?_⟩⟩
  ·rcases List.mem_cons.mp hy with rfl | hy
   ·refine ⟨by simp,fun z hz he => ?_⟩
    rcases List.mem_cons.mp hz with rfl | hz
    ·exact Nat.le_refl _
    ·have := hx z hz; unfold ltK at this; omega
   ·obtain ⟨a,b,c⟩ := (i3 y).mp hy
    refine ⟨by simp [a],fun z hz he => ?_⟩
    rcases List.mem_cons.mp hz with rfl | hz
    ·exact absurd he.symm b
    ·exact c z hz he
  ·rcases List.mem_cons.mp a with rfl | a
   ·simp
   ·refine List.mem_cons.mpr (.inr ((i3 y).mpr ⟨a,fun he => ?_,fun z hz he => c z (by simp [hz]) he⟩))
    have h4 := c x (by simp) he.symm
    have h5 := hx y a
    unfold ltK at h5; omega
structure Firsts (key : Nat → Int) (n : Nat) (O : List Nat) : Prop where
 asc : O.Pairwise (fun i j => key i < key j)
 mem : ∀ y,y ∈ O ↔ y < n ∧ ∀ z,z < y → key z ≠ key y
theorem Firsts.uniq {key : Nat → Int} {n : Nat} {O M : List Nat} (h : Firsts key n O) (h' : Firsts key n M) : O = M :=
 st_uniq (key := key) (h.asc.imp fun q => .inl q) (h'.asc.imp fun q => .inl q) fun x => by rw [h.mem,h'.mem]
theorem firsts_cmpA {key : Nat → Int} {n : Nat} : Firsts key n (cmpA key (Yax key (List.range n))) := by
 obtain ⟨h1,h2⟩ := cmpA_spec (YaU (key := key) (List.nodup_range (n := n))).1
 refine ⟨h1,fun y => ?_⟩
 rw [h2 y]
 simp only [srtK_mem,List.mem_range]
 exact ⟨fun ⟨a,b⟩ => ⟨a,fun z hz he => by have := b z (by omega) he; omega⟩,fun ⟨a,b⟩ => ⟨a,fun z hz he => Nat.le_of_not_lt fun q => b z q he⟩⟩
theorem cmpL_len {key : Nat → Int} : ∀ {r : List Nat} {x : Nat},(cmpL key x r).length ≤ r.length
 | [],_ => Nat.le_refl _
 | s :: r,x => by
  unfold cmpL
  have := cmpL_len (key := key) (r := r) (x := s)
  cases key s == key x <;> simp only [cond_true,cond_false,List.length_cons] <;> omega
theorem firsts_len {key : Nat → Int} {n : Nat} {O : List Nat} (h : Firsts key n O) : O.length ≤ n := by
 rw [h.uniq firsts_cmpA]
 have : (Yax key (List.range n)).length = n := by rw [Yau,List.length_range]
 cases hL : Yax key (List.range n) with
 | nil => rw [hL] at this; simp at this; simp [cmpA]
 | cons x r =>
  rw [hL] at this
  have h2 := cmpL_len (key := key) (r := r) (x := x)
  simp only [cmpA,List.length_cons] at this ⊢
  omega
theorem Yaz.f_of {β : Type} {k a0 z0} (h : Yaz.t k a0 = some z0) (K : Bool → Option β) : Yaz.f k a0 K = K z0 := by unfold Yaz.f; rw [h]; rfl
def RI8 (B : Nat) (r : List D) : Prop := ∃ (c0 : Int),r = [.int .u8 c0] ∧ (Lit.int .u8 c0).wf = true ∧ True
theorem RI8.open {B : Nat} {r : List D} (h : RI8 B r) : ∃ (c0 : Int),r = [.int .u8 c0] ∧ (Lit.int .u8 c0).wf = true ∧ True := h
theorem RI8.mono {B B' : Nat} (hb : B ≤ B') {r : List D} (h : RI8 B r) : RI8 B' r := by
 obtain ⟨c0,rfl,k0,_⟩ := h
 exact ⟨_,rfl,k0,trivial⟩
theorem RI8.wide {xs : LD} (h : ZB RI8 lim xs) : ZB RI8 2097152 xs := ⟨Nat.le_trans h.1 (by decide),fun r hr => (h.2 r hr).mono (by decide)⟩
theorem RI8.len {B : Nat} {r : List D} (h : RI8 B r) : r.length = 1 := by
 obtain ⟨c0,rfl,_⟩ := h.open
 rfl
theorem RI8.flat {B : Nat} {xs : LD} (h : ∀ r ∈ xs,RI8 B r) : Zcg 1 xs := fun r hr => by
 obtain ⟨c0,rfl,_⟩ := (h r hr).open
 exact ⟨rfl,by simp [Zag]⟩
theorem RI8.wt {B : Nat} {xs : LD} (h : ∀ r ∈ xs,RI8 B r) : Zu xs = 1 * xs.length := wt_flat (R := RI8 B) (fun r h => by obtain ⟨c0,rfl,_⟩ := h; rfl) xs h
theorem RI8.deep {B : Nat} {xs : LD} (h : ∀ r ∈ xs,RI8 B r) : Zc xs = xs.map (·.map C.d) := deep_flat (R := RI8 B) (fun r h => by obtain ⟨c0,rfl,_⟩ := h; rfl) xs h
theorem RI8.gets {B : Nat} {xs : LD} (h : ∀ r ∈ xs,RI8 B r) {v : Int} (h0 : 0 ≤ v) (h1 : v < xs.length) : gR xs v = [.int .u8 (gI xs v 0)] ∧ (Lit.int .u8 (gI xs v 0)).wf = true ∧ True := by
 obtain ⟨c0,e,k0,_⟩ := (h (gR xs v) (gR_mem h0 h1)).open
 unfold gI
 rw [e]
 exact ⟨rfl,k0,trivial⟩
theorem RI8.rows {B : Nat} {xs : LD} (h : ∀ r ∈ xs,RI8 B r) {v : Int} (h0 : 0 ≤ v) (h1 : v < xs.length) {β : Type} (F : List D → Option β) : atRow xs v F = F [.int .u8 (gI xs v 0)] := by
 rw [← (RI8.gets h h0 h1).1]
 exact Zck h0 h1 F
theorem RI8.get {B : Nat} {xs : LD} (h : ZB RI8 B xs) {v : Int} (h0 : 0 ≤ v) (h1 : v < xs.length) : gR xs v = [.int .u8 (gI xs v 0)] ∧ (Lit.int .u8 (gI xs v 0)).wf = true ∧ True := RI8.gets h.2 h0 h1
theorem RI8.row {B : Nat} {xs : LD} (h : ZB RI8 B xs) {v : Int} (h0 : 0 ≤ v) (h1 : v < xs.length) {β : Type} (F : List D → Option β) : atRow xs v F = F [.int .u8 (gI xs v 0)] := RI8.rows h.2 h0 h1 F
theorem Y2.f_of {β : Type} {k a0 z0 z1 z2} (h : Y2.t k a0 = some (z0,z1,z2)) (K : LD → Int → Int → Option β) : Y2.f k a0 K = K z0 z1 z2 := by unfold Y2.f; rw [h]; rfl
theorem Yaf.f_of {β : Type} {k aA aB aC z0 z1 z2 z3} (h : Yaf.t k aA aB aC = some (z0,z1,z2,z3)) (K : Int → LD → Int → Int → Option β) : Yaf.f k aA aB aC K = K z0 z1 z2 z3 := by unfold Yaf.f; rw [h]; rfl
theorem Yp.f_of {β : Type} {k aA aB aC a1 z0 z1 z2 z3} (h : Yp.t k aA aB aC a1 = some (z0,z1,z2,z3)) (K : Int → LD → Int → Int → Option β) : Yp.f k aA aB aC a1 K = K z0 z1 z2 z3 := by unfold Yp.f; rw [h]; rfl
structure Cur (b : LD) (i : Int) : Prop where
 rows : ZB RI8 lim b
 ge : 0 ≤ i
 le : i ≤ 1048576
theorem and255 (x : Int) : 0 ≤ IntKind.wrap .i64 ((BitVec.ofInt (IntKind.bits .i64) x &&& BitVec.ofInt (IntKind.bits .i64) 255).toNat) ∧ IntKind.wrap .i64 ((BitVec.ofInt (IntKind.bits .i64) x &&& BitVec.ofInt (IntKind.bits .i64) 255).toNat) ≤ 255 := by
 have h : (BitVec.ofInt (IntKind.bits .i64) x &&& BitVec.ofInt (IntKind.bits .i64) 255).toNat ≤ 255 := by
  rw [BitVec.toNat_and]
  exact Nat.le_trans Nat.and_le_right (by decide)
 rw [Z9 (by omega) (by omega)]
 omega
set_option maxRecDepth 100000 in
theorem byte_ex {b : LD} {i h : Int} {k : Nat} (c : Cur b i) : ∃ x i' h',0 ≤ x ∧ x ≤ 255 ∧ Cur b i' ∧ Yaf.t k b i h = some (x,b,i',h') := by
 have hl := c.rows.1
 have hlim : lim = 1048576 := rfl
 have h0 := c.ge
 have h1 := c.le
 unfold Yaf.t Yaf.g; simp only [atR,rdQ,Q.ask]
 simp only [ZH (show (0 : Int) ≤ 33 by decide),ZH (show (0 : Int) ≤ 47 by decide)]
 by_cases hc : i < (b.length : Int)
 ·simp only [ZY hc,cond_true,atR,rdQ,Q.ask]
  rw [RI8.row c.rows h0 hc]
  simp only [Z4,Z5,Zan]
  exact ⟨_,_,_,(and255 _).1,(and255 _).2,⟨c.rows,by rw [Z9 (by omega) (by omega)]; omega,by rw [Z9 (by omega) (by omega)]; omega⟩,rfl⟩
 ·simp only [ZZ hc,cond_false]
  exact ⟨_,_,_,(and255 _).1,(and255 _).2,c,rfl⟩
theorem tmod_in {x n : Int} (h0 : 0 ≤ x) (hn : 0 < n) : 0 ≤ Int.tmod x n ∧ Int.tmod x n < n := ⟨Int.tmod_nonneg _ h0,Int.tmod_lt_of_pos _ hn⟩
theorem YaD {b : LD} {i h n : Int} {k : Nat} (c : Cur b i) : ∃ x i' h',0 ≤ x ∧ (0 < n → x < n) ∧ (n ≤ 0 → x = 0) ∧ Cur b i' ∧ Yp.t k b i h n = some (x,b,i',h') := by
 unfold Yp.t Yp.g
 by_cases hn : n ≤ 0
 ·simp only [ZY hn,cond_true]
  exact ⟨_,_,_,Int.le_refl 0,fun _ => by omega,fun _ => rfl,c,rfl⟩
 ·simp only [ZZ hn,cond_false]
  have hn0 : 0 < n := by omega
  by_cases h2 : n ≤ 256
  ·simp only [ZY h2,cond_true]
   obtain ⟨x,i',h',x0,x1,c',e⟩ := byte_ex (k := k) (h := h) c
   rw [Yaf.f_of e,ZH (by omega)]
   exact ⟨_,_,_,(tmod_in x0 hn0).1,fun _ => (tmod_in x0 hn0).2,fun _ => by omega,c',rfl⟩
  ·simp only [ZZ h2,cond_false]
   obtain ⟨x,i1,h1,x0,x1,c1,e1⟩ := byte_ex (k := k) (h := h) c
   obtain ⟨y,i2,h2,y0,y1,c2,e2⟩ := byte_ex (k := k) (h := h1) c1
   obtain ⟨z,i3,h3,z0,z1,c3,e3⟩ := byte_ex (k := k) (h := h2) c2
   rw [Yaf.f_of e1,Yaf.f_of e2,Yaf.f_of e3,ZH (by omega)]
   have hw : 0 ≤ IntKind.wrap .i64 ((IntKind.wrap .i64 ((IntKind.wrap .i64 (x * 65536)) + (IntKind.wrap .i64 (y * 256)))) + z) := by
    rw [Z9 (x := x * 65536) (by omega) (by omega),Z9 (x := y * 256) (by omega) (by omega),Z9 (x := x * 65536 + y * 256) (by omega) (by omega),Z9 (by omega) (by omega)]
    omega
   exact ⟨_,_,_,(tmod_in hw hn0).1,fun _ => (tmod_in hw hn0).2,fun _ => by omega,c3,rfl⟩
set_option maxRecDepth 100000 in
theorem new_ex {b : LD} {k : Nat} (g : ZB RI8 lim b) (hk : Fuel k) : ∃ h',Y2.t k b = some (b,0,h') := by
 have hl := g.1
 have hlim : lim = 1048576 := rfl
 have hb : big = 2 ^ 64 := rfl
 have key : ∀ n : Nat,∀ (v : Int) (j : Int),0 ≤ j → j ≤ b.length → (b.length : Int) - j ≤ n → ∀ k',n < k' → ∃ h',ZA (Y2.l0 k b (fun z0 z1 z2 => some (z0,z1,z2))) k' (v,j) = some (b,0,h') := by
  intro n
  induction n with
  | zero =>
   intro v j j0 j1 hn k' hk'
   rw [iter_step (by omega)]
   simp only [Y2.l0,atR,rdQ,Q.ask,ZZ (show ¬ j < (b.length : Int) by omega),cond_false]
   exact ⟨_,rfl⟩
  | succ n ih =>
   intro v j j0 j1 hn k' hk'
   rw [iter_step (by omega)]
   simp only [Y2.l0,atR,rdQ,Q.ask,atR,rdQ,Q.ask]
   by_cases h1 : j < (b.length : Int)
   ·by_cases h2 : j < 4000
    ·simp only [ZY h1,ZY h2,cond_true]
     rw [RI8.row g j0 h1]
     simp only [Z4,Z5,Zan]
     rw [Z9 (x := j + 1) (by omega) (by omega)]
     exact ih _ _ (by omega) (by omega) (by omega) _ (by omega)
    ·simp only [ZY h1,ZZ h2,cond_true,cond_false]
     exact ⟨_,rfl⟩
   ·simp only [ZZ h1,cond_false]
    exact ⟨_,rfl⟩
 unfold Y2.t Y2.g
 exact key b.length _ 0 (by omega) (by omega) (by omega) k (by unfold Fuel at hk; omega)
theorem Cur.new {b : LD} (g : ZB RI8 lim b) : Cur b 0 := ⟨g,by omega,by omega⟩
theorem YY.f_of {β : Type} {k aA aB aC a1 z0 z1 z2 z3} (h : YY.t k aA aB aC a1 = some (z0,z1,z2,z3)) (K : BA → LD → Int → Int → Option β) : YY.f k aA aB aC a1 K = K z0 z1 z2 z3 := by unfold YY.f; rw [h]; rfl
theorem Yam.f_of {β : Type} {k aA aB aC z0 z1 z2 z3} (h : Yam.t k aA aB aC = some (z0,z1,z2,z3)) (K : BA → LD → Int → Int → Option β) : Yam.f k aA aB aC K = K z0 z1 z2 z3 := by unfold Yam.f; rw [h]; rfl
theorem YP.f_of {β : Type} {k aA aB aC a1 z0 z1 z2 z3} (h : YP.t k aA aB aC a1 = some (z0,z1,z2,z3)) (K : Int → LD → Int → Int → Option β) : YP.f k aA aB aC a1 K = K z0 z1 z2 z3 := by unfold YP.f; rw [h]; rfl
set_option maxRecDepth 100000 in
theorem int_ex {b : LD} {i h : Int} {k : Nat} (c : Cur b i) (l : List Int) (hl : 0 < l.length) : ∃ x i' h',x ∈ l ∧ Cur b i' ∧ YP.t k b i h (l.map fun x => [.int .i64 x]) = some (x,b,i',h') := by
 obtain ⟨x,i',h',x0,x1,-,c',e⟩ := YaD (k := k) (h := h) (n := (l.length : Int)) c
 have x1 := x1 (by omega)
 unfold YP.t YP.g; simp only [atR,rdQ,Q.ask]
 rw [List.length_map,Yp.f_of e,Zck x0 (by rw [List.length_map]; exact x1)]
 have e2 : gR (l.map fun x => [D.int .i64 x]) x = [.int .i64 (l[x.toNat]'(by omega))] := by
  unfold gR
  rw [List.getD_eq_getElem?_getD,List.getElem?_map,List.getElem?_eq_getElem (by omega)]
  rfl
 rw [e2]
 simp only [Z4,Z5,Zan]
 exact ⟨_,_,_,List.getElem_mem _,c',rfl⟩
theorem YF.f_of {β : Type} {k a0 a1 a2 z0} (h : YF.t k a0 a1 a2 = some z0) (K : Bool → Option β) : YF.f k a0 a1 a2 K = K z0 := by unfold YF.f; rw [h]; rfl
theorem YF.tm {ι α : Type} {ok : ι → Prop} {ψ : α → Prop} {p : ι → Nat} {B : Nat} (hp : ∀ i,ok i → B ≤ p i) {a0 a1 a2 φ} (h : Tm (fun k => B ≤ k) (fun k => YF.t k a0 a1 a2) φ) {G : ι → Bool → Option α} (hG : ∀ z0,φ z0 → Tm ok (fun i => G i z0) ψ) : Tm ok (fun i => YF.f (p i) a0 a1 a2 (G i)) ψ := bd1_tm (t := fun k => YF.t k a0 a1 a2) hp h hG
theorem YF.T {a0 a1 a2 : Int} : Tm Fuel (fun k => YF.t k a0 a1 a2) (fun r => r = true → a1 ≤ a0 ∧ a0 ≤ a2) := by
 unfold YF.t YF.g
 have hm := maxLen_eq
 have hlim : lim = 1048576 := rfl
 refine Tm.ite (fun h1 => ?_) (fun h1 => ?_)
 ·try simp only [bz0,bz1,bz2,bz3,bz4,bz5,bz6,bz7,bz8,bz9,bza] at h1
  exact Tm.ret (by first | (intro h; simp at h; omega) | (intro h; cases h))
 ·try simp only [bz0,bz1,bz2,bz3,bz4,bz5,bz6,bz7,bz8,bz9,bza] at h1
  exact Tm.ret (by first | (intro h; simp at h; omega) | (intro h; cases h))
theorem l1In_f {β : Type} {k : Nat} {a b c : Int} (K : Bool → Option β) : YF.f k a b c K = K (decide (b ≤ a) && decide (a ≤ c)) := by
 refine YF.f_of ?_ K
 unfold YF.t YF.g
 by_cases h : b ≤ a <;> simp [h]
def inB (a b c : Int) : Bool := decide (b ≤ a) && decide (a ≤ c)
theorem YaV {β : Type} {k : Nat} {a b c : Int} (K : Bool → Option β) : YF.f k a b c K = K (inB a b c) := l1In_f K
theorem Yj.f_of {β : Type} {k a0 z0} (h : Yj.t k a0 = some z0) (K : Bool → Option β) : Yj.f k a0 K = K z0 := by unfold Yj.f; rw [h]; rfl
theorem Yj.tm {ι α : Type} {ok : ι → Prop} {ψ : α → Prop} {p : ι → Nat} {B : Nat} (hp : ∀ i,ok i → B ≤ p i) {a0 φ} (h : Tm (fun k => B ≤ k) (fun k => Yj.t k a0) φ) {G : ι → Bool → Option α} (hG : ∀ z0,φ z0 → Tm ok (fun i => G i z0) ψ) : Tm ok (fun i => Yj.f (p i) a0 (G i)) ψ := bd1_tm (t := fun k => Yj.t k a0) hp h hG
theorem Yj.T {a0 : BA} (ga0 : a0.size ≤ lim) : Tm Fuel (fun k => Yj.t k a0) (fun _ => True) := by
 unfold Yj.t Yj.g
 have hm := maxLen_eq
 have hlim : lim = 1048576 := rfl
 refine Tm.loop (okk := Fuel) (p := fun k => k) (fun i hi => hi) (b := fun k => Yj.l0 k a0 (fun z0 => some z0)) (fun i => (((a0.size : Int)) - i).toNat) (fun i => 0 ≤ i ∧ i ≤ (a0.size : Int)) ?_ ?_ ?_
 ·rintro i hI
  try simp only [] at hI ⊢
  have : big = 2 ^ 64 := rfl
  omega
 ·((try simp only []); omega)
 ·rintro i hI L hL
  try simp only [] at hI
  obtain ⟨i0,i1⟩ := hI
  simp only [Yj.l0]
  refine Tm.ite (fun h1 => ?_) (fun h1 => ?_)
  ·try simp only [bz0,bz1,bz2,bz3,bz4,bz5,bz6,bz7,bz8,bz9,bza] at h1
   refine Tm.atStr (by first | assumption | omega) (by first | assumption | omega) (fun b2 hb3 => ?_)
   try rw [Z9 (x := (b2.toNat : Int)) (by omega) (by omega)]
   refine YF.tm (fun i hi => hi.1) (YF.T) (fun y5 hy4 => ?_)
   refine Tm.ite (fun h6 => ?_) (fun h6 => ?_)
   ·try simp only [bz0,bz1,bz2,bz3,bz4,bz5,bz6,bz7,bz8,bz9,bza] at h6
    refine Tm.atStr (by first | assumption | omega) (by first | assumption | omega) (fun b7 hb8 => ?_)
    try rw [Z9 (x := (b7.toNat : Int)) (by omega) (by omega)]
    refine YF.tm (fun i hi => hi.1) (YF.T) (fun y10 hy9 => ?_)
    refine Tm.ite (fun h11 => ?_) (fun h11 => ?_)
    ·try simp only [bz0,bz1,bz2,bz3,bz4,bz5,bz6,bz7,bz8,bz9,bza] at h11
     refine Tm.atStr (by first | assumption | omega) (by first | assumption | omega) (fun b12 hb13 => ?_)
     refine Tm.ite (fun h14 => ?_) (fun h14 => ?_)
     ·try simp only [bz0,bz1,bz2,bz3,bz4,bz5,bz6,bz7,bz8,bz9,bza] at h14
      exact Tm.ret (by trivial)
     ·try simp only [bz0,bz1,bz2,bz3,bz4,bz5,bz6,bz7,bz8,bz9,bza] at h14
      try rw [Z9 (x := i + 1) (by omega) (by omega)]
      exact hL _ (by (try simp only []); omega) (by (try simp only []); omega)
    ·try simp only [bz0,bz1,bz2,bz3,bz4,bz5,bz6,bz7,bz8,bz9,bza] at h11
     have z15 := hy9 h11
     try rw [Z9 (x := i + 1) (by omega) (by omega)]
     exact hL _ (by (try simp only []); omega) (by (try simp only []); omega)
   ·try simp only [bz0,bz1,bz2,bz3,bz4,bz5,bz6,bz7,bz8,bz9,bza] at h6
    have z16 := hy4 h6
    try rw [Z9 (x := i + 1) (by omega) (by omega)]
    exact hL _ (by (try simp only []); omega) (by (try simp only []); omega)
  ·try simp only [bz0,bz1,bz2,bz3,bz4,bz5,bz6,bz7,bz8,bz9,bza] at h1
   refine YF.tm (fun i hi => hi.1) (YF.T) (fun y18 hy17 => ?_)
   refine Tm.ite (fun h19 => ?_) (fun h19 => ?_)
   ·try simp only [bz0,bz1,bz2,bz3,bz4,bz5,bz6,bz7,bz8,bz9,bza] at h19
    have z20 := hy17 h19
    refine Tm.atStr (by first | assumption | omega) (by first | assumption | omega) (fun b21 hb22 => ?_)
    refine Tm.ite (fun h23 => ?_) (fun h23 => ?_)
    ·try simp only [bz0,bz1,bz2,bz3,bz4,bz5,bz6,bz7,bz8,bz9,bza] at h23
     try rw [Z9 (x := (a0.size : Int) - 1) (by omega) (by omega)]
     refine Tm.atStr (by first | assumption | omega) (by first | assumption | omega) (fun b24 hb25 => ?_)
     exact Tm.ret (by trivial)
    ·try simp only [bz0,bz1,bz2,bz3,bz4,bz5,bz6,bz7,bz8,bz9,bza] at h23
     exact Tm.ret (by trivial)
   ·try simp only [bz0,bz1,bz2,bz3,bz4,bz5,bz6,bz7,bz8,bz9,bza] at h19
    exact Tm.ret (by trivial)
noncomputable def Yj.v (a0 : BA) : Bool := (Yj.t big a0).getD default
theorem Yj.tv {a0 : BA} (ga0 : a0.size ≤ lim) {k : Nat} (hk : Fuel k) : Yj.t k a0 = some (Yj.v a0) := (Yj.T ga0).val hk
theorem Yj.fv {a0 : BA} (ga0 : a0.size ≤ lim) {k : Nat} (hk : Fuel k) {β : Type} (K : Bool → Option β) : Yj.f k a0 K = K (Yj.v a0) := Yj.f_of (Yj.tv ga0 hk) K
noncomputable def namesB (xs : LD) : Bool := (List.range xs.length).all fun i => Yj.v (gS xs (i : Int) 0) && (!decide ((i : Int) > 0) || strLt (gS xs ((i : Int) - 1) 0) (gS xs (i : Int) 0))
theorem Y7.f_of {β : Type} {k aA aB aC a1 z0 z1 z2 z3} (h : Y7.t k aA aB aC a1 = some (z0,z1,z2,z3)) (K : Bool → LD → Int → Int → Option β) : Y7.f k aA aB aC a1 K = K z0 z1 z2 z3 := by unfold Y7.f; rw [h]; rfl
theorem once_ex {b : LD} {i h n : Int} {k : Nat} (c : Cur b i) : ∃ x i' h',Cur b i' ∧ Y7.t k b i h n = some (x,b,i',h') := by
 obtain ⟨x,i',h',-,-,-,c',e⟩ := YaD (k := k) (h := h) (n := n) c
 unfold Y7.t Y7.g
 rw [Yp.f_of e]
 exact ⟨_,_,_,c',rfl⟩
theorem Yae.f_of {β : Type} {k aA aB aC z0 z1 z2 z3} (h : Yae.t k aA aB aC = some (z0,z1,z2,z3)) (K : BA → LD → Int → Int → Option β) : Yae.f k aA aB aC K = K z0 z1 z2 z3 := by unfold Yae.f; rw [h]; rfl
theorem Yz.f_of {β : Type} {k a0 a1 z0 z1} (h : Yz.t k a0 a1 = some (z0,z1)) (K : BA → Bool → Option β) : Yz.f k a0 a1 K = K z0 z1 := by unfold Yz.f; rw [h]; rfl
def RSS (B : Nat) (r : List D) : Prop := ∃ (c0 : BA) (c1 : BA),r = [.str c0,.str c1] ∧ c0.size ≤ B ∧ c1.size ≤ B ∧ True
theorem RSS.open {B : Nat} {r : List D} (h : RSS B r) : ∃ (c0 : BA) (c1 : BA),r = [.str c0,.str c1] ∧ c0.size ≤ B ∧ c1.size ≤ B ∧ True := h
theorem RSS.mono {B B' : Nat} (hb : B ≤ B') {r : List D} (h : RSS B r) : RSS B' r := by
 obtain ⟨c0,c1,rfl,k0,k1,_⟩ := h
 exact ⟨_,_,rfl,(Nat.le_trans k0 hb),(Nat.le_trans k1 hb),trivial⟩
theorem RSS.wide {xs : LD} (h : ZB RSS lim xs) : ZB RSS 2097152 xs := ⟨Nat.le_trans h.1 (by decide),fun r hr => (h.2 r hr).mono (by decide)⟩
theorem RSS.len {B : Nat} {r : List D} (h : RSS B r) : r.length = 2 := by
 obtain ⟨c0,c1,rfl,_⟩ := h.open
 rfl
theorem RSS.flat {B : Nat} {xs : LD} (h : ∀ r ∈ xs,RSS B r) : Zcg 2 xs := fun r hr => by
 obtain ⟨c0,c1,rfl,_⟩ := (h r hr).open
 exact ⟨rfl,by simp [Zag]⟩
theorem RSS.wt {B : Nat} {xs : LD} (h : ∀ r ∈ xs,RSS B r) : Zu xs = 2 * xs.length := wt_flat (R := RSS B) (fun r h => by obtain ⟨c0,c1,rfl,_⟩ := h; rfl) xs h
theorem RSS.deep {B : Nat} {xs : LD} (h : ∀ r ∈ xs,RSS B r) : Zc xs = xs.map (·.map C.d) := deep_flat (R := RSS B) (fun r h => by obtain ⟨c0,c1,rfl,_⟩ := h; rfl) xs h
theorem RSS.gets {B : Nat} {xs : LD} (h : ∀ r ∈ xs,RSS B r) {v : Int} (h0 : 0 ≤ v) (h1 : v < xs.length) : gR xs v = [.str (gS xs v 0),.str (gS xs v 1)] ∧ (gS xs v 0).size ≤ B ∧ (gS xs v 1).size ≤ B ∧ True := by
 obtain ⟨c0,c1,e,k0,k1,_⟩ := (h (gR xs v) (gR_mem h0 h1)).open
 unfold gS
 rw [e]
 exact ⟨rfl,k0,k1,trivial⟩
theorem RSS.rows {B : Nat} {xs : LD} (h : ∀ r ∈ xs,RSS B r) {v : Int} (h0 : 0 ≤ v) (h1 : v < xs.length) {β : Type} (F : List D → Option β) : atRow xs v F = F [.str (gS xs v 0),.str (gS xs v 1)] := by
 rw [← (RSS.gets h h0 h1).1]
 exact Zck h0 h1 F
theorem RSS.get {B : Nat} {xs : LD} (h : ZB RSS B xs) {v : Int} (h0 : 0 ≤ v) (h1 : v < xs.length) : gR xs v = [.str (gS xs v 0),.str (gS xs v 1)] ∧ (gS xs v 0).size ≤ B ∧ (gS xs v 1).size ≤ B ∧ True := RSS.gets h.2 h0 h1
theorem RSS.row {B : Nat} {xs : LD} (h : ZB RSS B xs) {v : Int} (h0 : 0 ≤ v) (h1 : v < xs.length) {β : Type} (F : List D → Option β) : atRow xs v F = F [.str (gS xs v 0),.str (gS xs v 1)] := RSS.rows h.2 h0 h1 F
set_option maxRecDepth 100000 in
theorem Yz.T {a0 : LD} {a1 : BA} (ga0 : ZB RSS lim a0) (ga1 : a1.size ≤ lim) : Tm Fuel (fun k => Yz.t k a0 a1) (fun z => z.1.size ≤ lim) := by
 unfold Yz.t Yz.g
 have hm := maxLen_eq
 have hlim : lim = 1048576 := rfl
 have la0 := ga0.1
 refine Tm.loop (okk := Fuel) (p := fun k => k) (fun i hi => hi) (b := fun k => Yz.l0 k a0 a1 (fun z0 z1 => some (z0,z1))) (fun i => (((a0.length : Int)) - i).toNat) (fun i => 0 ≤ i ∧ i ≤ (a0.length : Int)) ?_ ?_ ?_
 ·rintro i hI
  try simp only [] at hI ⊢
  have : big = 2 ^ 64 := rfl
  omega
 ·((try simp only []); omega)
 ·rintro i hI L hL
  try simp only [] at hI
  obtain ⟨i0,i1⟩ := hI
  simp only [Yz.l0,atR,rdQ,Q.ask]
  refine Tm.ite (fun h1 => ?_) (fun h1 => ?_)
  ·try simp only [bz0,bz1,bz2,bz3,bz4,bz5,bz6,bz7,bz8,bz9,bza] at h1
   refine Tm.atRow (by first | assumption | omega) (by first | assumption | omega) (fun x2 hx3 hm4 => ?_)
   obtain ⟨c5,c6,rfl,g7,g8,_⟩ := (ga0.2 x2 hm4).open
   refine Tm.uncons ?_
   refine Tm.dStr ?_
   refine Tm.uncons ?_
   refine Tm.dStr ?_
   refine Tm.atEnd ?_
   refine Tm.ite (fun h9 => ?_) (fun h9 => ?_)
   ·try simp only [bz0,bz1,bz2,bz3,bz4,bz5,bz6,bz7,bz8,bz9,bza] at h9
    refine Tm.atRow (by first | assumption | omega) (by first | assumption | omega) (fun x10 hx11 hm12 => ?_)
    rw [hx3] at hx11
    injection hx11 with hx11
    subst hx11
    refine Tm.uncons ?_
    refine Tm.dStr ?_
    refine Tm.uncons ?_
    refine Tm.dStr ?_
    refine Tm.atEnd ?_
    exact Tm.ret (by first | assumption | (simp only [lim]; decide))
   ·try simp only [bz0,bz1,bz2,bz3,bz4,bz5,bz6,bz7,bz8,bz9,bza] at h9
    try rw [Z9 (x := i + 1) (by omega) (by omega)]
    exact hL _ (by (try simp only []); omega) (by (try simp only []); omega)
  ·try simp only [bz0,bz1,bz2,bz3,bz4,bz5,bz6,bz7,bz8,bz9,bza] at h1
   exact Tm.ret (by first | assumption | (simp only [lim]; decide))
noncomputable def Yz.v (a0 : LD) (a1 : BA) : BA × Bool := (Yz.t big a0 a1).getD default
theorem Yz.tv {a0 : LD} {a1 : BA} (ga0 : ZB RSS lim a0) (ga1 : a1.size ≤ lim) {k : Nat} (hk : Fuel k) : Yz.t k a0 a1 = some (Yz.v a0 a1) := (Yz.T ga0 ga1).val hk
theorem Yz.fv {a0 : LD} {a1 : BA} (ga0 : ZB RSS lim a0) (ga1 : a1.size ≤ lim) {k : Nat} (hk : Fuel k) {β : Type} (K : BA → Bool → Option β) : Yz.f k a0 a1 K = K ((Yz.v a0 a1).1) ((Yz.v a0 a1).2) := Yz.f_of (Yz.tv ga0 ga1 hk) K
theorem YA.f_of {β : Type} {k a0 z0} (h : YA.t k a0 = some z0) (K : Bool → Option β) : YA.f k a0 K = K z0 := by unfold YA.f; rw [h]; rfl
set_option maxRecDepth 100000 in
theorem YA.T {a0 : LD} (ga0 : ZB RSS lim a0) : Tm Fuel (fun k => YA.t k a0) (fun _ => True) := by
 unfold YA.t YA.g
 have hm := maxLen_eq
 have hlim : lim = 1048576 := rfl
 have la0 := ga0.1
 refine Tm.loop (okk := Fuel) (p := fun k => k) (fun i hi => hi) (b := fun k => YA.l0 k a0 (fun z0 => some z0)) (fun i => (((a0.length : Int)) - i).toNat) (fun i => 0 ≤ i ∧ i ≤ (a0.length : Int)) ?_ ?_ ?_
 ·rintro i hI
  try simp only [] at hI ⊢
  have : big = 2 ^ 64 := rfl
  omega
 ·((try simp only []); omega)
 ·rintro i hI L hL
  try simp only [] at hI
  obtain ⟨i0,i1⟩ := hI
  simp only [YA.l0,atR,rdQ,Q.ask]
  refine Tm.ite (fun h1 => ?_) (fun h1 => ?_)
  ·try simp only [bz0,bz1,bz2,bz3,bz4,bz5,bz6,bz7,bz8,bz9,bza] at h1
   refine Tm.atRow (by first | assumption | omega) (by first | assumption | omega) (fun x2 hx3 hm4 => ?_)
   obtain ⟨c5,c6,rfl,g7,g8,_⟩ := (ga0.2 x2 hm4).open
   refine Tm.uncons ?_
   refine Tm.dStr ?_
   refine Tm.uncons ?_
   refine Tm.dStr ?_
   refine Tm.atEnd ?_
   refine Yj.tm (fun i hi => hi.1) (Yj.T (by first | assumption | omega)) (fun y10 hy9 => ?_)
   refine Tm.ite (fun h11 => ?_) (fun h11 => ?_)
   ·try simp only [bz0,bz1,bz2,bz3,bz4,bz5,bz6,bz7,bz8,bz9,bza] at h11
    exact Tm.ret (by trivial)
   ·try simp only [bz0,bz1,bz2,bz3,bz4,bz5,bz6,bz7,bz8,bz9,bza] at h11
    refine Tm.atRow (by first | assumption | omega) (by first | assumption | omega) (fun x12 hx13 hm14 => ?_)
    rw [hx3] at hx13
    injection hx13 with hx13
    subst hx13
    refine Tm.uncons ?_
    refine Tm.dStr ?_
    refine Tm.uncons ?_
    refine Tm.dStr ?_
    refine Tm.atEnd ?_
    refine Yj.tm (fun i hi => hi.1) (Yj.T (by first | assumption | omega)) (fun y18 hy17 => ?_)
    refine Tm.ite (fun h19 => ?_) (fun h19 => ?_)
    ·try simp only [bz0,bz1,bz2,bz3,bz4,bz5,bz6,bz7,bz8,bz9,bza] at h19
     exact Tm.ret (by trivial)
    ·try simp only [bz0,bz1,bz2,bz3,bz4,bz5,bz6,bz7,bz8,bz9,bza] at h19
     refine Tm.ite (fun h20 => ?_) (fun h20 => ?_)
     ·try simp only [bz0,bz1,bz2,bz3,bz4,bz5,bz6,bz7,bz8,bz9,bza] at h20
      try rw [Z9 (x := i - 1) (by omega) (by omega)]
      refine Tm.atRow (by first | assumption | omega) (by first | assumption | omega) (fun x21 hx22 hm23 => ?_)
      obtain ⟨c24,c25,rfl,g26,g27,_⟩ := (ga0.2 x21 hm23).open
      refine Tm.uncons ?_
      refine Tm.dStr ?_
      refine Tm.uncons ?_
      refine Tm.dStr ?_
      refine Tm.atEnd ?_
      refine Tm.atRow (by first | assumption | omega) (by first | assumption | omega) (fun x28 hx29 hm30 => ?_)
      rw [hx3] at hx29
      injection hx29 with hx29
      subst hx29
      refine Tm.uncons ?_
      refine Tm.dStr ?_
      refine Tm.uncons ?_
      refine Tm.dStr ?_
      refine Tm.atEnd ?_
      refine Tm.ite (fun h33 => ?_) (fun h33 => ?_)
      ·try simp only [bz0,bz1,bz2,bz3,bz4,bz5,bz6,bz7,bz8,bz9,bza] at h33
       exact Tm.ret (by trivial)
      ·try simp only [bz0,bz1,bz2,bz3,bz4,bz5,bz6,bz7,bz8,bz9,bza] at h33
       try rw [Z9 (x := i + 1) (by omega) (by omega)]
       exact hL _ (by (try simp only []); omega) (by (try simp only []); omega)
     ·try simp only [bz0,bz1,bz2,bz3,bz4,bz5,bz6,bz7,bz8,bz9,bza] at h20
      try rw [Z9 (x := i + 1) (by omega) (by omega)]
      exact hL _ (by (try simp only []); omega) (by (try simp only []); omega)
  ·try simp only [bz0,bz1,bz2,bz3,bz4,bz5,bz6,bz7,bz8,bz9,bza] at h1
   exact Tm.ret (by trivial)
noncomputable def YA.v (a0 : LD) : Bool := (YA.t big a0).getD default
theorem YA.tv {a0 : LD} (ga0 : ZB RSS lim a0) {k : Nat} (hk : Fuel k) : YA.t k a0 = some (YA.v a0) := (YA.T ga0).val hk
theorem YA.fv {a0 : LD} (ga0 : ZB RSS lim a0) {k : Nat} (hk : Fuel k) {β : Type} (K : Bool → Option β) : YA.f k a0 K = K (YA.v a0) := YA.f_of (YA.tv ga0 hk) K
theorem Yad.f_of {β : Type} {k a0 z0} (h : Yad.t k a0 = some z0) (K : LC → Option β) : Yad.f k a0 K = K z0 := by unfold Yad.f; rw [h]; rfl
theorem Yx.f_of {β : Type} {k a0 a1 a2 z0 z1} (h : Yx.t k a0 a1 a2 = some (z0,z1)) (K : LC → Bool → Option β) : Yx.f k a0 a1 a2 K = K z0 z1 := by unfold Yx.f; rw [h]; rfl
theorem YO.f_of {β : Type} {k aA aB aC a1 z0 z1 z2 z3} (h : YO.t k aA aB aC a1 = some (z0,z1,z2,z3)) (K : LC → LD → Int → Int → Option β) : YO.f k aA aB aC a1 K = K z0 z1 z2 z3 := by unfold YO.f; rw [h]; rfl
theorem Yh.f_of {β : Type} {k : Nat} {aA : LD} {aB aC a1 z0 : Int} {z1 : BA} {z2 : Int} {z3 z4 : LC} {z5 : LD} {z6 z7 : Int} (h : Yh.t k aA aB aC a1 = some (z0,z1,z2,z3,z4,z5,z6,z7)) (K : Int → BA → Int → LC → LC → LD → Int → Int → Option β) : Yh.f k aA aB aC a1 K = K z0 z1 z2 z3 z4 z5 z6 z7 := by
 unfold Yh.f
 unfold Yh.w
 rw [h]
theorem YJ.f_of {β : Type} {k aA aB aC z0 z1 z2 z3} (h : YJ.t k aA aB aC = some (z0,z1,z2,z3)) (K : LC → LD → Int → Int → Option β) : YJ.f k aA aB aC K = K z0 z1 z2 z3 := by unfold YJ.f; rw [h]; rfl
theorem Yy.f_of {β : Type} {k aA aB aC aI aH z0 z1 z2 z3 z4} (h : Yy.t k aA aB aC aI aH = some (z0,z1,z2,z3,z4)) (K : Int → BA → Int → LC → LC → Option β) : Yy.f k aA aB aC aI aH K = K z0 z1 z2 z3 z4 := by unfold Yy.f Yy.w; rw [h]; rfl
theorem YG.f_of {β : Type} {k a0 z0} (h : YG.t k a0 = some z0) (K : LC → Option β) : YG.f k a0 K = K z0 := by unfold YG.f; rw [h]; rfl
def RS (B : Nat) (r : List D) : Prop := ∃ (c0 : BA),r = [.str c0] ∧ c0.size ≤ B ∧ True
theorem RS.open {B : Nat} {r : List D} (h : RS B r) : ∃ (c0 : BA),r = [.str c0] ∧ c0.size ≤ B ∧ True := h
theorem RS.mono {B B' : Nat} (hb : B ≤ B') {r : List D} (h : RS B r) : RS B' r := by
 obtain ⟨c0,rfl,k0,_⟩ := h
 exact ⟨_,rfl,(Nat.le_trans k0 hb),trivial⟩
theorem RS.wide {xs : LD} (h : ZB RS lim xs) : ZB RS 2097152 xs := ⟨Nat.le_trans h.1 (by decide),fun r hr => (h.2 r hr).mono (by decide)⟩
theorem RS.len {B : Nat} {r : List D} (h : RS B r) : r.length = 1 := by
 obtain ⟨c0,rfl,_⟩ := h.open
 rfl
theorem RS.flat {B : Nat} {xs : LD} (h : ∀ r ∈ xs,RS B r) : Zcg 1 xs := fun r hr => by
 obtain ⟨c0,rfl,_⟩ := (h r hr).open
 exact ⟨rfl,by simp [Zag]⟩
theorem RS.wt {B : Nat} {xs : LD} (h : ∀ r ∈ xs,RS B r) : Zu xs = 1 * xs.length := wt_flat (R := RS B) (fun r h => by obtain ⟨c0,rfl,_⟩ := h; rfl) xs h
theorem RS.deep {B : Nat} {xs : LD} (h : ∀ r ∈ xs,RS B r) : Zc xs = xs.map (·.map C.d) := deep_flat (R := RS B) (fun r h => by obtain ⟨c0,rfl,_⟩ := h; rfl) xs h
theorem RS.gets {B : Nat} {xs : LD} (h : ∀ r ∈ xs,RS B r) {v : Int} (h0 : 0 ≤ v) (h1 : v < xs.length) : gR xs v = [.str (gS xs v 0)] ∧ (gS xs v 0).size ≤ B ∧ True := by
 obtain ⟨c0,e,k0,_⟩ := (h (gR xs v) (gR_mem h0 h1)).open
 unfold gS
 rw [e]
 exact ⟨rfl,k0,trivial⟩
theorem RS.rows {B : Nat} {xs : LD} (h : ∀ r ∈ xs,RS B r) {v : Int} (h0 : 0 ≤ v) (h1 : v < xs.length) {β : Type} (F : List D → Option β) : atRow xs v F = F [.str (gS xs v 0)] := by
 rw [← (RS.gets h h0 h1).1]
 exact Zck h0 h1 F
theorem RS.get {B : Nat} {xs : LD} (h : ZB RS B xs) {v : Int} (h0 : 0 ≤ v) (h1 : v < xs.length) : gR xs v = [.str (gS xs v 0)] ∧ (gS xs v 0).size ≤ B ∧ True := RS.gets h.2 h0 h1
theorem RS.row {B : Nat} {xs : LD} (h : ZB RS B xs) {v : Int} (h0 : 0 ≤ v) (h1 : v < xs.length) {β : Type} (F : List D → Option β) : atRow xs v F = F [.str (gS xs v 0)] := RS.rows h.2 h0 h1 F
inductive Yao (B : Nat) : Nat → List D → Prop
 | mk {h : Nat} (c0 : Int) (c1 : BA) (c2 : Int) (c3 : LD) (c4 : LD) (k0 : (Lit.int .i64 c0).wf = true) (k1 : c1.size ≤ B) (k2 : (Lit.int .i64 c2).wf = true) (k3 : ZB RS B c3) (k4 : c4.length ≤ B) (m4 : ∀ r ∈ c4,Yao B h r) : Yao B (h + 1) [.int .i64 c0,.str c1,.int .i64 c2,.sl c3,.sl c4]
def Y0 (B : Nat) (r : List D) : Prop := ∃ h,(B ≤ 1099511627776 → h ≤ 1099511627776) ∧ Yao B h r
theorem Y0.open {B : Nat} {r : List D} (h : Y0 B r) : ∃ (c0 : Int) (c1 : BA) (c2 : Int) (c3 : LD) (c4 : LD),r = [.int .i64 c0,.str c1,.int .i64 c2,.sl c3,.sl c4] ∧ (Lit.int .i64 c0).wf = true ∧ c1.size ≤ B ∧ (Lit.int .i64 c2).wf = true ∧ ZB RS B c3 ∧ ZB Y0 B c4 ∧ True := by
 obtain ⟨h,hh,h1⟩ := h
 cases h1 with
 | mk c0 c1 c2 c3 c4 k0 k1 k2 k3 k4 m4 => exact ⟨c0,c1,c2,c3,c4,rfl,k0,k1,k2,k3,⟨k4,fun r hr => ⟨_,fun hb => by have := hh hb; omega,m4 r hr⟩⟩,trivial⟩
theorem Yao.up {B B' : Nat} (hb : B ≤ B') : ∀ {h : Nat} {r : List D},Yao B h r → Yao B' h r
 | _ + 1,_,.mk c0 c1 c2 c3 c4 k0 k1 k2 k3 k4 m4 => .mk c0 c1 c2 c3 c4 k0 (Nat.le_trans k1 hb) k2 ⟨Nat.le_trans k3.1 hb,fun r hr => (k3.2 r hr).mono hb⟩ (Nat.le_trans k4 hb) (fun r hr => Yao.up hb (m4 r hr))
theorem Y0.mono {B B' : Nat} (hb : B ≤ B') {r : List D} (h : Y0 B r) : Y0 B' r := by
 obtain ⟨h,hh,h1⟩ := h
 exact ⟨h,fun h2 => hh (Nat.le_trans hb h2),h1.up hb⟩
theorem Yao.mono {B : Nat} : ∀ {h h' : Nat} {r : List D},h ≤ h' → Yao B h r → Yao B h' r
 | _,0,_,hl,.mk .. => by omega
 | _ + 1,_ + 1,_,hl,.mk c0 c1 c2 c3 c4 k0 k1 k2 k3 k4 m4 => .mk c0 c1 c2 c3 c4 k0 k1 k2 k3 k4 (fun r hr => Yao.mono (by omega) (m4 r hr))
theorem Y0.wide {xs : LD} (h : ZB Y0 lim xs) : ZB Y0 2097152 xs := ⟨Nat.le_trans h.1 (by decide),fun r hr => (h.2 r hr).mono (by decide)⟩
theorem Y0.len {B : Nat} {r : List D} (h : Y0 B r) : r.length = 5 := by
 obtain ⟨c0,c1,c2,c3,c4,rfl,_⟩ := h.open
 rfl
theorem Y0.gets {B : Nat} {xs : LD} (h : ∀ r ∈ xs,Y0 B r) {v : Int} (h0 : 0 ≤ v) (h1 : v < xs.length) : gR xs v = [.int .i64 (gI xs v 0),.str (gS xs v 1),.int .i64 (gI xs v 2),.sl (gL xs v 3),.sl (gL xs v 4)] ∧ (Lit.int .i64 (gI xs v 0)).wf = true ∧ (gS xs v 1).size ≤ B ∧ (Lit.int .i64 (gI xs v 2)).wf = true ∧ ZB RS B (gL xs v 3) ∧ ZB Y0 B (gL xs v 4) ∧ True := by
 obtain ⟨c0,c1,c2,c3,c4,e,k0,k1,k2,k3,k4,_⟩ := (h (gR xs v) (gR_mem h0 h1)).open
 unfold gI gL gS
 rw [e]
 exact ⟨rfl,k0,k1,k2,k3,k4,trivial⟩
theorem Y0.rows {B : Nat} {xs : LD} (h : ∀ r ∈ xs,Y0 B r) {v : Int} (h0 : 0 ≤ v) (h1 : v < xs.length) {β : Type} (F : List D → Option β) : atRow xs v F = F [.int .i64 (gI xs v 0),.str (gS xs v 1),.int .i64 (gI xs v 2),.sl (gL xs v 3),.sl (gL xs v 4)] := by
 rw [← (Y0.gets h h0 h1).1]
 exact Zck h0 h1 F
theorem Y0.get {B : Nat} {xs : LD} (h : ZB Y0 B xs) {v : Int} (h0 : 0 ≤ v) (h1 : v < xs.length) : gR xs v = [.int .i64 (gI xs v 0),.str (gS xs v 1),.int .i64 (gI xs v 2),.sl (gL xs v 3),.sl (gL xs v 4)] ∧ (Lit.int .i64 (gI xs v 0)).wf = true ∧ (gS xs v 1).size ≤ B ∧ (Lit.int .i64 (gI xs v 2)).wf = true ∧ ZB RS B (gL xs v 3) ∧ ZB Y0 B (gL xs v 4) ∧ True := Y0.gets h.2 h0 h1
theorem Y0.row {B : Nat} {xs : LD} (h : ZB Y0 B xs) {v : Int} (h0 : 0 ≤ v) (h1 : v < xs.length) {β : Type} (F : List D → Option β) : atRow xs v F = F [.int .i64 (gI xs v 0),.str (gS xs v 1),.int .i64 (gI xs v 2),.sl (gL xs v 3),.sl (gL xs v 4)] := Y0.rows h.2 h0 h1 F
def Yg (B : Nat) (r : List D) : Prop := ∃ (c0 : Int) (c1 : Int) (c2 : Int) (c3 : BA) (c4 : Int) (c5 : LD) (c6 : LD),r = [.int .i64 c0,.int .i64 c1,.int .i64 c2,.str c3,.int .i64 c4,.sl c5,.sl c6] ∧ (Lit.int .i64 c0).wf = true ∧ (Lit.int .i64 c1).wf = true ∧ (Lit.int .i64 c2).wf = true ∧ c3.size ≤ B ∧ (Lit.int .i64 c4).wf = true ∧ ZB RS B c5 ∧ ZB Y0 B c6 ∧ True
theorem Yg.open {B : Nat} {r : List D} (h : Yg B r) : ∃ (c0 : Int) (c1 : Int) (c2 : Int) (c3 : BA) (c4 : Int) (c5 : LD) (c6 : LD),r = [.int .i64 c0,.int .i64 c1,.int .i64 c2,.str c3,.int .i64 c4,.sl c5,.sl c6] ∧ (Lit.int .i64 c0).wf = true ∧ (Lit.int .i64 c1).wf = true ∧ (Lit.int .i64 c2).wf = true ∧ c3.size ≤ B ∧ (Lit.int .i64 c4).wf = true ∧ ZB RS B c5 ∧ ZB Y0 B c6 ∧ True := h
theorem Yg.mono {B B' : Nat} (hb : B ≤ B') {r : List D} (h : Yg B r) : Yg B' r := by
 obtain ⟨c0,c1,c2,c3,c4,c5,c6,rfl,k0,k1,k2,k3,k4,k5,k6,_⟩ := h
 exact ⟨_,_,_,_,_,_,_,rfl,k0,k1,k2,(Nat.le_trans k3 hb),k4,⟨Nat.le_trans k5.1 hb,fun r hr => (k5.2 r hr).mono hb⟩,⟨Nat.le_trans k6.1 hb,fun r hr => (k6.2 r hr).mono hb⟩,trivial⟩
theorem Yg.wide {xs : LD} (h : ZB Yg lim xs) : ZB Yg 2097152 xs := ⟨Nat.le_trans h.1 (by decide),fun r hr => (h.2 r hr).mono (by decide)⟩
theorem Yg.len {B : Nat} {r : List D} (h : Yg B r) : r.length = 7 := by
 obtain ⟨c0,c1,c2,c3,c4,c5,c6,rfl,_⟩ := h.open
 rfl
theorem Yg.gets {B : Nat} {xs : LD} (h : ∀ r ∈ xs,Yg B r) {v : Int} (h0 : 0 ≤ v) (h1 : v < xs.length) : gR xs v = [.int .i64 (gI xs v 0),.int .i64 (gI xs v 1),.int .i64 (gI xs v 2),.str (gS xs v 3),.int .i64 (gI xs v 4),.sl (gL xs v 5),.sl (gL xs v 6)] ∧ (Lit.int .i64 (gI xs v 0)).wf = true ∧ (Lit.int .i64 (gI xs v 1)).wf = true ∧ (Lit.int .i64 (gI xs v 2)).wf = true ∧ (gS xs v 3).size ≤ B ∧ (Lit.int .i64 (gI xs v 4)).wf = true ∧ ZB RS B (gL xs v 5) ∧ ZB Y0 B (gL xs v 6) ∧ True := by
 obtain ⟨c0,c1,c2,c3,c4,c5,c6,e,k0,k1,k2,k3,k4,k5,k6,_⟩ := (h (gR xs v) (gR_mem h0 h1)).open
 unfold gI gL gS
 rw [e]
 exact ⟨rfl,k0,k1,k2,k3,k4,k5,k6,trivial⟩
theorem Yg.rows {B : Nat} {xs : LD} (h : ∀ r ∈ xs,Yg B r) {v : Int} (h0 : 0 ≤ v) (h1 : v < xs.length) {β : Type} (F : List D → Option β) : atRow xs v F = F [.int .i64 (gI xs v 0),.int .i64 (gI xs v 1),.int .i64 (gI xs v 2),.str (gS xs v 3),.int .i64 (gI xs v 4),.sl (gL xs v 5),.sl (gL xs v 6)] := by
 rw [← (Yg.gets h h0 h1).1]
 exact Zck h0 h1 F
theorem Yg.get {B : Nat} {xs : LD} (h : ZB Yg B xs) {v : Int} (h0 : 0 ≤ v) (h1 : v < xs.length) : gR xs v = [.int .i64 (gI xs v 0),.int .i64 (gI xs v 1),.int .i64 (gI xs v 2),.str (gS xs v 3),.int .i64 (gI xs v 4),.sl (gL xs v 5),.sl (gL xs v 6)] ∧ (Lit.int .i64 (gI xs v 0)).wf = true ∧ (Lit.int .i64 (gI xs v 1)).wf = true ∧ (Lit.int .i64 (gI xs v 2)).wf = true ∧ (gS xs v 3).size ≤ B ∧ (Lit.int .i64 (gI xs v 4)).wf = true ∧ ZB RS B (gL xs v 5) ∧ ZB Y0 B (gL xs v 6) ∧ True := Yg.gets h.2 h0 h1
theorem Yg.row {B : Nat} {xs : LD} (h : ZB Yg B xs) {v : Int} (h0 : 0 ≤ v) (h1 : v < xs.length) {β : Type} (F : List D → Option β) : atRow xs v F = F [.int .i64 (gI xs v 0),.int .i64 (gI xs v 1),.int .i64 (gI xs v 2),.str (gS xs v 3),.int .i64 (gI xs v 4),.sl (gL xs v 5),.sl (gL xs v 6)] := Yg.rows h.2 h0 h1 F
set_option maxRecDepth 100000 in
theorem str_ex {b xs : LD} {i h : Int} {k : Nat} (c : Cur b i) (g : ∀ r ∈ xs,RS lim r) (hx : 0 < xs.length) : ∃ j i' h',0 ≤ j ∧ j < (xs.length : Int) ∧ Cur b i' ∧ YY.t k b i h xs = some (gS xs j 0,b,i',h') := by
 obtain ⟨x,i',h',x0,x1,-,c',e⟩ := YaD (k := k) (h := h) (n := (xs.length : Int)) c
 unfold YY.t YY.g; simp only [atR,rdQ,Q.ask]
 rw [Yp.f_of e,RS.rows g x0 (x1 (by omega))]
 simp only [Z4,ZaQ,Zan]
 exact ⟨x,_,_,x0,x1 (by omega),c',rfl⟩
theorem Ya5 {a : LD} (g : ZB RSS lim a) {k : Nat} {β : Type} (K : LC → Option β) : Yad.f k a K = K (a.map (·.map C.d)) := Yad.f_of (by
 have hl := g.1
 have hlim : lim = 1048576 := rfl
 have hm : Z8 = 2 ^ 36 := rfl
 unfold Yad.t Yad.g
 rw [ZH (RSS.flat g.2),ZH (by simp only [List.length_nil,map_len]; omega),List.nil_append]) K
set_option maxRecDepth 100000 in
set_option maxHeartbeats 1000000 in
theorem labelSet_ex {k : Nat} (hk : Fuel k) {l : LD} {s v : BA} (g : ∀ r ∈ l,RSS lim r) (hl : l.length ≤ 1000) (gs : s.size ≤ lim) (gv : v.size ≤ lim) : ∃ (l' : LD) (ok : Bool),(∀ r ∈ l',RSS lim r) ∧ l'.length ≤ l.length + 1 ∧ Yx.t k l s v = some (l'.map (·.map C.d),ok) := by
 have hlim : lim = 1048576 := rfl
 have hm : Z8 = 2 ^ 36 := rfl
 have hb : big = 2 ^ 64 := rfl
 have G : ZB RSS lim l := ⟨by omega,g⟩
 let Qz : Option (LC × Bool) → Prop := fun o => ∃ (l' : LD) (ok : Bool),(∀ r ∈ l',RSS lim r) ∧ l'.length ≤ l.length + 1 ∧ o = some (l'.map (·.map C.d),ok)
 have hsame : ∀ ok,Qz (some (l.map (·.map C.d),ok)) := fun ok => ⟨l,ok,g,by omega,rfl⟩
 have hnew : RSS lim [D.str s,D.str v] := ⟨s,v,rfl,gs,gv,trivial⟩
 have loop : Qz (ZA (Yx.l0 k l s v (fun z0 z1 => some (z0,z1))) k (false,0,[])) := by
  refine YaW (fun v => (l.length : Int).toNat - v.2.1.toNat) (fun v => 0 ≤ v.2.1 ∧ v.2.1 ≤ (l.length : Int) ∧ ∃ o : LD,v.2.2 = o.map (·.map C.d) ∧ (∀ r ∈ o,RSS lim r) ∧ (o.length : Int) ≤ v.2.1 + (if v.1 = true then 1 else 0)) Qz ?_ ⟨by simp,by simp,[],rfl,by simp,by simp⟩ (by unfold Fuel at hk; simp; omega)
  rintro ⟨p,i,out⟩ ⟨h0,h1,o,e,ho,hlen⟩ L hL
  simp only at h0 h1 e hlen
  subst e
  have hw : i < l.length → IntKind.wrap .i64 (i + 1) = i + 1 := fun _ => Z9 (by omega) (by omega)
  have hp : (if p = true then (1 : Int) else 0) ≤ 1 ∧ 0 ≤ (if p = true then (1 : Int) else 0) := by cases p <;> simp
  by_cases hi : i < l.length
  ·have hr := RSS.gets g h0 hi
   have hold : RSS lim [D.str (gS l i 0),.str (gS l i 1)] := ⟨_,_,rfl,hr.2.1,hr.2.2.1,trivial⟩
   have fin : ∀ (p' : Bool) (o' : LD),(∀ r ∈ o',RSS lim r) → (o'.length : Int) ≤ i + 1 + (if p' = true then 1 else 0) → Qz (L (p',i + 1,o'.map (·.map C.d))) := fun p' o' q1 q2 => hL _ ⟨by show 0 ≤ i + 1; omega,by show i + 1 ≤ (l.length : Int); omega,o',rfl,q1,q2⟩ (by show (l.length : Int).toNat - (i + 1).toNat < (l.length : Int).toNat - i.toNat; omega)
   have up1 : ∀ (o' : LD) (x y : BA),o'.map (·.map C.d) ++ ([[.d (.str x),.d (.str y)]] : LC) = (o' ++ [[D.str x,D.str y]]).map (·.map C.d) := fun o' x y => by rw [List.map_append]; rfl
   simp only [Yx.l0,atR,rdQ,Q.ask,ZY hi,cond_true,RSS.row G h0 hi,Z4,ZaQ,Zan,hw hi,map_len,List.length_append,List.length_singleton,ZH (show o.length + 1 ≤ Z8 by omega),ZH (show o.length + 1 + 1 ≤ Z8 by omega)]
   cases p with
   | true =>
    simp only [Bool.not_true,cond_false]
    cases Zae (gS l i 0) s
    ·simp only [Bool.not_false,cond_true,up1]
     exact fin _ _ (YaI ho hold) (by rw [List.length_append,List.length_singleton]; simp at hlen ⊢; omega)
    ·exact fin _ _ ho (by simp at hlen ⊢; omega)
   | false =>
    simp only [Bool.not_false,cond_true]
    simp at hlen
    cases strLt (gS l i 0) s
    ·simp only [Bool.not_false,cond_true]
     cases Zae (gS l i 0) s
     ·simp only [Bool.not_false,cond_true,up1]
      exact fin _ _ (YaI (YaI ho hnew) hold) (by simp; omega)
     ·simp only [Bool.not_true,cond_false,up1]
      exact fin _ _ (YaI ho hnew) (by simp; omega)
    ·simp only [Bool.not_true,cond_false]
     cases Zae (gS l i 0) s
     ·simp only [Bool.not_false,cond_true,up1]
      exact fin _ _ (YaI ho hold) (by simp; omega)
     ·exact fin _ _ ho (by simp; omega)
  ·simp only [Yx.l0,atR,rdQ,Q.ask,ZZ hi,cond_false,map_len,List.length_singleton]
   cases p with
   | true => exact ⟨o,true,ho,by simp at hlen; omega,rfl⟩
   | false =>
    simp only [Bool.not_false,cond_true]
    rw [ZH (show o.length + 1 ≤ Z8 by simp at hlen; omega)]
    exact ⟨o ++ [[D.str s,D.str v]],true,YaI ho hnew,by simp at hlen ⊢; omega,by rw [List.map_append]; rfl⟩
 show Qz _
 unfold Yx.t Yx.g Yx.m
 rw [Yz.fv G gs hk,YA.fv G hk]
 cases YA.v l
 ·simp only [Bool.not_false,cond_true,Ya5 G]; exact hsame _
 simp only [Bool.not_true,cond_false,Yj.fv gs hk]
 cases Yj.v s
 ·simp only [Bool.not_false,cond_true,Ya5 G]; exact hsame _
 simp only [Bool.not_true,cond_false,Yj.fv gv hk]
 cases Yj.v v
 ·simp only [Bool.not_false,cond_true,Ya5 G]; exact hsame _
 simp only [Bool.not_true,cond_false]
 cases (Yz.v l s).2
 ·simp only [Bool.not_false,cond_true]
  cases ((l.length : Int)) == 8
  ·exact loop
  ·simp only [cond_true,Ya5 G]; exact hsame _
 ·exact loop
theorem name_ex {b : LD} {i h : Int} {k : Nat} (c : Cur b i) : ∃ s i' h',s.size ≤ lim ∧ Cur b i' ∧ Yae.t k b i h = some (s,b,i',h') := by
 unfold Yae.t Yae.g
 have hstr : ∀ r ∈ ([[.str (⟨#[97]⟩ : BA)],[.str (⟨#[98]⟩ : BA)],[.str (⟨#[99]⟩ : BA)],[.str (⟨#[122,111,110,101]⟩ : BA)],[.str (⟨#[116,105,101,114]⟩ : BA)],[.str (⟨#[103,111,108,100]⟩ : BA)],[.str (⟨#[101,97,115,116]⟩ : BA)],[.str (⟨#[120,45,49]⟩ : BA)],[.str (⟨#[97,98,99,100,101,102,103,104,105,106,107,108,109,110,111,112,113,114,115,116]⟩ : BA)]] : LD),RS lim r := by
  intro r hr
  simp only [List.mem_cons,List.not_mem_nil,or_false] at hr
  rcases hr with rfl | rfl | rfl | rfl | rfl | rfl | rfl | rfl | rfl <;> exact ⟨_,rfl,by decide,trivial⟩
 obtain ⟨j,i1,h1,j0,j1,hc1,e1⟩ := str_ex (k := k) (h := h) c hstr (by decide)
 rw [YY.f_of e1]
 exact ⟨_,_,_,(RS.gets hstr j0 j1).2.1,hc1,rfl⟩
set_option maxHeartbeats 1000000 in
theorem labels_ex {k : Nat} (hk : Fuel k) {b : LD} {i h M : Int} (c : Cur b i) (hM : M ≤ 100) : ∃ (l : LD) (i' h' : Int),(∀ r ∈ l,RSS lim r) ∧ l.length ≤ M.toNat ∧ Cur b i' ∧ YO.t k b i h M = some (l.map (·.map C.d),b,i',h') := by
 have hb : big = 2 ^ 64 := rfl
 unfold YO.t YO.g
 obtain ⟨x,i1,h1,x0,x1,x2,hc1,e1⟩ := YaD (k := k) (h := h) (n := M) c
 rw [Yp.f_of e1]
 refine YaW (fun v => v.1.toNat) (fun v => 0 ≤ v.1 ∧ v.2.1 = b ∧ Cur b v.2.2.1 ∧ ∃ o : LD,v.2.2.2.2 = o.map (·.map C.d) ∧ (∀ r ∈ o,RSS lim r) ∧ (o.length : Int) + v.1 ≤ M.toNat) (fun o => ∃ (l : LD) (i' h' : Int),(∀ r ∈ l,RSS lim r) ∧ l.length ≤ M.toNat ∧ Cur b i' ∧ o = some (l.map (·.map C.d),b,i',h')) ?_ (v := (x,b,i1,h1,[])) ⟨x0,rfl,hc1,[],rfl,by simp,by simp; omega⟩ (by unfold Fuel at hk; show x.toNat < k; omega)
 rintro ⟨n,b',i,h,out⟩ ⟨n0,eb,hc,o,e,ho,hlen⟩ L hL
 simp only at n0 eb hc e hlen
 subst eb e
 by_cases hn : n > 0
 ·obtain ⟨s,i2,h2,gs,hc2,e2⟩ := name_ex (k := k) (h := h) hc
  obtain ⟨v,i3,h3,gv,hc3,e3⟩ := name_ex (k := k) (h := h2) hc2
  obtain ⟨l',ok,g',gl,e4⟩ := labelSet_ex hk ho (by omega) gs gv
  simp only [YO.l0,ZY hn,cond_true,Yae.f_of e2,Yae.f_of e3,imm_rows,Yx.f_of e4,Z9 (show -9223372036854775808 ≤ n - 1 by omega) (show n - 1 ≤ 9223372036854775807 by omega)]
  exact hL _ ⟨by show 0 ≤ n - 1; omega,rfl,hc3,l',rfl,g',by show (l'.length : Int) + (n - 1) ≤ _; omega⟩ (by show (n - 1).toNat < n.toNat; omega)
 ·simp only [YO.l0,ZZ hn,cond_false]
  exact ⟨o,i,h,ho,by omega,hc,rfl⟩
inductive VSm (m : Nat) : Nat → List D → Prop
 | mk {n : Nat} (c0 : Int) (c1 : BA) (c2 : Int) (c3 c4 : LD) (w0 : (Lit.int .i64 c0).wf = true) (k1 : c1.size ≤ lim) (w2 : (Lit.int .i64 c2).wf = true) (l3 : c3.length ≤ m) (h3 : ∀ r ∈ c3,RS lim r) (l4 : c4.length ≤ m) (h4 : ∀ r ∈ c4,VSm m n r) : VSm m (n + 1) [.int .i64 c0,.str c1,.int .i64 c2,.sl c3,.sl c4]
theorem VSm.up {m m' : Nat} (hm : m ≤ m') : ∀ {n n' : Nat} {r : List D},VSm m n r → n ≤ n' → VSm m' n' r
 | _,n',_,.mk (n := n) c0 c1 c2 c3 c4 w0 k1 w2 l3 h3 l4 h4,hn => by
  obtain ⟨q,rfl⟩ : ∃ q,n' = q + 1 := ⟨n' - 1,by omega⟩
  exact .mk c0 c1 c2 c3 c4 w0 k1 w2 (by omega) h3 (by omega) fun r hr => (h4 r hr).up hm (by omega)
theorem VSm.val {m : Nat} (hm : m ≤ 2000) : ∀ {n : Nat} {r : List D},VSm m n r → Yao lim n r
 | _,_,.mk (n := n) c0 c1 c2 c3 c4 w0 k1 w2 l3 h3 l4 h4 => Yao.mk c0 c1 c2 c3 c4 w0 k1 w2 ⟨Nat.le_trans l3 (Nat.le_trans hm (by decide)),h3⟩ (Nat.le_trans l4 (Nat.le_trans hm (by decide))) fun r hr => (h4 r hr).val hm
def VOk (n : Nat) (c0 : Int) (c1 : BA) (c2 : Int) (c3 c4 : LD) : Prop := VSm 1000 n [.int .i64 c0,.str c1,.int .i64 c2,.sl c3,.sl c4]
theorem VOk.mk {n : Nat} {c0 c2 : Int} {c1 : BA} {c3 c4 : LD} (w0 : -9223372036854775808 ≤ c0 ∧ c0 ≤ 9223372036854775807) (k1 : c1.size ≤ lim) (w2 : -9223372036854775808 ≤ c2 ∧ c2 ≤ 9223372036854775807) (h3 : ∀ r ∈ c3,RS lim r) (l3 : c3.length ≤ 1000) (l4 : c4.length ≤ 1000) (h4 : ∀ r ∈ c4,VSm 1000 n r) : VOk (n + 1) c0 c1 c2 c3 c4 :=
 VSm.mk c0 c1 c2 c3 c4 (wf_of w0.1 w0.2) k1 (wf_of w2.1 w2.2) l3 h3 l4 h4
theorem row_own {x : Int} {y : BA} {z : Int} {u v : LD} : ([[.d (.int .i64 x),.d (.str y),.d (.int .i64 z),.own (Zc u),.own (Zc v)]] : LC) = Zc [[.int .i64 x,.str y,.int .i64 z,.sl u,.sl v]] := by
 simp only [Zc,ZN,deepD]
theorem deep_app1 {a : LD} {x : Int} {y : BA} {z : Int} {u v : LD} : Zc a ++ ([[.d (.int .i64 x),.d (.str y),.d (.int .i64 z),.own (Zc u),.own (Zc v)]] : LC) = Zc (a ++ [[.int .i64 x,.str y,.int .i64 z,.sl u,.sl v]]) := by
 rw [row_own,Zbb]
theorem strs_in {l : List BA} (h : ∀ s ∈ l,s.size ≤ 1000) : ∀ r ∈ l.map (fun s => [D.str s]),RS lim r := by
 intro r hr
 obtain ⟨s,hs,rfl⟩ := List.mem_map.mp hr
 exact ⟨s,rfl,Nat.le_trans (h s hs) (by decide),trivial⟩
def VDrawn (b : LD) (n : Nat) (o : Option (Int × BA × Int × LC × LC × LD × Int × Int)) : Prop :=
 ∃ c0 c1 c2 c3 c4 i h,VOk n c0 c1 c2 c3 c4 ∧ Cur b i ∧ o = some (c0,c1,c2,Zc c3,Zc c4,b,i,h)
theorem VDrawn.flat {b : LD} {n : Nat} {c0 c2 i h : Int} {c1 : BA} (hc : Cur b i) (w0 : 1 ≤ c0 ∧ c0 ≤ 5) (k1 : c1.size ≤ lim) (w2 : -9223372036854775808 ≤ c2 ∧ c2 ≤ 9223372036854775807) : VDrawn b (n + 1) (some (c0,c1,c2,[],[],b,i,h)) :=
 ⟨c0,c1,c2,[],[],i,h,.mk ⟨by omega,by omega⟩ k1 w2 (by simp) (by simp) (by simp) (by simp),hc,by simp only [Zc]⟩
theorem wk0 : IntKind.wrap .i64 (1 + 0) = 1 := by decide
theorem wk1 : IntKind.wrap .i64 (1 + 1) = 2 := by decide
theorem wk2 : IntKind.wrap .i64 (1 + 2) = 3 := by decide
theorem wk3 : IntKind.wrap .i64 (1 + 3) = 4 := by decide
theorem wk4 : IntKind.wrap .i64 (1 + 4) = 5 := by decide
def vStrs : List BA := [⟨#[]⟩,⟨#[97]⟩,⟨#[120,32,121]⟩,⟨#[34]⟩,⟨#[92,110]⟩,⟨#[105,109,97,103,101,58,49]⟩]
def vInts : List Int := [0,1,80,-5,9223372036854775807,-9223372036854775808]
theorem vStr_ex {b : LD} {i h : Int} {k n : Nat} {c0 : Int} (c : Cur b i) (w0 : 1 ≤ c0 ∧ c0 ≤ 5) : VDrawn b (n + 1) (YY.f k b i h ([[.str (⟨#[]⟩ : BA)],[.str (⟨#[97]⟩ : BA)],[.str (⟨#[120,32,121]⟩ : BA)],[.str (⟨#[34]⟩ : BA)],[.str (⟨#[92,110]⟩ : BA)],[.str (⟨#[105,109,97,103,101,58,49]⟩ : BA)]] : LD) (fun y5 y6 y7 y8 => some (c0,y5,0,([] : LC),([] : LC),y6,y7,y8))) := by
 have hstr := strs_in (l := vStrs) (by decide)
 obtain ⟨j,i1,h1,j0,j1,hc1,e1⟩ := str_ex (k := k) (h := h) c hstr (by decide)
 have e2 : YY.t k b i h ([[.str (⟨#[]⟩ : BA)],[.str (⟨#[97]⟩ : BA)],[.str (⟨#[120,32,121]⟩ : BA)],[.str (⟨#[34]⟩ : BA)],[.str (⟨#[92,110]⟩ : BA)],[.str (⟨#[105,109,97,103,101,58,49]⟩ : BA)]] : LD) = _ := e1
 rw [YY.f_of e2]
 exact .flat hc1 w0 (RS.gets hstr j0 j1).2.1 ⟨by omega,by omega⟩
theorem vInt_ex {b : LD} {i h : Int} {k n : Nat} {c0 : Int} (c : Cur b i) (w0 : 1 ≤ c0 ∧ c0 ≤ 5) : VDrawn b (n + 1) (YP.f k b i h ([[.int .i64 0],[.int .i64 1],[.int .i64 80],[.int .i64 (-5)],[.int .i64 9223372036854775807],[.int .i64 (-9223372036854775808)]] : LD) (fun y9 y10 y11 y12 => some (c0,(⟨#[]⟩ : BA),y9,([] : LC),([] : LC),y10,y11,y12))) := by
 obtain ⟨y,i2,h2,hy,hc2,e1⟩ := int_ex (k := k) (h := h) c vInts (by decide)
 have e2 : YP.t k b i h ([[.int .i64 0],[.int .i64 1],[.int .i64 80],[.int .i64 (-5)],[.int .i64 9223372036854775807],[.int .i64 (-9223372036854775808)]] : LD) = _ := e1
 rw [YP.f_of e2]
 simp only [vInts,List.mem_cons,List.not_mem_nil,or_false] at hy
 exact .flat hc2 w0 (by decide) ⟨by omega,by omega⟩
theorem vBool_ex {b : LD} {i h : Int} {k n : Nat} {c0 : Int} (c : Cur b i) (w0 : 1 ≤ c0 ∧ c0 ≤ 5) : VDrawn b (n + 1) (Yp.f k b i h 2 (fun y9 y10 y11 y12 => some (c0,(⟨#[]⟩ : BA),y9,([] : LC),([] : LC),y10,y11,y12))) := by
 obtain ⟨y,i2,h2,y0,y1,-,hc2,e1⟩ := YaD (k := k) (h := h) (n := 2) c
 have y1 := y1 (by decide)
 rw [Yp.f_of e1]
 exact .flat hc2 w0 (by decide) ⟨by omega,by omega⟩
set_option maxRecDepth 100000 in
set_option maxHeartbeats 4000000 in
theorem value_ex (d : Nat) : ∀ {b : LD} {i h : Int} {k : Nat},Cur b i → d ≤ 100 → big + d + 1 ≤ k → VDrawn b (d + 1) (Yh.t k b i h (d : Int)) := by
 have hm : Z8 = 2 ^ 36 := rfl
 have hlim : lim = 1048576 := rfl
 have hb : big = 2 ^ 64 := rfl
 induction d with
 | zero =>
  intro b i h k hc hd hk
  obtain ⟨k,rfl⟩ : ∃ k',k = k' + 1 := ⟨k - 1,by omega⟩
  rw [Yh.t_succ]
  unfold Yh.g Yh.body Yh.m
  obtain ⟨x,i1,h1,x0,x1,-,hc1,e1⟩ := YaD (k := k) (h := h) (n := 5) hc
  have x1 := x1 (by decide)
  rw [Yp.f_of e1]
  dsimp only
  rw [ZY (show ((0 : Nat) : Int) ≤ 1 by decide)]
  have hx : x = 0 ∨ x = 1 ∨ x = 2 ∨ x = 3 ∨ x = 4 := by omega
  rcases hx with rfl | rfl | rfl | rfl | rfl
  ·simp only [wk0,cond_true,cond_false,ZZ (show ¬ (1 : Int) > 3 by decide),Int.reduceBEq]; exact vStr_ex hc1 ⟨by decide,by decide⟩
  ·simp only [wk1,cond_true,cond_false,ZZ (show ¬ (2 : Int) > 3 by decide),Int.reduceBEq]; exact vInt_ex hc1 ⟨by decide,by decide⟩
  ·simp only [wk2,cond_true,cond_false,ZZ (show ¬ (3 : Int) > 3 by decide),Int.reduceBEq]; exact vBool_ex hc1 ⟨by decide,by decide⟩
  ·simp only [wk3,cond_true,cond_false,ZY (show (4 : Int) > 3 by decide),Int.reduceBEq]; exact vInt_ex hc1 ⟨by decide,by decide⟩
  ·simp only [wk4,cond_true,cond_false,ZY (show (5 : Int) > 3 by decide),Int.reduceBEq]; exact vInt_ex hc1 ⟨by decide,by decide⟩
 | succ d ih =>
  intro b i h k hc hd hk
  obtain ⟨k,rfl⟩ : ∃ k',k = k' + 1 := ⟨k - 1,by omega⟩
  rw [Yh.t_succ]
  unfold Yh.g Yh.body Yh.m
  obtain ⟨x,i1,h1,x0,x1,-,hc1,e1⟩ := YaD (k := k) (h := h) (n := 5) hc
  have x1 := x1 (by decide)
  rw [Yp.f_of e1]
  dsimp only
  have hx : x = 0 ∨ x = 1 ∨ x = 2 ∨ x = 3 ∨ x = 4 := by omega
  by_cases hd1 : ((d + 1 : Nat) : Int) ≤ 1
  ·rw [ZY hd1]
   rcases hx with rfl | rfl | rfl | rfl | rfl
   ·simp only [wk0,cond_true,cond_false,ZZ (show ¬ (1 : Int) > 3 by decide),Int.reduceBEq]; exact vStr_ex hc1 ⟨by decide,by decide⟩
   ·simp only [wk1,cond_true,cond_false,ZZ (show ¬ (2 : Int) > 3 by decide),Int.reduceBEq]; exact vInt_ex hc1 ⟨by decide,by decide⟩
   ·simp only [wk2,cond_true,cond_false,ZZ (show ¬ (3 : Int) > 3 by decide),Int.reduceBEq]; exact vBool_ex hc1 ⟨by decide,by decide⟩
   ·simp only [wk3,cond_true,cond_false,ZY (show (4 : Int) > 3 by decide),Int.reduceBEq]; exact vInt_ex hc1 ⟨by decide,by decide⟩
   ·simp only [wk4,cond_true,cond_false,ZY (show (5 : Int) > 3 by decide),Int.reduceBEq]; exact vInt_ex hc1 ⟨by decide,by decide⟩
  ·rw [ZZ hd1]
   have hwd : IntKind.wrap .i64 (((d + 1 : Nat) : Int) - 1) = (d : Int) := by rw [Z9 (by omega) (by omega)]; omega
   rcases hx with rfl | rfl | rfl | rfl | rfl
   ·simp only [wk0,cond_true,cond_false,Int.reduceBEq]; exact vStr_ex hc1 ⟨by decide,by decide⟩
   ·simp only [wk1,cond_true,cond_false,Int.reduceBEq]; exact vInt_ex hc1 ⟨by decide,by decide⟩
   ·simp only [wk2,cond_true,cond_false,Int.reduceBEq]; exact vBool_ex hc1 ⟨by decide,by decide⟩
   ·simp only [wk3,cond_true,cond_false,Int.reduceBEq]
    obtain ⟨y,i2,h2,y0,y1,-,hc2,e2⟩ := YaD (k := k) (h := h1) (n := 4) hc1
    have y1 := y1 (by decide)
    rw [Yp.f_of e2]
    refine YaW (fun v => v.1.toNat) (fun v => 0 ≤ v.1 ∧ v.2.1 = b ∧ Cur b v.2.2.1 ∧ ∃ o : LD,v.2.2.2.2 = Zc o ∧ (∀ r ∈ o,VSm 1000 (d + 1) r) ∧ (o.length : Int) + v.1 ≤ 4) (VDrawn b (d + 2)) ?_ (v := (y,b,i2,h2,[])) ⟨y0,rfl,hc2,[],by simp only [Zc],by simp,by simp; omega⟩ (by show y.toNat < k; omega)
    rintro ⟨n,b',i,h,out⟩ ⟨n0,eb,hc,o,e,ho,hlen⟩ L hL
    simp only at n0 eb hc e hlen
    subst eb e
    by_cases hn : n > 0
    ·obtain ⟨c0,c1,c2,c3,c4,i3,h3,hv,hc3,e3⟩ := ih (k := k) (h := h) hc (by omega) (by omega)
     simp only [Yh.l4,ZY hn,cond_true,hwd,Yh.f_of e3,Z9 (show -9223372036854775808 ≤ n - 1 by omega) (show n - 1 ≤ 9223372036854775807 by omega)]
     rw [ZH (by rw [ZS,List.length_singleton]; omega),deep_app1]
     exact hL _ ⟨by show 0 ≤ n - 1; omega,rfl,hc3,_,rfl,YaI ho hv,by rw [List.length_append,List.length_singleton]; show ((o.length + 1 : Nat) : Int) + (n - 1) ≤ 4; omega⟩ (by show (n - 1).toNat < n.toNat; omega)
    ·simp only [Yh.l4,ZZ hn,cond_false]
     exact ⟨4,(⟨#[]⟩ : BA),0,[],o,i,h,.mk ⟨by omega,by omega⟩ (by decide) ⟨by omega,by omega⟩ (by simp) (by simp) (by omega) ho,hc,by simp only [Zc]⟩
   ·simp only [wk4,cond_true,cond_false,Int.reduceBEq]
    obtain ⟨l,i2,h2,hl,hll,hc2,e2⟩ := labels_ex (k := k) (h := h1) (M := 5) (show Fuel k by show big ≤ k; omega) hc1 (by decide)
    have hll : l.length ≤ 5 := hll
    rw [YO.f_of e2]
    refine YaW (fun v => 5 - v.1.toNat) (fun v => 0 ≤ v.1 ∧ v.1 ≤ (l.length : Int) ∧ v.2.1 = b ∧ Cur b v.2.2.1 ∧ ∃ ks o : LD,v.2.2.2.2.1 = ks.map (·.map C.d) ∧ v.2.2.2.2.2 = Zc o ∧ (∀ r ∈ ks,RS lim r) ∧ (∀ r ∈ o,VSm 1000 (d + 1) r) ∧ (o.length : Int) = v.1 ∧ (ks.length : Int) = v.1) (VDrawn b (d + 2)) ?_ (v := (0,b,i2,h2,[],[])) ⟨by simp,by simp,rfl,hc2,[],[],rfl,by simp only [Zc],by simp,by simp,by simp,by simp⟩ (by show 5 - 0 < k; omega)
    rintro ⟨n,b',i,h,keys,out⟩ ⟨n0,n1,eb,hc,ks,o,e,e',hk',ho,hlen,hlen'⟩ L hL
    simp only at n0 n1 eb hc e e' hlen hlen'
    subst eb e e'
    by_cases hn : n < (l.length : Int)
    ·obtain ⟨c0,c1,c2,c3,c4,i3,h3,hv,hc3,e3⟩ := ih (k := k) (h := h) hc (by omega) (by omega)
     have hr := RSS.gets hl n0 hn
     simp only [Yh.l5,map_len,ZY hn,cond_true,ZH (show (0 : Int) ≤ n ∧ n < (l.length : Int) from ⟨n0,hn⟩),atNat_up n0 hn,hr.1,List.map_cons,List.map_nil,List.drop_zero,Z4,cD_at,ZaQ,hwd,Yh.f_of e3,List.length_singleton,Z9 (show -9223372036854775808 ≤ n + 1 by omega) (show n + 1 ≤ 9223372036854775807 by omega)]
     rw [ZH (by omega),ZH (by rw [ZS]; omega),deep_app1]
     exact hL _ ⟨by show 0 ≤ n + 1; omega,by show n + 1 ≤ (l.length : Int); omega,rfl,hc3,ks ++ [[.str (gS l n 0)]],_,by rw [List.map_append]; rfl,rfl,YaI hk' ⟨_,rfl,hr.2.1,trivial⟩,YaI ho hv,by rw [List.length_append,List.length_singleton]; show ((o.length + 1 : Nat) : Int) = n + 1; omega,by rw [List.length_append,List.length_singleton]; show ((ks.length + 1 : Nat) : Int) = n + 1; omega⟩ (by show 5 - (n + 1).toNat < 5 - n.toNat; omega)
    ·simp only [Yh.l5,map_len,ZZ hn,cond_false]
     exact ⟨5,(⟨#[]⟩ : BA),0,ks,o,i,h,.mk ⟨by omega,by omega⟩ (by decide) ⟨by omega,by omega⟩ hk' (by omega) (by omega) ho,hc,by rw [RS.deep hk']⟩
theorem VOk.parts {n : Nat} {c0 c2 : Int} {c1 : BA} {c3 c4 : LD} (h : VOk n c0 c1 c2 c3 c4) (hn : n ≤ 1000) : (Lit.int .i64 c0).wf = true ∧ c1.size ≤ lim ∧ (Lit.int .i64 c2).wf = true ∧ ZB RS lim c3 ∧ ZB Y0 lim c4 := by
 have h := VSm.val (by decide) h
 cases h with
 | mk _ _ _ _ _ k0 k1 k2 k3 k4 m4 => exact ⟨k0,k1,k2,k3,k4,fun r hr => ⟨_,fun _ => by omega,m4 r hr⟩⟩
def WSm (m n : Nat) (r : List D) : Prop := ∃ (p q c0 : Int) (c1 : BA) (c2 : Int) (c3 c4 : LD),r = [.int .i64 p,.int .i64 q,.int .i64 c0,.str c1,.int .i64 c2,.sl c3,.sl c4] ∧ (Lit.int .i64 p).wf = true ∧ (Lit.int .i64 q).wf = true ∧ VSm m n [.int .i64 c0,.str c1,.int .i64 c2,.sl c3,.sl c4]
theorem WSm.row {m n : Nat} {r : List D} (hm : m ≤ 2000) (hn : n ≤ 1000) (h : WSm m n r) : Yg lim r := by
 obtain ⟨p,q,c0,c1,c2,c3,c4,rfl,hp,hq,hv⟩ := h
 have h := VSm.val hm hv
 cases h with
 | mk _ _ _ _ _ k0 k1 k2 k3 k4 m4 => exact ⟨_,_,_,_,_,_,_,rfl,hp,hq,k0,k1,k2,k3,⟨k4,fun r hr => ⟨_,fun _ => by omega,m4 r hr⟩⟩,trivial⟩
theorem deep_work {a : LD} {p q x : Int} {y : BA} {z : Int} {u v : LD} : Zc a ++ ([[.d (.int .i64 p),.d (.int .i64 q),.d (.int .i64 x),.d (.str y),.d (.int .i64 z),.own (Zc u),.own (Zc v)]] : LC) = Zc (a ++ [[.int .i64 p,.int .i64 q,.int .i64 x,.str y,.int .i64 z,.sl u,.sl v]]) := by
 rw [Zbb]
 simp only [Zc,ZN,deepD]
set_option maxHeartbeats 1000000 in
theorem works_ex2 {k : Nat} (hk : Zai 1 k) {b : LD} {i h : Int} (c : Cur b i) : ∃ (ws : LD) (i' h' : Int),(∀ r ∈ ws,WSm 1000 3 r) ∧ ws.length ≤ 5 ∧ Cur b i' ∧ YJ.t k b i h = some (Zc ws,b,i',h') := by
 have hb : big = 2 ^ 64 := rfl
 have hm : Z8 = 2 ^ 36 := rfl
 have hl1 : lv 1 = 2 ^ 65 := rfl
 have hkb : 2 ^ 65 ≤ k := hk
 unfold YJ.t YJ.g
 refine YaW (fun v => 6 - v.1.toNat) (fun v => 1 ≤ v.1 ∧ v.1 ≤ 6 ∧ v.2.1 = b ∧ Cur b v.2.2.1 ∧ ∃ o : LD,v.2.2.2.2 = Zc o ∧ (∀ r ∈ o,WSm 1000 3 r) ∧ (o.length : Int) + 1 ≤ v.1) (fun o => ∃ (ws : LD) (i' h' : Int),(∀ r ∈ ws,WSm 1000 3 r) ∧ ws.length ≤ 5 ∧ Cur b i' ∧ o = some (Zc ws,b,i',h')) ?_ (v := (1,b,i,h,[])) ⟨by show (1 : Int) ≤ 1; omega,by show (1 : Int) ≤ 6; omega,rfl,c,[],by simp only [Zc],by simp,by simp⟩ (by show 6 - 1 < k; omega)
 rintro ⟨n,b',i,h,out⟩ ⟨n0,n1,eb,hc,o,e,ho,hlen⟩ L hL
 simp only at n0 n1 eb hc e hlen
 subst eb e
 by_cases hn : n < 6
 ·have hw : IntKind.wrap .i64 (n + 1) = n + 1 := Z9 (by omega) (by omega)
  obtain ⟨w,i1,h1,hc1,e1⟩ := once_ex (k := k) (h := h) (n := 2) hc
  cases w with
  | true =>
   obtain ⟨y,i2,h2,y0,y1,-,hc2,e2⟩ := YaD (k := k) (h := h1) (n := 5) hc1
   have y1 := y1 (by decide)
   obtain ⟨c0,c1,c2,c3,c4,i3,h3,hv,hc3,e3⟩ := value_ex 2 (k := k) (h := h2) hc2 (by decide) (by omega)
   rw [show ((2 : Nat) : Int) = 2 from rfl] at e3
   obtain ⟨p0,p1,p2,p3,p4⟩ := hv.parts (by decide)
   simp only [YJ.l0,ZY hn,cond_true,Y7.f_of e1,Yp.f_of e2,Yh.f_of e3,hw,Z9 (show -9223372036854775808 ≤ 1 + y by omega) (show 1 + y ≤ 9223372036854775807 by omega)]
   rw [ZH (by rw [ZS,List.length_singleton]; omega),deep_work]
   exact hL _ ⟨by show 1 ≤ n + 1; omega,by show n + 1 ≤ 6; omega,rfl,hc3,_,rfl,YaI ho ⟨_,_,_,_,_,_,_,rfl,wf_of (by omega) (by omega),wf_of (by omega) (by omega),hv⟩,by rw [List.length_append,List.length_singleton]; show ((o.length + 1 : Nat) : Int) + 1 ≤ n + 1; omega⟩ (by show 6 - (n + 1).toNat < 6 - n.toNat; omega)
  | false =>
   simp only [YJ.l0,ZY hn,cond_true,Y7.f_of e1,cond_false,hw]
   exact hL _ ⟨by show 1 ≤ n + 1; omega,by show n + 1 ≤ 6; omega,rfl,hc1,o,rfl,ho,by show (o.length : Int) + 1 ≤ n + 1; omega⟩ (by show 6 - (n + 1).toNat < 6 - n.toNat; omega)
 ·simp only [YJ.l0,ZZ hn,cond_false]
  exact ⟨o,i,h,ho,by omega,hc,rfl⟩
theorem works_ex {k : Nat} (hk : Zai 1 k) {b : LD} {i h : Int} (c : Cur b i) : ∃ (ws : LD) (i' h' : Int),(∀ r ∈ ws,Yg lim r) ∧ ws.length ≤ 5 ∧ Cur b i' ∧ YJ.t k b i h = some (Zc ws,b,i',h') := by
 obtain ⟨ws,i',h',h1,h2⟩ := works_ex2 hk (h := h) c
 exact ⟨ws,i',h',fun r hr => (h1 r hr).row (by decide) (by decide),h2⟩
theorem deepRows_get : ∀ {xs : LD} {i : Nat},(Zc xs)[i]? = (xs[i]?).map ZN
 | [],_ => by simp [Zc]
 | x :: xs,0 => by simp [Zc]
 | x :: xs,i + 1 => by simp only [Zc,List.getElem?_cons_succ]; exact deepRows_get
theorem atNat_deep {β : Type} {xs : LD} {v : Int} (h0 : 0 ≤ v) (h1 : v < xs.length) (F : List C → Option β) : ZaR (Zc xs) v.toNat F = F (ZN (gR xs v)) := by
 unfold ZaR
 rw [deepRows_get,gR_at h0 h1]
 rfl
theorem Yac.f_of {β : Type} {k aA aB aC aI aH z0 z1 z2 z3 z4} (h : Yac.t k aA aB aC aI aH = some (z0,z1,z2,z3,z4)) (K : BA → Int → Int → LC → LC → Option β) : Yac.f k aA aB aC aI aH K = K z0 z1 z2 z3 z4 := by unfold Yac.f; rw [h]; rfl
def RII (B : Nat) (r : List D) : Prop := ∃ (c0 : Int) (c1 : Int),r = [.int .i64 c0,.int .i64 c1] ∧ (Lit.int .i64 c0).wf = true ∧ (Lit.int .i64 c1).wf = true ∧ True
theorem RII.open {B : Nat} {r : List D} (h : RII B r) : ∃ (c0 : Int) (c1 : Int),r = [.int .i64 c0,.int .i64 c1] ∧ (Lit.int .i64 c0).wf = true ∧ (Lit.int .i64 c1).wf = true ∧ True := h
theorem RII.mono {B B' : Nat} (hb : B ≤ B') {r : List D} (h : RII B r) : RII B' r := by
 obtain ⟨c0,c1,rfl,k0,k1,_⟩ := h
 exact ⟨_,_,rfl,k0,k1,trivial⟩
theorem RII.wide {xs : LD} (h : ZB RII lim xs) : ZB RII 2097152 xs := ⟨Nat.le_trans h.1 (by decide),fun r hr => (h.2 r hr).mono (by decide)⟩
theorem RII.len {B : Nat} {r : List D} (h : RII B r) : r.length = 2 := by
 obtain ⟨c0,c1,rfl,_⟩ := h.open
 rfl
theorem RII.flat {B : Nat} {xs : LD} (h : ∀ r ∈ xs,RII B r) : Zcg 2 xs := fun r hr => by
 obtain ⟨c0,c1,rfl,_⟩ := (h r hr).open
 exact ⟨rfl,by simp [Zag]⟩
theorem RII.wt {B : Nat} {xs : LD} (h : ∀ r ∈ xs,RII B r) : Zu xs = 2 * xs.length := wt_flat (R := RII B) (fun r h => by obtain ⟨c0,c1,rfl,_⟩ := h; rfl) xs h
theorem RII.deep {B : Nat} {xs : LD} (h : ∀ r ∈ xs,RII B r) : Zc xs = xs.map (·.map C.d) := deep_flat (R := RII B) (fun r h => by obtain ⟨c0,c1,rfl,_⟩ := h; rfl) xs h
theorem RII.gets {B : Nat} {xs : LD} (h : ∀ r ∈ xs,RII B r) {v : Int} (h0 : 0 ≤ v) (h1 : v < xs.length) : gR xs v = [.int .i64 (gI xs v 0),.int .i64 (gI xs v 1)] ∧ (Lit.int .i64 (gI xs v 0)).wf = true ∧ (Lit.int .i64 (gI xs v 1)).wf = true ∧ True := by
 obtain ⟨c0,c1,e,k0,k1,_⟩ := (h (gR xs v) (gR_mem h0 h1)).open
 unfold gI
 rw [e]
 exact ⟨rfl,k0,k1,trivial⟩
theorem RII.rows {B : Nat} {xs : LD} (h : ∀ r ∈ xs,RII B r) {v : Int} (h0 : 0 ≤ v) (h1 : v < xs.length) {β : Type} (F : List D → Option β) : atRow xs v F = F [.int .i64 (gI xs v 0),.int .i64 (gI xs v 1)] := by
 rw [← (RII.gets h h0 h1).1]
 exact Zck h0 h1 F
theorem RII.get {B : Nat} {xs : LD} (h : ZB RII B xs) {v : Int} (h0 : 0 ≤ v) (h1 : v < xs.length) : gR xs v = [.int .i64 (gI xs v 0),.int .i64 (gI xs v 1)] ∧ (Lit.int .i64 (gI xs v 0)).wf = true ∧ (Lit.int .i64 (gI xs v 1)).wf = true ∧ True := RII.gets h.2 h0 h1
theorem RII.row {B : Nat} {xs : LD} (h : ZB RII B xs) {v : Int} (h0 : 0 ≤ v) (h1 : v < xs.length) {β : Type} (F : List D → Option β) : atRow xs v F = F [.int .i64 (gI xs v 0),.int .i64 (gI xs v 1)] := RII.rows h.2 h0 h1 F
theorem spec_IsleNew_t {a0 : BA} {a1 : Int} (g0 : a0.size ≤ lim) {k : Nat} (hk : Fuel k) : Yat.t k a0 a1 = some (bif Yj.v a0 && inB a1 0 10000 then (a0,a1,0,[],[],true) else ((⟨#[]⟩ : BA),0,0,[],[],false)) := by
 unfold Yat.t Yat.g
 try dsimp only
 rw [Yj.fv g0 hk,YaV]
 cases Yj.v a0
 ·rfl
 ·cases inB a1 0 10000 <;> rfl
def ofP (l : List (Int × Int)) : LD := l.map fun p => [.int .i64 p.1,.int .i64 p.2]
def upP (l : List (Int × Int)) : LC := l.map fun p => [.d (.int .i64 p.1),.d (.int .i64 p.2)]
theorem ofP_up (l : List (Int × Int)) : (ofP l).map (·.map C.d) = upP l := by simp [ofP,upP]
theorem YaC (l : List (Int × Int)) : (ofP l).length = l.length := by simp [ofP]
theorem YaT (l : List (Int × Int)) : (upP l).length = l.length := by simp [upP]
theorem upP_app (a b : List (Int × Int)) : upP a ++ upP b = upP (a ++ b) := by simp [upP]
theorem imm_upP : ∀ l : List (Int × Int),C.immRows (upP l) = ofP l
 | [] => rfl
 | p :: l => by simp only [upP,ofP,List.map_cons,C.immRows,C.immCells,C.imm]; exact congrArg _ (imm_upP l)
theorem deep_ofP : ∀ l : List (Int × Int),Zc (ofP l) = upP l
 | [] => rfl
 | p :: l => by simp only [upP,ofP,List.map_cons,Zc,ZN,deepD]; exact congrArg _ (deep_ofP l)
theorem ofP_of : ∀ {a : LD},(∀ r ∈ a,RII lim r) → ∃ l,a = ofP l
 | [],_ => ⟨[],rfl⟩
 | r :: a,h => by
  obtain ⟨l,rfl⟩ := ofP_of (a := a) fun x hx => h x (by simp [hx])
  obtain ⟨u,n,rfl,_⟩ := (h r (by simp)).open
  exact ⟨(u,n) :: l,rfl⟩
theorem ofP_ok {B : Nat} {l : List (Int × Int)} (h : l.length ≤ B) (hw : ∀ p ∈ l,(Lit.int .i64 p.1).wf = true ∧ (Lit.int .i64 p.2).wf = true) : ZB RII B (ofP l) := ⟨by rw [YaC]; exact h,fun r hr => by
 simp only [ofP,List.mem_map] at hr
 obtain ⟨p,hp,rfl⟩ := hr
 exact ⟨p.1,p.2,rfl,(hw p hp).1,(hw p hp).2,trivial⟩⟩
theorem ofP_wf {l : List (Int × Int)} (h : ZB RII lim (ofP l)) : ∀ p ∈ l,(Lit.int .i64 p.1).wf = true ∧ (Lit.int .i64 p.2).wf = true := fun p hp => by
 obtain ⟨u,n,e,h1,h2,_⟩ := (h.2 [.int .i64 p.1,.int .i64 p.2] (by simp only [ofP,List.mem_map]; exact ⟨p,hp,rfl⟩)).open
 injection e with e1 e2
 injection e2 with e2
 injection e1 with _ e1
 injection e2 with _ e2
 subst e1 e2
 exact ⟨h1,h2⟩
theorem gR_ofP {l : List (Int × Int)} {i : Nat} (h : i < l.length) : gR (ofP l) (i : Int) = [.int .i64 l[i].1,.int .i64 l[i].2] := by
 have := gR_at (xs := ofP l) (v := (i : Int)) (by omega) (by rw [YaC]; omega)
 rw [Int.toNat_natCast,List.getElem?_eq_getElem (by rw [YaC]; exact h)] at this
 injection this with this
 rw [← this]
 simp [ofP]
theorem YaP {l : List (Int × Int)} {i : Nat} (h : i < l.length) : gI (ofP l) (i : Int) 0 = l[i].1 := by
 unfold gI
 rw [gR_ofP h]
 rfl
theorem gI_ofP1 {l : List (Int × Int)} {i : Nat} (h : i < l.length) : gI (ofP l) (i : Int) 1 = l[i].2 := by
 unfold gI
 rw [gR_ofP h]
 rfl
theorem YaJ {l : List (Int × Int)} {i : Nat} (h : i < l.length) {β : Type} (F : List D → Option β) : atRow (ofP l) (i : Int) F = F [.int .i64 l[i].1,.int .i64 l[i].2] := by
 rw [← gR_ofP h]
 exact Zck (by omega) (by rw [YaC]; omega) F
theorem atRow_ofPI {l : List (Int × Int)} {v : Int} {i : Nat} (hv : v = (i : Int)) (h : i < l.length) {β : Type} (F : List D → Option β) : atRow (ofP l) v F = F [.int .i64 l[i].1,.int .i64 l[i].2] := by
 subst hv
 exact YaJ h F
def putR (uid n : Int) : Bool → List (Int × Int) → List (Int × Int)
 | put,[] => if put then [] else [(uid,n)]
 | put,x :: l => (if put = false ∧ uid ≤ x.1 then [(uid,n)] else []) ++ ((if x.1 = uid then [] else [x]) ++ putR uid n (put || decide (uid ≤ x.1)) l)
theorem putR_true {uid n : Int} : ∀ {l : List (Int × Int)},(∀ p ∈ l,p.1 ≠ uid) → putR uid n true l = l
 | [],_ => rfl
 | x :: l,h => by
  have hx := h x (by simp)
  simp only [putR,Bool.true_or]
  rw [putR_true fun p hp => h p (by simp [hp])]
  simp [hx]
def Asc (l : List (Int × Int)) : Prop := l.Pairwise fun p q => p.1 < q.1
theorem putR_drop {uid n : Int} {A B : List (Int × Int)} {m : Int} (h : Asc (A ++ (uid,m) :: B)) : putR uid n true (A ++ (uid,m) :: B) = A ++ B := by
 have h' := List.pairwise_append.mp h
 have hB : ∀ p ∈ B,p.1 ≠ uid := fun p hp e => by
  have := (List.pairwise_cons.mp h'.2.1).1 p hp
  simp only [] at this
  omega
 induction A with
 | nil => simp only [List.nil_append,putR,Bool.true_or]; rw [putR_true hB]; simp
 | cons x A ih =>
  have hx : x.1 ≠ uid := fun e => by
   have := h'.2.2 x (by simp) (uid,m) (by simp)
   simp only [] at this
   omega
  simp only [List.cons_append,putR,Bool.true_or]
  rw [ih (List.pairwise_cons.mp h).2 (List.pairwise_append.mp (List.pairwise_cons.mp h).2)]
  simp [hx]
theorem putR_set {uid n : Int} {A B : List (Int × Int)} {m : Int} (h : Asc (A ++ (uid,m) :: B)) : putR uid n false (A ++ (uid,m) :: B) = A ++ (uid,n) :: B := by
 have h' := List.pairwise_append.mp h
 have hB : ∀ p ∈ B,p.1 ≠ uid := fun p hp e => by
  have := (List.pairwise_cons.mp h'.2.1).1 p hp
  simp only [] at this
  omega
 induction A with
 | nil => simp only [List.nil_append,putR,Bool.false_or,Int.le_refl,decide_true]; rw [putR_true hB]; simp
 | cons x A ih =>
  have hx : x.1 < uid := by
   have := h'.2.2 x (by simp) (uid,m) (by simp)
   simpa using this
  simp only [List.cons_append,putR,Bool.false_or]
  rw [decide_eq_false (show ¬ uid ≤ x.1 by omega),ih (List.pairwise_cons.mp h).2 (List.pairwise_append.mp (List.pairwise_cons.mp h).2)]
  simp [show ¬ uid ≤ x.1 by omega,show ¬ x.1 = uid by omega]
theorem putR_new {uid n : Int} {A B : List (Int × Int)} (hA : ∀ p ∈ A,p.1 < uid) (hB : ∀ p ∈ B,uid < p.1) : putR uid n false (A ++ B) = A ++ (uid,n) :: B := by
 induction A with
 | nil =>
  cases B with
  | nil => rfl
  | cons x B =>
   have hx := hB x (by simp)
   simp only [List.nil_append,putR,Bool.false_or]
   rw [decide_eq_true (show uid ≤ x.1 by omega),putR_true fun p hp e => by have := hB p (by simp [hp]); omega]
   simp [show uid ≤ x.1 by omega,show ¬ x.1 = uid by omega]
 | cons x A ih =>
  have hx := hA x (by simp)
  simp only [List.cons_append,putR,Bool.false_or]
  rw [decide_eq_false (show ¬ uid ≤ x.1 by omega),ih fun p hp => hA p (by simp [hp])]
  simp [show ¬ uid ≤ x.1 by omega,show ¬ x.1 = uid by omega]
theorem putR_lenT {uid n : Int} : ∀ (l : List (Int × Int)),(putR uid n true l).length ≤ l.length
 | [] => by simp [putR]
 | x :: l => by
  have := putR_lenT (uid := uid) (n := n) l
  by_cases h2 : x.1 = uid
  ·simp [putR,h2]; omega
  ·simp [putR,h2]; omega
theorem putR_len {uid n : Int} : ∀ (b : Bool) (l : List (Int × Int)),(putR uid n b l).length ≤ l.length + 1
 | true,l => Nat.le_succ_of_le (putR_lenT l)
 | false,[] => by simp [putR]
 | false,x :: l => by
  have h1 := putR_lenT (uid := uid) (n := n) l
  have h3 := putR_len (uid := uid) (n := n) false l
  by_cases h : uid ≤ x.1
  ·by_cases h2 : x.1 = uid
   ·simp [putR,h,h2]; omega
   ·simp [putR,h,h2]; omega
  ·have h2 : ¬ x.1 = uid := by omega
   simp [putR,h,h2]; omega
theorem putR_mem {uid n : Int} {p : Int × Int} : ∀ {b : Bool} {l : List (Int × Int)},p ∈ putR uid n b l → p = (uid,n) ∨ p ∈ l
 | b,[],h => by cases b <;> simp [putR] at h; exact .inl h
 | b,x :: l,h => by
  simp only [putR,List.mem_append] at h
  rcases h with h | h | h
  ·split at h
   ·simp at h; exact .inl h
   ·simp at h
  ·split at h
   ·simp at h
   ·simp at h; exact .inr (by simp [h])
  ·rcases putR_mem h with q | q
   ·exact .inl q
   ·exact .inr (by simp [q])
theorem YU.f_of {β : Type} {k a0 z0} (h : YU.t k a0 = some z0) (K : Bool → Option β) : YU.f k a0 K = K z0 := by unfold YU.f; rw [h]; rfl
def textB (s : BA) : Bool := (List.range s.size).all fun i => inB (bS s (i : Int)) 32 126
theorem l4Text_fv {s : BA} (g : s.size ≤ lim) {k : Nat} (hk : Fuel k) {β : Type} (K : Bool → Option β) : YU.f k s K = K (textB s && decide ((s.size : Int) ≤ 100)) := YU.f_of (by
 have hlim : lim = 1048576 := rfl
 have hb : big = 2 ^ 64 := rfl
 unfold YU.t YU.g textB
 rw [iter_all0 (n := s.size) (fun i => inB (bS s (i : Int)) 32 126) (r1 := some false) (r2 := some (decide ((s.size : Int) ≤ 100))) (by unfold Fuel at hk; omega)]
 ·generalize List.all _ _ = x
  cases x <;> rfl
 ·intro L i hi
  simp (disch := omega) only [YU.l0,ZY (show (i : Int) < s.size by omega),cond_true,atStr_at,wrap_b,YaV,Z9]
  generalize inB _ _ _ = x
  cases x <;> rfl
 ·intro L
  simp [YU.l0]) K
theorem YR.f_of {β : Type} {k aA aB aC aI aH z0} (h : YR.t k aA aB aC aI aH = some z0) (K : Bool → Option β) : YR.f k aA aB aC aI aH K = K z0 := by unfold YR.f; rw [h]; rfl
theorem Yv.f_of {β : Type} {k aA aB aC aI aH a1 z0} (h : Yv.t k aA aB aC aI aH a1 = some z0) (K : Int → Option β) : Yv.f k aA aB aC aI aH a1 K = K z0 := by unfold Yv.f Yv.w; rw [h]; rfl
theorem Yv.tm {ι α : Type} {ok : ι → Prop} {ψ : α → Prop} {p : ι → Nat} {B : Nat} (hp : ∀ i,ok i → B ≤ p i) {aA aB aC aI aH a1 φ} (h : Tm (fun k => B ≤ k) (fun k => Yv.t k aA aB aC aI aH a1) φ) {G : ι → Int → Option α} (hG : ∀ z0,φ z0 → Tm ok (fun i => G i z0) ψ) : Tm ok (fun i => Yv.f (p i) aA aB aC aI aH a1 (G i)) ψ := bd1_tm (t := fun k => Yv.t k aA aB aC aI aH a1) hp h hG
set_option maxRecDepth 100000 in
theorem l4Keys_fv {c0 : Int} {c1 : BA} {c2 : Int} {c3 c4 : LD} (g : ZB RS lim c3) {k : Nat} (hk : Fuel k) {β : Type} (K : Bool → Option β) : YR.f k c0 c1 c2 c3 c4 K = K (namesB c3 && (c3.length : Int) == (c4.length : Int)) := YR.f_of (by
 have hl := g.1
 have hlim : lim = 1048576 := rfl
 have hb : big = 2 ^ 64 := rfl
 unfold YR.t YR.g
 rw [iter_all0 (n := c3.length) (fun i => Yj.v (gS c3 (i : Int) 0) && (!decide ((i : Int) > 0) || strLt (gS c3 ((i : Int) - 1) 0) (gS c3 (i : Int) 0))) (r1 := some false) (r2 := some ((c3.length : Int) == (c4.length : Int))) (by unfold Fuel at hk; omega)]
 ·unfold namesB
  generalize List.all _ _ = x
  cases x <;> rfl
 ·intro L i hi
  have k0 := (RS.get g (v := (i : Int)) (by omega) (by omega)).2.1
  simp (disch := omega) only [YR.l0,atR,rdQ,Q.ask,ZY (show (i : Int) < c3.length by omega),cond_true,RS.row g,Z4,ZaQ,Zan,Yj.fv k0 hk,Z9]
  by_cases h0 : (i : Int) > 0
  ·simp (disch := omega) only [ZY h0,cond_true,RS.row g,Z4,ZaQ,Zan]
   cases Yj.v (gS c3 (i : Int) 0) <;> cases strLt (gS c3 ((i : Int) - 1) 0) (gS c3 (i : Int) 0) <;> rfl
  ·simp only [ZZ h0,cond_false]
   cases Yj.v (gS c3 (i : Int) 0) <;> rfl
 ·intro L
  simp [YR.l0,atR,rdQ,Q.ask]) K
def bareText : BA := (⟨#[]⟩ : BA)
noncomputable def YaL (kind : Int) (text : BA) (num : Int) (keys kids : LD) : Bool :=
 bif kind == 1 then (keys.length : Int) == 0 && ((kids.length : Int) == 0 && (num == 0 && (textB text && decide ((text.size : Int) ≤ 100))))
 else bif kind == 2 then (keys.length : Int) == 0 && ((kids.length : Int) == 0 && Zae text bareText)
 else bif kind == 3 then (keys.length : Int) == 0 && ((kids.length : Int) == 0 && (Zae text bareText && inB num 0 1))
 else bif kind == 4 then (keys.length : Int) == 0 && (Zae text bareText && num == 0)
 else bif kind == 5 then (namesB keys && (keys.length : Int) == (kids.length : Int)) && (Zae text bareText && num == 0)
 else false
def sumL (f : List D → Int) : LD → Int → Int
 | [],n => n
 | r :: rs,n => if f r = 0 ∨ n + f r > 300 then 0 else sumL f rs (n + f r)
noncomputable def Yay : Nat → List D → Int
 | 0,_ => 0
 | d + 1,r => bif sumL (Yay d) (rL r 4) 1 == 0 then 0 else bif YaL (rI r 0) (rS r 1) (rI r 2) (rL r 3) (rL r 4) then sumL (Yay d) (rL r 4) 1 else 0
theorem sumL_range {f : List D → Int} (hf : ∀ r,0 ≤ f r) : ∀ {rs : LD} {n : Int},1 ≤ n → n ≤ 300 → 0 ≤ sumL f rs n ∧ sumL f rs n ≤ 300 ∧ (sumL f rs n ≠ 0 → n + rs.length ≤ 300)
 | [],n,h,h' => by simp only [sumL,List.length_nil]; omega
 | r :: rs,n,h,h' => by
  have := hf r
  simp only [sumL]
  split
  ·omega
  ·have := sumL_range hf (rs := rs) (n := n + f r) (by omega) (by omega)
   simp only [List.length_cons]
   omega
theorem YaS : ∀ (d : Nat) (r : List D),0 ≤ Yay d r ∧ Yay d r ≤ 300
 | 0,r => by simp [Yay]
 | d + 1,r => by
  have := sumL_range (f := Yay d) (fun r => (YaS d r).1) (rs := rL r 4) (n := 1) (by omega) (by omega)
  simp only [Yay]
  generalize sumL (Yay d) (rL r 4) 1 = n at *
  cases n == 0 <;> cases YaL (rI r 0) (rS r 1) (rI r 2) (rL r 3) (rL r 4) <;> simp <;> omega
set_option maxRecDepth 100000 in
theorem look_t (d : Nat) : ∀ {c0 : Int} {c1 : BA} {c2 : Int} {c3 c4 : LD},c1.size ≤ lim → ZB RS lim c3 → ZB Y0 lim c4 → d ≤ 6 → ∀ {k : Nat},big + d + 1 ≤ k → Yv.t k c0 c1 c2 c3 c4 (d : Int) = some (Yay d [.int .i64 c0,.str c1,.int .i64 c2,.sl c3,.sl c4]) := by
 have hlim : lim = 1048576 := rfl
 have hb : big = 2 ^ 64 := rfl
 induction d with
 | zero =>
  intro c0 c1 c2 c3 c4 g1 g3 g4 hd k hk
  cases k with
  | zero => omega
  | succ k => rfl
 | succ d ih =>
  intro c0 c1 c2 c3 c4 g1 g3 g4 hd k hk
  cases k with
  | zero => omega
  | succ k =>
  have hl := g4.1
  have hk0 : Fuel k := by unfold Fuel; omega
  rw [Yv.t_succ]
  unfold Yv.g Yv.body
  rw [show (((d + 1 : Nat) : Int) == 0) = false by rw [beq_eq_false_iff_ne]; omega,cond_false]
  have key := iter_val (b := Yv.l0 k (Yv.f k) ((d + 1 : Nat) : Int) c0 c1 c2 c3 c4 fun z0 => some z0) (fun v => ((c4.length : Int) - v.2).toNat) (fun v => 0 ≤ v.2 ∧ v.2 ≤ c4.length ∧ 1 ≤ v.1 ∧ v.1 ≤ 300)
   (fun v => bif sumL (Yay d) (c4.drop v.2.toNat) v.1 == 0 then some 0 else bif YaL c0 c1 c2 c3 c4 then some (sumL (Yay d) (c4.drop v.2.toNat) v.1) else some 0) ?_ k (1,0) (by simp only []; omega) (by simp only []; omega)
  ·rw [key]
   simp only [Yay]
   show (bif sumL (Yay d) (List.drop 0 c4) 1 == 0 then some 0 else bif YaL c0 c1 c2 c3 c4 then some (sumL (Yay d) (List.drop 0 c4) 1) else some 0) = some (bif sumL (Yay d) c4 1 == 0 then 0 else bif YaL c0 c1 c2 c3 c4 then sumL (Yay d) c4 1 else 0)
   rw [List.drop_zero]
   cases sumL (Yay d) c4 1 == 0 <;> cases YaL c0 c1 c2 c3 c4 <;> rfl
  ·rintro ⟨n,i⟩ ⟨i0,i1,n0,n1⟩ L hL
   simp only [] at i0 i1 n0 n1 hL ⊢
   by_cases hi : i < c4.length
   ·have hg := Y0.get g4 i0 hi
    have hr := YaS d (gR c4 i)
    have ih' := ih (c0 := gI c4 i 0) (c2 := gI c4 i 2) hg.2.2.1 hg.2.2.2.2.1 hg.2.2.2.2.2.1 (by omega) (k := k) (by omega)
    rw [← hg.1] at ih'
    simp (disch := omega) only [Yv.l0,atR,rdQ,Q.ask,ZY hi,cond_true,Y0.row g4,Z4,ZaQ,Z5,Zbl,Zan,Z9,show ((d + 1 : Nat) : Int) - 1 = (d : Int) by omega]
    rw [Yv.f_of ih',drop_gR i0 hi]
    simp only [sumL]
    by_cases hz : Yay d (gR c4 i) = 0
    ·rw [hz]
     simp
    ·rw [show (Yay d (gR c4 i) == 0) = false by rw [beq_eq_false_iff_ne]; exact hz,cond_false,Z9 (by omega) (by omega)]
     by_cases hn : n + Yay d (gR c4 i) > 300
     ·rw [ZY hn,if_pos (.inr hn)]
      rfl
     ·rw [ZZ hn,if_neg (by omega),cond_false,hL _ ⟨by simp only []; omega,by simp only []; omega,by simp only []; omega,by simp only []; omega⟩ (by simp only []; omega)]
   ·rw [drop_end (by omega)]
    simp only [Yv.l0,atR,rdQ,Q.ask,ZZ hi,cond_false,sumL,l4Keys_fv g3 hk0,YaV,l4Text_fv g1 hk0]
    rw [show (n == 0) = false by rw [beq_eq_false_iff_ne]; omega,cond_false]
    unfold YaL
    generalize (textB c1 && decide ((c1.size : Int) ≤ 100)) = b1
    generalize hb2 : Zae c1 (⟨#[]⟩ : BA) = b2
    have hb3 : Zae c1 bareText = b2 := hb2
    rw [hb3]
    generalize namesB c3 = b3
    generalize inB c2 0 1 = b4
    generalize (c2 == 0) = b5
    generalize ((c4.length : Int) == 0) = b6
    generalize ((c3.length : Int) == (c4.length : Int)) = b7
    generalize ((c3.length : Int) == 0) = b8
    rcases ZaM c0 with rfl | rfl | rfl | rfl | rfl | ⟨e1,e2,e3,e4,e5⟩
    ·cases b1 <;> cases b5 <;> cases b6 <;> cases b8 <;> rfl
    ·cases b2 <;> cases b6 <;> cases b8 <;> rfl
    ·cases b2 <;> cases b4 <;> cases b6 <;> cases b8 <;> rfl
    ·cases b2 <;> cases b5 <;> cases b8 <;> rfl
    ·cases b2 <;> cases b3 <;> cases b5 <;> cases b7 <;> cases b8 <;> rfl
    ·cases b8 <;> simp only [e1,e2,e3,e4,e5,cond_false,cond_true]
theorem look_fv {d c0 : Int} {c1 : BA} {c2 : Int} {c3 c4 : LD} (hd0 : 0 ≤ d) (hd : d ≤ 6) (g1 : c1.size ≤ lim) (g3 : ZB RS lim c3) (g4 : ZB Y0 lim c4) {k : Nat} (hk : Zai 1 k) {β : Type} (K : Int → Option β) : Yv.f k c0 c1 c2 c3 c4 d K = K (Yay d.toNat [.int .i64 c0,.str c1,.int .i64 c2,.sl c3,.sl c4]) := by
 have hb : big = 2 ^ 64 := rfl
 have h1 : lv 1 = 2 ^ 65 := rfl
 obtain ⟨n,rfl⟩ : ∃ n : Nat,d = n := ⟨d.toNat,by omega⟩
 exact Yv.f_of (look_t n g1 g3 g4 (by omega) (by unfold Zai at hk; omega)) K
theorem Yv.T {aA : Int} {aB : BA} {aC : Int} {aI aH : LD} {a1 : Int} (h0 : 0 ≤ a1) (h1 : a1 ≤ 6) (g1 : aB.size ≤ lim) (g3 : ZB RS lim aI) (g4 : ZB Y0 lim aH) : Tm (Zai 1) (fun k => Yv.t k aA aB aC aI aH a1) (fun _ => True) := by
 have hb : big = 2 ^ 64 := rfl
 have h2 : lv 1 = 2 ^ 65 := rfl
 obtain ⟨n,rfl⟩ : ∃ n : Nat,a1 = n := ⟨a1.toNat,by omega⟩
 exact Tm.of (fun k hk => look_t n g1 g3 g4 (by omega) (by omega)) trivial
theorem Y6.f_of {β : Type} {k aA aB aC aI aH z0} (h : Y6.t k aA aB aC aI aH = some z0) (K : Bool → Option β) : Y6.f k aA aB aC aI aH K = K z0 := by unfold Y6.f; rw [h]; rfl
theorem Y6.tm {ι α : Type} {ok : ι → Prop} {ψ : α → Prop} {p : ι → Nat} {B : Nat} (hp : ∀ i,ok i → B ≤ p i) {aA aB aC aI aH φ} (h : Tm (fun k => B ≤ k) (fun k => Y6.t k aA aB aC aI aH) φ) {G : ι → Bool → Option α} (hG : ∀ z0,φ z0 → Tm ok (fun i => G i z0) ψ) : Tm ok (fun i => Y6.f (p i) aA aB aC aI aH (G i)) ψ := bd1_tm (t := fun k => Y6.t k aA aB aC aI aH) hp h hG
theorem Y6.T {aA : Int} {aB : BA} {aC : Int} {aI aH : LD} (ga0_1 : aB.size ≤ lim) (ga0_3 : ZB RS lim aI) (ga0_4 : ZB Y0 lim aH) : Tm (Zai 1) (fun k => Y6.t k aA aB aC aI aH) (fun _ => True) := by
 unfold Y6.t Y6.g
 have hm := maxLen_eq
 have hlim : lim = 1048576 := rfl
 have la0_3 := ga0_3.1
 have la0_4 := ga0_4.1
 refine Yv.tm (fun i hi => hi) (Yv.T (by first | assumption | omega) (by first | assumption | omega) (by first | assumption | omega) (by first | assumption | omega) (by first | assumption | omega)) (fun y2 hy1 => ?_)
 exact Tm.ret (by trivial)
theorem Yk.f_of {β : Type} {k a0 z0} (h : Yk.t k a0 = some z0) (K : Bool → Option β) : Yk.f k a0 K = K z0 := by unfold Yk.f; rw [h]; rfl
theorem Yk.tm {ι α : Type} {ok : ι → Prop} {ψ : α → Prop} {p : ι → Nat} {B : Nat} (hp : ∀ i,ok i → B ≤ p i) {a0 φ} (h : Tm (fun k => B ≤ k) (fun k => Yk.t k a0) φ) {G : ι → Bool → Option α} (hG : ∀ z0,φ z0 → Tm ok (fun i => G i z0) ψ) : Tm ok (fun i => Yk.f (p i) a0 (G i)) ψ := bd1_tm (t := fun k => Yk.t k a0) hp h hG
set_option maxRecDepth 100000 in
theorem Yk.T {a0 : LD} (ga0 : ZB Yg lim a0) : Tm (Zai 1) (fun k => Yk.t k a0) (fun _ => True) := by
 unfold Yk.t Yk.g
 have hm := maxLen_eq
 have hlim : lim = 1048576 := rfl
 have la0 := ga0.1
 refine Tm.loop (okk := (Zai 1)) (p := fun k => k) (fun i hi => up0 hi) (b := fun k => Yk.l0 k a0 (fun z0 => some z0)) (fun i => (((a0.length : Int)) - i).toNat) (fun i => 0 ≤ i ∧ i ≤ (a0.length : Int)) ?_ ?_ ?_
 ·rintro i hI
  try simp only [] at hI ⊢
  have : big = 2 ^ 64 := rfl
  omega
 ·((try simp only []); omega)
 ·rintro i hI L hL
  try simp only [] at hI
  obtain ⟨i0,i1⟩ := hI
  simp only [Yk.l0,atR,rdQ,Q.ask]
  refine Tm.ite (fun h1 => ?_) (fun h1 => ?_)
  ·try simp only [bz0,bz1,bz2,bz3,bz4,bz5,bz6,bz7,bz8,bz9,bza] at h1
   refine Tm.atRow (by first | assumption | omega) (by first | assumption | omega) (fun x2 hx3 hm4 => ?_)
   obtain ⟨c5,c6,c7,c8,c9,c10,c11,rfl,g12,g13,g14,g15,g16,g17,g18,_⟩ := (ga0.2 x2 hm4).open
   refine Tm.uncons ?_
   refine Tm.dInt ?_
   refine Tm.uncons ?_
   refine Tm.dInt ?_
   refine Tm.uncons ?_
   refine Tm.dInt ?_
   refine Tm.uncons ?_
   refine Tm.dStr ?_
   refine Tm.uncons ?_
   refine Tm.dInt ?_
   refine Tm.uncons ?_
   refine Tm.dSl ?_
   refine Tm.uncons ?_
   refine Tm.dSl ?_
   refine Tm.atEnd ?_
   refine YF.tm (fun i hi => up0 hi.1) (YF.T) (fun y20 hy19 => ?_)
   refine Tm.ite (fun h21 => ?_) (fun h21 => ?_)
   ·try simp only [bz0,bz1,bz2,bz3,bz4,bz5,bz6,bz7,bz8,bz9,bza] at h21
    exact Tm.ret (by trivial)
   ·try simp only [bz0,bz1,bz2,bz3,bz4,bz5,bz6,bz7,bz8,bz9,bza] at h21
    have z22 := hy19 h21
    refine YF.tm (fun i hi => up0 hi.1) (YF.T) (fun y24 hy23 => ?_)
    refine Tm.ite (fun h25 => ?_) (fun h25 => ?_)
    ·try simp only [bz0,bz1,bz2,bz3,bz4,bz5,bz6,bz7,bz8,bz9,bza] at h25
     exact Tm.ret (by trivial)
    ·try simp only [bz0,bz1,bz2,bz3,bz4,bz5,bz6,bz7,bz8,bz9,bza] at h25
     have z26 := hy23 h25
     refine Y6.tm (fun i hi => hi.1) (Y6.T (by first | assumption | omega) (by first | assumption | omega) (by first | assumption | omega)) (fun y28 hy27 => ?_)
     refine Tm.ite (fun h29 => ?_) (fun h29 => ?_)
     ·try simp only [bz0,bz1,bz2,bz3,bz4,bz5,bz6,bz7,bz8,bz9,bza] at h29
      exact Tm.ret (by trivial)
     ·try simp only [bz0,bz1,bz2,bz3,bz4,bz5,bz6,bz7,bz8,bz9,bza] at h29
      refine Tm.ite (fun h30 => ?_) (fun h30 => ?_)
      ·try simp only [bz0,bz1,bz2,bz3,bz4,bz5,bz6,bz7,bz8,bz9,bza] at h30
       try rw [Z9 (x := i - 1) (by omega) (by omega)]
       refine Tm.atRow (by first | assumption | omega) (by first | assumption | omega) (fun x31 hx32 hm33 => ?_)
       obtain ⟨c34,c35,c36,c37,c38,c39,c40,rfl,g41,g42,g43,g44,g45,g46,g47,_⟩ := (ga0.2 x31 hm33).open
       refine Tm.uncons ?_
       refine Tm.dInt ?_
       refine Tm.uncons ?_
       refine Tm.dInt ?_
       refine Tm.uncons ?_
       refine Tm.dInt ?_
       refine Tm.uncons ?_
       refine Tm.dStr ?_
       refine Tm.uncons ?_
       refine Tm.dInt ?_
       refine Tm.uncons ?_
       refine Tm.dSl ?_
       refine Tm.uncons ?_
       refine Tm.dSl ?_
       refine Tm.atEnd ?_
       refine Tm.ite (fun h48 => ?_) (fun h48 => ?_)
       ·try simp only [bz0,bz1,bz2,bz3,bz4,bz5,bz6,bz7,bz8,bz9,bza] at h48
        exact Tm.ret (by trivial)
       ·try simp only [bz0,bz1,bz2,bz3,bz4,bz5,bz6,bz7,bz8,bz9,bza] at h48
        try rw [Z9 (x := i + 1) (by omega) (by omega)]
        exact hL _ (by (try simp only []); omega) (by (try simp only []); omega)
      ·try simp only [bz0,bz1,bz2,bz3,bz4,bz5,bz6,bz7,bz8,bz9,bza] at h30
       try rw [Z9 (x := i + 1) (by omega) (by omega)]
       exact hL _ (by (try simp only []); omega) (by (try simp only []); omega)
  ·try simp only [bz0,bz1,bz2,bz3,bz4,bz5,bz6,bz7,bz8,bz9,bza] at h1
   exact Tm.ret (by trivial)
noncomputable def Yk.v (a0 : LD) : Bool := (Yk.t (lv 1) a0).getD default
theorem Yk.tv {a0 : LD} (ga0 : ZB Yg lim a0) {k : Nat} (hk : (Zai 1) k) : Yk.t k a0 = some (Yk.v a0) := (Yk.T ga0).val hk
theorem Yk.fv {a0 : LD} (ga0 : ZB Yg lim a0) {k : Nat} (hk : (Zai 1) k) {β : Type} (K : Bool → Option β) : Yk.f k a0 K = K (Yk.v a0) := Yk.f_of (Yk.tv ga0 hk) K
theorem YB.f_of {β : Type} {k a0 a1 z0} (h : YB.t k a0 a1 = some z0) (K : Bool → Option β) : YB.f k a0 a1 K = K z0 := by unfold YB.f; rw [h]; rfl
theorem YB.tm {ι α : Type} {ok : ι → Prop} {ψ : α → Prop} {p : ι → Nat} {B : Nat} (hp : ∀ i,ok i → B ≤ p i) {a0 a1 φ} (h : Tm (fun k => B ≤ k) (fun k => YB.t k a0 a1) φ) {G : ι → Bool → Option α} (hG : ∀ z0,φ z0 → Tm ok (fun i => G i z0) ψ) : Tm ok (fun i => YB.f (p i) a0 a1 (G i)) ψ := bd1_tm (t := fun k => YB.t k a0 a1) hp h hG
set_option maxRecDepth 100000 in
theorem YB.T {a0 : LD} {a1 : Int} (ga0 : ZB RII lim a0) : Tm Fuel (fun k => YB.t k a0 a1) (fun _ => True) := by
 unfold YB.t YB.g
 have hm := maxLen_eq
 have hlim : lim = 1048576 := rfl
 have la0 := ga0.1
 refine Tm.loop (okk := Fuel) (p := fun k => k) (fun i hi => hi) (b := fun k => YB.l0 k a0 a1 (fun z0 => some z0)) (fun i => (((a0.length : Int)) - i).toNat) (fun i => 0 ≤ i ∧ i ≤ (a0.length : Int)) ?_ ?_ ?_
 ·rintro i hI
  try simp only [] at hI ⊢
  have : big = 2 ^ 64 := rfl
  omega
 ·((try simp only []); omega)
 ·rintro i hI L hL
  try simp only [] at hI
  obtain ⟨i0,i1⟩ := hI
  simp only [YB.l0,atR,rdQ,Q.ask]
  refine Tm.ite (fun h1 => ?_) (fun h1 => ?_)
  ·try simp only [bz0,bz1,bz2,bz3,bz4,bz5,bz6,bz7,bz8,bz9,bza] at h1
   refine Tm.atRow (by first | assumption | omega) (by first | assumption | omega) (fun x2 hx3 hm4 => ?_)
   obtain ⟨c5,c6,rfl,g7,g8,_⟩ := (ga0.2 x2 hm4).open
   refine Tm.uncons ?_
   refine Tm.dInt ?_
   refine Tm.uncons ?_
   refine Tm.dInt ?_
   refine Tm.atEnd ?_
   refine YF.tm (fun i hi => hi.1) (YF.T) (fun y10 hy9 => ?_)
   refine Tm.ite (fun h11 => ?_) (fun h11 => ?_)
   ·try simp only [bz0,bz1,bz2,bz3,bz4,bz5,bz6,bz7,bz8,bz9,bza] at h11
    exact Tm.ret (by trivial)
   ·try simp only [bz0,bz1,bz2,bz3,bz4,bz5,bz6,bz7,bz8,bz9,bza] at h11
    have z12 := hy9 h11
    refine Tm.atRow (by first | assumption | omega) (by first | assumption | omega) (fun x13 hx14 hm15 => ?_)
    rw [hx3] at hx14
    injection hx14 with hx14
    subst hx14
    refine Tm.uncons ?_
    refine Tm.dInt ?_
    refine Tm.uncons ?_
    refine Tm.dInt ?_
    refine Tm.atEnd ?_
    refine YF.tm (fun i hi => hi.1) (YF.T) (fun y19 hy18 => ?_)
    refine Tm.ite (fun h20 => ?_) (fun h20 => ?_)
    ·try simp only [bz0,bz1,bz2,bz3,bz4,bz5,bz6,bz7,bz8,bz9,bza] at h20
     exact Tm.ret (by trivial)
    ·try simp only [bz0,bz1,bz2,bz3,bz4,bz5,bz6,bz7,bz8,bz9,bza] at h20
     have z21 := hy18 h20
     refine Tm.ite (fun h22 => ?_) (fun h22 => ?_)
     ·try simp only [bz0,bz1,bz2,bz3,bz4,bz5,bz6,bz7,bz8,bz9,bza] at h22
      try rw [Z9 (x := i - 1) (by omega) (by omega)]
      refine Tm.atRow (by first | assumption | omega) (by first | assumption | omega) (fun x23 hx24 hm25 => ?_)
      obtain ⟨c26,c27,rfl,g28,g29,_⟩ := (ga0.2 x23 hm25).open
      refine Tm.uncons ?_
      refine Tm.dInt ?_
      refine Tm.uncons ?_
      refine Tm.dInt ?_
      refine Tm.atEnd ?_
      refine Tm.atRow (by first | assumption | omega) (by first | assumption | omega) (fun x30 hx31 hm32 => ?_)
      rw [hx3] at hx31
      injection hx31 with hx31
      subst hx31
      refine Tm.uncons ?_
      refine Tm.dInt ?_
      refine Tm.uncons ?_
      refine Tm.dInt ?_
      refine Tm.atEnd ?_
      refine Tm.ite (fun h35 => ?_) (fun h35 => ?_)
      ·try simp only [bz0,bz1,bz2,bz3,bz4,bz5,bz6,bz7,bz8,bz9,bza] at h35
       exact Tm.ret (by trivial)
      ·try simp only [bz0,bz1,bz2,bz3,bz4,bz5,bz6,bz7,bz8,bz9,bza] at h35
       try rw [Z9 (x := i + 1) (by omega) (by omega)]
       exact hL _ (by (try simp only []); omega) (by (try simp only []); omega)
     ·try simp only [bz0,bz1,bz2,bz3,bz4,bz5,bz6,bz7,bz8,bz9,bza] at h22
      try rw [Z9 (x := i + 1) (by omega) (by omega)]
      exact hL _ (by (try simp only []); omega) (by (try simp only []); omega)
  ·try simp only [bz0,bz1,bz2,bz3,bz4,bz5,bz6,bz7,bz8,bz9,bza] at h1
   exact Tm.ret (by trivial)
def runP (xs : LD) (low : Int) (i : Nat) : Bool := inB (gI xs (i : Int) 0) 1 1000000 && (inB (gI xs (i : Int) 1) low 10000 && (!decide ((i : Int) > 0) || !decide (gI xs ((i : Int) - 1) 0 ≥ gI xs (i : Int) 0)))
def runsB (xs : LD) (low : Int) : Bool := (List.range xs.length).all fun i => runP xs low i
set_option maxRecDepth 100000 in
theorem l11Runs_fv {a : LD} {low : Int} (g : ZB RII lim a) {k : Nat} (hk : Fuel k) {β : Type} (K : Bool → Option β) : YB.f k a low K = K (runsB a low && decide ((a.length : Int) ≤ 80)) := YB.f_of (by
 have hl := g.1
 have hlim : lim = 1048576 := rfl
 have hb : big = 2 ^ 64 := rfl
 unfold YB.t YB.g
 rw [iter_all0 (n := a.length) (runP a low) (r1 := some false) (r2 := some (decide ((a.length : Int) ≤ 80))) (by unfold Fuel at hk; omega)]
 ·unfold runsB
  generalize List.all _ _ = x
  cases x <;> rfl
 ·intro L i hi
  unfold runP
  simp (disch := omega) only [YB.l0,atR,rdQ,Q.ask,ZY (show (i : Int) < a.length by omega),cond_true,RII.row g,Z4,Z5,Zan,YaV,Z9]
  by_cases h0 : (i : Int) > 0
  ·simp (disch := omega) only [ZY h0,cond_true,RII.row g,Z4,Z5,Zan]
   cases inB (gI a (i : Int) 0) 1 1000000 <;> cases inB (gI a (i : Int) 1) low 10000 <;> cases decide (gI a ((i : Int) - 1) 0 ≥ gI a (i : Int) 0) <;> rfl
  ·simp only [ZZ h0,cond_false]
   cases inB (gI a (i : Int) 0) 1 1000000 <;> cases inB (gI a (i : Int) 1) low 10000 <;> rfl
 ·intro L
  simp [YB.l0,atR,rdQ,Q.ask]) K
theorem Yt.f_of {β : Type} {k a0 z0} (h : Yt.t k a0 = some z0) (K : Int → Option β) : Yt.f k a0 K = K z0 := by unfold Yt.f; rw [h]; rfl
theorem Yt.tm {ι α : Type} {ok : ι → Prop} {ψ : α → Prop} {p : ι → Nat} {B : Nat} (hp : ∀ i,ok i → B ≤ p i) {a0 φ} (h : Tm (fun k => B ≤ k) (fun k => Yt.t k a0) φ) {G : ι → Int → Option α} (hG : ∀ z0,φ z0 → Tm ok (fun i => G i z0) ψ) : Tm ok (fun i => Yt.f (p i) a0 (G i)) ψ := bd1_tm (t := fun k => Yt.t k a0) hp h hG
set_option maxRecDepth 100000 in
theorem Yt.T {a0 : LD} (ga0 : ZB RII lim a0) : Tm Fuel (fun k => Yt.t k a0) (fun _ => True) := by
 unfold Yt.t Yt.g
 have hm := maxLen_eq
 have hlim : lim = 1048576 := rfl
 have la0 := ga0.1
 refine Tm.loop (okk := Fuel) (p := fun k => k) (fun i hi => hi) (b := fun k => Yt.l0 k a0 (fun z0 => some z0)) (fun v => match v with | (u0,i) => (((a0.length : Int)) - i).toNat) (fun v => match v with | (u0,i) => 0 ≤ i ∧ i ≤ (a0.length : Int)) ?_ ?_ ?_
 ·rintro ⟨u0,i⟩ hI
  try simp only [] at hI ⊢
  have : big = 2 ^ 64 := rfl
  omega
 ·((try simp only []); omega)
 ·rintro ⟨u0,i⟩ hI L hL
  try simp only [] at hI
  obtain ⟨i0,i1⟩ := hI
  simp only [Yt.l0,atR,rdQ,Q.ask]
  refine Tm.ite (fun h1 => ?_) (fun h1 => ?_)
  ·try simp only [bz0,bz1,bz2,bz3,bz4,bz5,bz6,bz7,bz8,bz9,bza] at h1
   refine Tm.atRow (by first | assumption | omega) (by first | assumption | omega) (fun x2 hx3 hm4 => ?_)
   obtain ⟨c5,c6,rfl,g7,g8,_⟩ := (ga0.2 x2 hm4).open
   refine Tm.uncons ?_
   refine Tm.dInt ?_
   refine Tm.uncons ?_
   refine Tm.dInt ?_
   refine Tm.atEnd ?_
   try rw [Z9 (x := u0 + c6) (by omega) (by omega)]
   try rw [Z9 (x := i + 1) (by omega) (by omega)]
   exact hL _ (by (try simp only []); omega) (by (try simp only []); omega)
  ·try simp only [bz0,bz1,bz2,bz3,bz4,bz5,bz6,bz7,bz8,bz9,bza] at h1
   exact Tm.ret (by trivial)
noncomputable def Yt.v (a0 : LD) : Int := (Yt.t big a0).getD default
theorem Yt.tv {a0 : LD} (ga0 : ZB RII lim a0) {k : Nat} (hk : Fuel k) : Yt.t k a0 = some (Yt.v a0) := (Yt.T ga0).val hk
theorem Yt.fv {a0 : LD} (ga0 : ZB RII lim a0) {k : Nat} (hk : Fuel k) {β : Type} (K : Int → Option β) : Yt.f k a0 K = K (Yt.v a0) := Yt.f_of (Yt.tv ga0 hk) K
theorem YD.f_of {β : Type} {k aA aB aC aI aH z0} (h : YD.t k aA aB aC aI aH = some z0) (K : Bool → Option β) : YD.f k aA aB aC aI aH K = K z0 := by unfold YD.f; rw [h]; rfl
theorem YD.T {aA : BA} {aB aC : Int} {aI aH : LD} (ga0_0 : aA.size ≤ lim) (ga0_3 : ZB Yg lim aI) (ga0_4 : ZB RII lim aH) : Tm (Zai 1) (fun k => YD.t k aA aB aC aI aH) (fun _ => True) := by
 unfold YD.t YD.g
 have hm := maxLen_eq
 have hlim : lim = 1048576 := rfl
 have la0_3 := ga0_3.1
 have la0_4 := ga0_4.1
 refine Yj.tm (fun i hi => up0 hi) (Yj.T (by first | assumption | omega)) (fun y2 hy1 => ?_)
 refine Tm.ite (fun h3 => ?_) (fun h3 => ?_)
 ·try simp only [bz0,bz1,bz2,bz3,bz4,bz5,bz6,bz7,bz8,bz9,bza] at h3
  refine YF.tm (fun i hi => up0 hi) (YF.T) (fun y5 hy4 => ?_)
  refine Tm.ite (fun h6 => ?_) (fun h6 => ?_)
  ·try simp only [bz0,bz1,bz2,bz3,bz4,bz5,bz6,bz7,bz8,bz9,bza] at h6
   have z7 := hy4 h6
   refine YF.tm (fun i hi => up0 hi) (YF.T) (fun y9 hy8 => ?_)
   refine Tm.ite (fun h10 => ?_) (fun h10 => ?_)
   ·try simp only [bz0,bz1,bz2,bz3,bz4,bz5,bz6,bz7,bz8,bz9,bza] at h10
    have z11 := hy8 h10
    refine Yk.tm (fun i hi => hi) (Yk.T (by first | assumption | omega)) (fun y13 hy12 => ?_)
    refine Tm.ite (fun h14 => ?_) (fun h14 => ?_)
    ·try simp only [bz0,bz1,bz2,bz3,bz4,bz5,bz6,bz7,bz8,bz9,bza] at h14
     refine YB.tm (fun i hi => up0 hi) (YB.T (by first | assumption | omega)) (fun y16 hy15 => ?_)
     refine Tm.ite (fun h17 => ?_) (fun h17 => ?_)
     ·try simp only [bz0,bz1,bz2,bz3,bz4,bz5,bz6,bz7,bz8,bz9,bza] at h17
      refine Yt.tm (fun i hi => up0 hi) (Yt.T (by first | assumption | omega)) (fun y19 hy18 => ?_)
      exact Tm.ret (by trivial)
     ·try simp only [bz0,bz1,bz2,bz3,bz4,bz5,bz6,bz7,bz8,bz9,bza] at h17
      exact Tm.ret (by trivial)
    ·try simp only [bz0,bz1,bz2,bz3,bz4,bz5,bz6,bz7,bz8,bz9,bza] at h14
     exact Tm.ret (by trivial)
   ·try simp only [bz0,bz1,bz2,bz3,bz4,bz5,bz6,bz7,bz8,bz9,bza] at h10
    exact Tm.ret (by trivial)
  ·try simp only [bz0,bz1,bz2,bz3,bz4,bz5,bz6,bz7,bz8,bz9,bza] at h6
   exact Tm.ret (by trivial)
 ·try simp only [bz0,bz1,bz2,bz3,bz4,bz5,bz6,bz7,bz8,bz9,bza] at h3
  exact Tm.ret (by trivial)
noncomputable def YD.v (aA : BA) (aB aC : Int) (aI aH : LD) : Bool := (YD.t (lv 1) aA aB aC aI aH).getD default
theorem YD.tv {aA : BA} {aB aC : Int} {aI aH : LD} (ga0_0 : aA.size ≤ lim) (ga0_3 : ZB Yg lim aI) (ga0_4 : ZB RII lim aH) {k : Nat} (hk : (Zai 1) k) : YD.t k aA aB aC aI aH = some (YD.v aA aB aC aI aH) := (YD.T ga0_0 ga0_3 ga0_4).val hk
theorem YD.fv {aA : BA} {aB aC : Int} {aI aH : LD} (ga0_0 : aA.size ≤ lim) (ga0_3 : ZB Yg lim aI) (ga0_4 : ZB RII lim aH) {k : Nat} (hk : (Zai 1) k) {β : Type} (K : Bool → Option β) : YD.f k aA aB aC aI aH K = K (YD.v aA aB aC aI aH) := YD.f_of (YD.tv ga0_0 ga0_3 ga0_4 hk) K
theorem Yar.f_of {β : Type} {k : Nat} {aA : BA} {aB aC : Int} {aI aH : LD} {a1 : Int} {a2 : LD} {z0 : BA} {z1 z2 : Int} {z3 z4 : LC} {z5 : Bool} (h : Yar.t k aA aB aC aI aH a1 a2 = some (z0,z1,z2,z3,z4,z5)) (K : BA → Int → Int → LC → LC → Bool → Option β) : Yar.f k aA aB aC aI aH a1 a2 K = K z0 z1 z2 z3 z4 z5 := by
 unfold Yar.f
 rw [h]
theorem Yu.f_of {β : Type} {k aA aB aC aI aH a1 z0} (h : Yu.t k aA aB aC aI aH a1 = some z0) (K : Int → Option β) : Yu.f k aA aB aC aI aH a1 K = K z0 := by unfold Yu.f; rw [h]; rfl
set_option maxRecDepth 100000 in
theorem Yu.T {aA : BA} {aB aC : Int} {aI aH : LD} {a1 : Int} (ga0_0 : aA.size ≤ lim) (ga0_3 : ZB Yg lim aI) (ga0_4 : ZB RII lim aH) : Tm Fuel (fun k => Yu.t k aA aB aC aI aH a1) (fun _ => True) := by
 unfold Yu.t Yu.g
 have hm := maxLen_eq
 have hlim : lim = 1048576 := rfl
 have la0_3 := ga0_3.1
 have la0_4 := ga0_4.1
 refine Tm.loop (okk := Fuel) (p := fun k => k) (fun i hi => hi) (b := fun k => Yu.l0 k a1 aA aB aC aI aH (fun z0 => some z0)) (fun i => (((aI.length : Int)) - i).toNat) (fun i => 0 ≤ i ∧ i ≤ (aI.length : Int)) ?_ ?_ ?_
 ·rintro i hI
  try simp only [] at hI ⊢
  have : big = 2 ^ 64 := rfl
  omega
 ·((try simp only []); omega)
 ·rintro i hI L hL
  try simp only [] at hI
  obtain ⟨i0,i1⟩ := hI
  simp only [Yu.l0,atR,rdQ,Q.ask]
  refine Tm.ite (fun h1 => ?_) (fun h1 => ?_)
  ·try simp only [bz0,bz1,bz2,bz3,bz4,bz5,bz6,bz7,bz8,bz9,bza] at h1
   refine Tm.atRow (by first | assumption | omega) (by first | assumption | omega) (fun x2 hx3 hm4 => ?_)
   obtain ⟨c5,c6,c7,c8,c9,c10,c11,rfl,g12,g13,g14,g15,g16,g17,g18,_⟩ := (ga0_3.2 x2 hm4).open
   refine Tm.uncons ?_
   refine Tm.dInt ?_
   refine Tm.uncons ?_
   refine Tm.dInt ?_
   refine Tm.uncons ?_
   refine Tm.dInt ?_
   refine Tm.uncons ?_
   refine Tm.dStr ?_
   refine Tm.uncons ?_
   refine Tm.dInt ?_
   refine Tm.uncons ?_
   refine Tm.dSl ?_
   refine Tm.uncons ?_
   refine Tm.dSl ?_
   refine Tm.atEnd ?_
   refine Tm.ite (fun h19 => ?_) (fun h19 => ?_)
   ·try simp only [bz0,bz1,bz2,bz3,bz4,bz5,bz6,bz7,bz8,bz9,bza] at h19
    refine Tm.atRow (by first | assumption | omega) (by first | assumption | omega) (fun x20 hx21 hm22 => ?_)
    rw [hx3] at hx21
    injection hx21 with hx21
    subst hx21
    refine Tm.uncons ?_
    refine Tm.dInt ?_
    refine Tm.uncons ?_
    refine Tm.dInt ?_
    refine Tm.uncons ?_
    refine Tm.dInt ?_
    refine Tm.uncons ?_
    refine Tm.dStr ?_
    refine Tm.uncons ?_
    refine Tm.dInt ?_
    refine Tm.uncons ?_
    refine Tm.dSl ?_
    refine Tm.uncons ?_
    refine Tm.dSl ?_
    refine Tm.atEnd ?_
    exact Tm.ret (by trivial)
   ·try simp only [bz0,bz1,bz2,bz3,bz4,bz5,bz6,bz7,bz8,bz9,bza] at h19
    try rw [Z9 (x := i + 1) (by omega) (by omega)]
    exact hL _ (by (try simp only []); omega) (by (try simp only []); omega)
  ·try simp only [bz0,bz1,bz2,bz3,bz4,bz5,bz6,bz7,bz8,bz9,bza] at h1
   exact Tm.ret (by trivial)
noncomputable def Yu.v (aA : BA) (aB aC : Int) (aI aH : LD) (a1 : Int) : Int := (Yu.t big aA aB aC aI aH a1).getD default
theorem Yu.tv {aA : BA} {aB aC : Int} {aI aH : LD} {a1 : Int} (ga0_0 : aA.size ≤ lim) (ga0_3 : ZB Yg lim aI) (ga0_4 : ZB RII lim aH) {k : Nat} (hk : Fuel k) : Yu.t k aA aB aC aI aH a1 = some (Yu.v aA aB aC aI aH a1) := (Yu.T ga0_0 ga0_3 ga0_4).val hk
theorem Yu.fv {aA : BA} {aB aC : Int} {aI aH : LD} {a1 : Int} (ga0_0 : aA.size ≤ lim) (ga0_3 : ZB Yg lim aI) (ga0_4 : ZB RII lim aH) {k : Nat} (hk : Fuel k) {β : Type} (K : Int → Option β) : Yu.f k aA aB aC aI aH a1 K = K (Yu.v aA aB aC aI aH a1) := Yu.f_of (Yu.tv ga0_0 ga0_3 ga0_4 hk) K
theorem YM.f_of {β : Type} {k aA aB aC aI aH z0} (h : YM.t k aA aB aC aI aH = some z0) (K : Int → Option β) : YM.f k aA aB aC aI aH K = K z0 := by unfold YM.f; rw [h]; rfl
theorem YV.f_of {β : Type} {k a0 a1 a2 z0} (h : YV.t k a0 a1 a2 = some z0) (K : LC → Option β) : YV.f k a0 a1 a2 K = K z0 := by unfold YV.f; rw [h]; rfl
theorem YX.f_of {β : Type} {k a0 a1 z0 z1} (h : YX.t k a0 a1 = some (z0,z1)) (K : Int → Bool → Option β) : YX.f k a0 a1 K = K z0 z1 := by unfold YX.f; rw [h]; rfl
theorem Y8.f_of {β : Type} {k : Nat} {aA : BA} {aB aC : Int} {aI aH : LD} {z0 : BA} {z1 z2 : Int} {z3 z4 : LC} {z5 z6 : Int} (h : Y8.t k aA aB aC aI aH = some (z0,z1,z2,z3,z4,z5,z6)) (K : BA → Int → Int → LC → LC → Int → Int → Option β) : Y8.f k aA aB aC aI aH K = K z0 z1 z2 z3 z4 z5 z6 := by
 unfold Y8.f
 rw [h]
theorem Yab.f_of {β : Type} {k aA aB aC z0 z1 z2 z3} (h : Yab.t k aA aB aC = some (z0,z1,z2,z3)) (K : BA → LD → Int → Int → Option β) : Yab.f k aA aB aC K = K z0 z1 z2 z3 := by unfold Yab.f; rw [h]; rfl
theorem Yr.f_of {β : Type} {k : Nat} {aA : LD} {aB aC aV : Int} {aW : BA} {bA : Int} {bB bC : LD} {z0 : Int} {z1 : BA} {z2 : Int} {z3 z4 : LC} {z5 : LD} {z6 z7 : Int} (h : Yr.t k aA aB aC aV aW bA bB bC = some (z0,z1,z2,z3,z4,z5,z6,z7)) (K : Int → BA → Int → LC → LC → LD → Int → Int → Option β) : Yr.f k aA aB aC aV aW bA bB bC K = K z0 z1 z2 z3 z4 z5 z6 z7 := by
 unfold Yr.f
 unfold Yr.w
 rw [h]
theorem nameAny2_ex {b : LD} {i h : Int} {k : Nat} (c : Cur b i) : ∃ s i' h',s.size ≤ lim ∧ Cur b i' ∧ Yab.t k b i h = some (s,b,i',h') := by
 unfold Yab.t Yab.g
 obtain ⟨x,i1,h1,hc1,e1⟩ := once_ex (k := k) (h := h) (n := 8) c
 rw [Y7.f_of e1]
 cases x
 ·obtain ⟨s,i2,h2,gs,hc2,e2⟩ := name_ex (k := k) (h := h1) hc1
  rw [cond_false,Yae.f_of e2]
  exact ⟨_,_,_,gs,hc2,rfl⟩
 ·have hstr : ∀ r ∈ ([[.str (⟨#[]⟩ : BA)],[.str (⟨#[45,97]⟩ : BA)],[.str (⟨#[97,45]⟩ : BA)],[.str (⟨#[65]⟩ : BA)],[.str (⟨#[97,32,98]⟩ : BA)],[.str (⟨#[97,98,99,100,101,102,103,104,105,106,107,108,109,110,111,112,113,114,115,116,117]⟩ : BA)],[.str (⟨#[255]⟩ : BA)],[.str (⟨#[97,61,98]⟩ : BA)]] : LD),RS lim r := by
   intro r hr
   simp only [List.mem_cons,List.not_mem_nil,or_false] at hr
   rcases hr with rfl | rfl | rfl | rfl | rfl | rfl | rfl | rfl <;> exact ⟨_,rfl,by decide,trivial⟩
  obtain ⟨j,i2,h2,j0,j1,hc2,e2⟩ := str_ex (k := k) (h := h1) hc1 hstr (by decide)
  rw [cond_true,YY.f_of e2]
  exact ⟨_,_,_,(RS.gets hstr j0 j1).2.1,hc2,rfl⟩
theorem cells_map : ∀ (l : List C),C.immCells l = l.map C.imm
 | [] => rfl
 | x :: l => by simp only [C.immCells,List.map_cons,cells_map l]
theorem rows_map : ∀ (l : LC),C.immRows l = l.map C.immCells
 | [] => rfl
 | x :: l => by simp only [C.immRows,List.map_cons,rows_map l]
theorem flat_imm (X : LC) : Zb6 X = (C.immRows X).map (·.map C.d) := by
 unfold Zb6
 rw [rows_map,List.map_map]
 refine List.map_congr_left fun c _ => ?_
 simp only [Function.comp,cells_map,List.map_map]
 rfl
theorem modify_rows {X : LC} {j : Nat} {f : List C → List C} {r : List D} (h : r ∈ C.immRows (X.modify j f)) : r ∈ C.immRows X ∨ ∃ c,X[j]? = some c ∧ r = C.immCells (f c) := by
 rw [rows_map] at h ⊢
 obtain ⟨c,hc,rfl⟩ := List.mem_map.mp h
 obtain ⟨i,hi⟩ := List.mem_iff_getElem?.mp hc
 rw [List.getElem?_modify] at hi
 by_cases e : j = i
 ·subst e
  cases hx : X[j]? with
  | none => rw [hx] at hi; cases hi
  | some c' =>
   rw [hx] at hi
   have hi : (if j = j then f c' else c') = c := by injection hi
   rw [if_pos rfl] at hi
   exact .inr ⟨c',rfl,by rw [← hi]⟩
 ·cases hx : X[i]? with
  | none => rw [hx] at hi; cases hi
  | some c' =>
   rw [hx] at hi
   have hi : (if j = i then f c' else c') = c := by injection hi
   rw [if_neg e] at hi
   exact .inl (List.mem_map.mpr ⟨c',List.mem_of_getElem? hx,by rw [← hi]⟩)
theorem modify_rows_len {X : LC} {j : Nat} {f : List C → List C} : (C.immRows (X.modify j f)).length = (C.immRows X).length := by rw [C.immRows_length,C.immRows_length,List.length_modify]
theorem wrap_wf (x : Int) : (Lit.int .i64 (IntKind.wrap .i64 x)).wf = true := by
 have h : -9223372036854775808 ≤ IntKind.wrap .i64 x ∧ IntKind.wrap .i64 x ≤ 9223372036854775807 := by
  rw [IntKind.wrap_i64]
  omega
 exact wf_of h.1 h.2
def BDrawn (b : LD) (n : Nat) (o : Option (Int × BA × Int × LC × LC × LD × Int × Int)) : Prop :=
 ∃ d0 d1 d2 Y3 Y4 i h,VSm 1001 n [.int .i64 d0,.str d1,.int .i64 d2,.sl (C.immRows Y3),.sl (C.immRows Y4)] ∧ Cur b i ∧ o = some (d0,d1,d2,Y3,Y4,b,i,h)
theorem VSm.deep {n : Nat} {c0 c2 : Int} {c1 : BA} {c3 c4 : LD} (h : VSm 1001 n [.int .i64 c0,.str c1,.int .i64 c2,.sl c3,.sl c4]) : VSm 1001 n [.int .i64 c0,.str c1,.int .i64 c2,.sl (C.immRows (Zc c3)),.sl (C.immRows (Zc c4))] := by
 rw [ZK,ZK]; exact h
set_option maxHeartbeats 1000000 in
theorem bend_tail {n k : Nat} {b c3 c4 : LD} {c0 c2 : Int} {c1 : BA} {r : LD → Int → Int → Int → BA → Int → LD → LD → (Int → BA → Int → LC → LC → LD → Int → Int → Option (Int × BA × Int × LC × LC × LD × Int × Int)) → Option (Int × BA × Int × LC × LC × LD × Int × Int)} (hv : VSm 1000 (n + 1) [.int .i64 c0,.str c1,.int .i64 c2,.sl c3,.sl c4]) (hk : big ≤ k) {i h : Int} (c : Cur b i) :
  BDrawn b (n + 7) (Yp.f k b i h 6 (fun y43 y44 y45 y46 => bif ((y43 : Int) == 0) then (Yp.f k y44 y45 y46 7 (fun y47 y48 y49 y50 => some (y47,c1,c2,Zc c3,Zc c4,y48,y49,y50))) else (bif ((y43 : Int) == 1) then (YY.f k y44 y45 y46 ([[.str (⟨#[97]⟩ : BA)],[.str (⟨#[10]⟩ : BA)],[.str (⟨#[127]⟩ : BA)]] : LD) (fun y51 y52 y53 y54 => some (c0,y51,c2,Zc c3,Zc c4,y52,y53,y54))) else (bif ((y43 : Int) == 2) then (some (c0,c1,IntKind.wrap .i64 (c2 + 1),Zc c3,Zc c4,y44,y45,y46)) else (bif ((y43 : Int) == 3) then (Yab.f k y44 y45 y46 (fun y55 y56 y57 y58 => Zd ((Zc c3).length + ([[.d (.str y55)]] : LC).length ≤ Z8) (some (c0,c1,c2,Zc c3 ++ ([[.d (.str y55)]] : LC),Zc c4,y56,y57,y58)))) else (bif ((y43 : Int) == 4) then (Zd ((Zc c4).length + ([[.d (.int .i64 2),.d (.str (⟨#[]⟩ : BA)),.d (.int .i64 0),.own ([] : LC),.own ([] : LC)]] : LC).length ≤ Z8) (some (c0,c1,c2,Zc c3,Zc c4 ++ ([[.d (.int .i64 2),.d (.str (⟨#[]⟩ : BA)),.d (.int .i64 0),.own ([] : LC),.own ([] : LC)]] : LC),y44,y45,y46))) else (bif ((y43 : Int) == 5) then (ZA (Yr.l0 k r y44 y45 y46 0 (⟨#[]⟩ : BA) 0 (fun z0 z1 z2 z3 z4 z5 z6 z7 => some (z0,z1,z2,z3,z4,z5,z6,z7))) k (0,c0,c1,c2,Zc c3,Zc c4)) else (some (c0,c1,c2,Zc c3,Zc c4,y44,y45,y46))))))))) := by
 have hm : Z8 = 2 ^ 36 := rfl
 have hlim : lim = 1048576 := rfl
 have hb : big = 2 ^ 64 := rfl
 obtain ⟨w0,k1,w2,l3,h3,l4,h4⟩ : (Lit.int .i64 c0).wf = true ∧ c1.size ≤ lim ∧ (Lit.int .i64 c2).wf = true ∧ c3.length ≤ 1000 ∧ (∀ r ∈ c3,RS lim r) ∧ c4.length ≤ 1000 ∧ ∀ r ∈ c4,VSm 1000 n r := by
  cases hv with
  | mk _ _ _ _ _ w0 k1 w2 l3 h3 l4 h4 => exact ⟨w0,k1,w2,l3,h3,l4,h4⟩
 have h4' : ∀ r ∈ c4,VSm 1001 (n + 6) r := fun r hr => (h4 r hr).up (by decide) (by omega)
 obtain ⟨x,i1,g1,x0,x1,-,hc1,e1⟩ := YaD (k := k) (h := h) (n := 6) c
 have x1 := x1 (by decide)
 rw [Yp.f_of e1]
 have hx : x = 0 ∨ x = 1 ∨ x = 2 ∨ x = 3 ∨ x = 4 ∨ x = 5 := by omega
 rcases hx with rfl | rfl | rfl | rfl | rfl | rfl
 ·obtain ⟨y,i2,g2,y0,y1,-,hc2,e2⟩ := YaD (k := k) (h := g1) (n := 7) hc1
  have y1 := y1 (by decide)
  simp only [cond_true,cond_false,Int.reduceBEq]
  rw [Yp.f_of e2]
  exact ⟨_,_,_,_,_,_,_,VSm.deep (.mk (n := n + 6) y c1 c2 c3 c4 (wf_of (by omega) (by omega)) k1 w2 (by omega) h3 (by omega) h4'),hc2,rfl⟩
 ·have hstr : ∀ r ∈ ([[.str (⟨#[97]⟩ : BA)],[.str (⟨#[10]⟩ : BA)],[.str (⟨#[127]⟩ : BA)]] : LD),RS lim r := by
   intro r hr
   simp only [List.mem_cons,List.not_mem_nil,or_false] at hr
   rcases hr with rfl | rfl | rfl <;> exact ⟨_,rfl,by decide,trivial⟩
  obtain ⟨j,i2,g2,j0,j1,hc2,e2⟩ := str_ex (k := k) (h := g1) hc1 hstr (by decide)
  simp only [cond_true,cond_false,Int.reduceBEq]
  rw [YY.f_of e2]
  exact ⟨_,_,_,_,_,_,_,VSm.deep (.mk (n := n + 6) c0 _ c2 c3 c4 w0 (RS.gets hstr j0 j1).2.1 w2 (by omega) h3 (by omega) h4'),hc2,rfl⟩
 ·simp only [cond_true,cond_false,Int.reduceBEq]
  exact ⟨_,_,_,_,_,_,_,VSm.deep (.mk (n := n + 6) c0 c1 _ c3 c4 w0 k1 (wrap_wf _) (by omega) h3 (by omega) h4'),hc1,rfl⟩
 ·obtain ⟨s,i2,g2,gs,hc2,e2⟩ := nameAny2_ex (k := k) (h := g1) hc1
  simp only [cond_true,cond_false,Int.reduceBEq]
  rw [Yab.f_of e2,ZH (by rw [ZS,List.length_singleton]; omega)]
  refine ⟨_,_,_,_,_,_,_,?_,hc2,rfl⟩
  rw [Za3,ZK,ZK]
  refine .mk (n := n + 6) c0 c1 c2 _ c4 w0 k1 w2 (by rw [List.length_append,C.immRows_length,List.length_singleton]; omega) (fun r hr => ?_) (by omega) h4'
  rcases List.mem_append.mp hr with hr | hr
  ·exact h3 r hr
  ·simp [C.immRows,C.immCells,C.imm] at hr
   subst hr
   exact ⟨s,rfl,gs,trivial⟩
 ·simp only [cond_true,cond_false,Int.reduceBEq]
  rw [ZH (by rw [ZS,List.length_singleton]; omega)]
  refine ⟨_,_,_,_,_,_,_,?_,hc1,rfl⟩
  rw [Za3,ZK,ZK]
  refine .mk (n := n + 6) c0 c1 c2 c3 _ w0 k1 w2 (by omega) h3 (by rw [List.length_append,C.immRows_length,List.length_singleton]; omega) (fun r hr => ?_)
  rcases List.mem_append.mp hr with hr | hr
  ·exact h4' r hr
  ·simp [C.immRows,C.immCells,C.imm] at hr
   subst hr
   exact .mk (n := n + 5) 2 _ 0 [] [] (by decide) (by decide) (by decide) (by simp) (by simp) (by simp) (by simp)
 ·simp only [cond_true,cond_false,Int.reduceBEq]
  refine YaW (fun v => 6 - v.1.toNat) (fun v => 0 ≤ v.1 ∧ v.1 ≤ 6 ∧ VSm 1001 (n + 1 + v.1.toNat) [.int .i64 v.2.1,.str v.2.2.1,.int .i64 v.2.2.2.1,.sl (C.immRows v.2.2.2.2.1),.sl (C.immRows v.2.2.2.2.2)]) (BDrawn b (n + 7)) ?_ (v := (0,c0,c1,c2,Zc c3,Zc c4)) ⟨by simp,by simp,VSm.deep (hv.up (by decide) (by simp))⟩ (by show 6 - 0 < k; omega)
  rintro ⟨t,e0,e1,e2,E3,E4⟩ ⟨t0,t6,hV⟩ L hL
  simp only at t0 t6 hV
  by_cases ht : t < 6
  ·simp only [Yr.l0,ZY ht,cond_true,Z9 (show -9223372036854775808 ≤ t + 1 by omega) (show t + 1 ≤ 9223372036854775807 by omega)]
   refine hL _ ⟨by show 0 ≤ t + 1; omega,by show t + 1 ≤ 6; omega,?_⟩ (by show 6 - (t + 1).toNat < 6 - t.toNat; omega)
   show VSm 1001 (n + 1 + (t + 1).toNat) [.int .i64 4,.str (⟨#[]⟩ : BA),.int .i64 0,.sl (C.immRows []),.sl (C.immRows [[.d (.int .i64 e0),.d (.str e1),.d (.int .i64 e2),.own E3,.own E4]])]
   rw [show n + 1 + (t + 1).toNat = (n + 1 + t.toNat) + 1 from by omega]
   refine .mk 4 _ 0 _ _ (by decide) (by decide) (by decide) (by simp [C.immRows]) (by simp [C.immRows]) (by simp [C.immRows]) (fun r hr => ?_)
   simp [C.immRows,C.immCells,C.imm] at hr
   subst hr
   exact hV
  ·simp only [Yr.l0,ZZ ht,cond_false]
   exact ⟨_,_,_,_,_,_,_,hV.up (Nat.le_refl _) (by omega),hc1,rfl⟩
theorem Y5.f_of {β : Type} {k aA aB aC z0 z1 z2 z3} (h : Y5.t k aA aB aC = some (z0,z1,z2,z3)) (K : LC → LD → Int → Int → Option β) : Y5.f k aA aB aC K = K z0 z1 z2 z3 := by unfold Y5.f; rw [h]; rfl
theorem YQ.f_of {β : Type} {k a0 z0} (h : YQ.t k a0 = some z0) (K : LC → Option β) : YQ.f k a0 K = K z0 := by unfold YQ.f; rw [h]; rfl
theorem clone_string_fv {a : LD} (g : ZB RS lim a) {k : Nat} {β : Type} (K : LC → Option β) : YQ.f k a K = K (a.map (·.map C.d)) := YQ.f_of (by
 have hl := g.1
 have hlim : lim = 1048576 := rfl
 have hm : Z8 = 2 ^ 36 := rfl
 unfold YQ.t YQ.g
 rw [ZH (RS.flat g.2),ZH (by simp only [List.length_nil,map_len]; omega),List.nil_append]
 exact nilSl_same) K
theorem Yq.f_of {β : Type} {k aA aB aC aI aH z0 z1 z2 z3 z4} (h : Yq.t k aA aB aC aI aH = some (z0,z1,z2,z3,z4)) (K : Int → BA → Int → LC → LC → Option β) : Yq.f k aA aB aC aI aH K = K z0 z1 z2 z3 z4 := by unfold Yq.f Yq.w; rw [h]; rfl
set_option maxRecDepth 100000 in
theorem copyVal (n : Nat) : ∀ (c0 : Int) (c1 : BA) (c2 : Int) (c3 c4 : LD),ZB RS lim c3 → c4.length ≤ lim → (∀ x ∈ c4,Yao lim n x) → ∀ {k : Nat},big + n + 1 ≤ k → Yq.t k c0 c1 c2 c3 c4 = some (c0,c1,c2,Zc c3,Zc c4) := by
 have hm : Z8 = 2 ^ 36 := rfl
 have hlim : lim = 1048576 := rfl
 have hb : big = 2 ^ 64 := rfl
 induction n using Nat.strongRecOn with
 | ind n ih =>
 intro c0 c1 c2 c3 c4 g3 l4 g4 k hk
 obtain ⟨k,rfl⟩ : ∃ k',k = k' + 1 := ⟨k - 1,by omega⟩
 rw [Yq.t_succ]
 unfold Yq.g Yq.body
 rw [clone_string_fv g3]
 refine (ZbT (xs := c4) (r := some (c0,c1,c2,c3.map (·.map C.d),Zc c4)) (by omega) (fun L i hi => ?_) (fun L => ?_)).trans (by rw [RS.deep g3.2])
 ·have hl : (Zc (c4.take i)).length = i := by rw [ZS,List.length_take]; omega
  obtain ⟨n',hn',d0,d1,d2,d3,d4,e,w0,w1,w2,w3,w4,w5⟩ : ∃ n',n = n' + 1 ∧ ∃ d0 d1 d2 d3 d4,gR c4 (i : Int) = [.int .i64 d0,.str d1,.int .i64 d2,.sl d3,.sl d4] ∧ (Lit.int .i64 d0).wf = true ∧ d1.size ≤ lim ∧ (Lit.int .i64 d2).wf = true ∧ ZB RS lim d3 ∧ d4.length ≤ lim ∧ ∀ x ∈ d4,Yao lim n' x := by
   have := g4 _ (gR_mem (xs := c4) (v := (i : Int)) (by omega) (by omega))
   generalize gR c4 (i : Int) = r at this
   cases this with
   | mk e0 e1 e2 e3 e4 w0 p1 w2 p3 p4 p5 => exact ⟨_,rfl,_,_,_,_,_,rfl,w0,p1,w2,p3,p4,p5⟩
  simp (disch := omega) only [Yq.l0,atR,rdQ,Q.ask,ZY (show (i : Int) < c4.length by omega),cond_true,Zck (xs := c4) (v := (i : Int)),e,Z4,Z5,ZaQ,Zbl,Zan,Yq.f_of (ih n' (by omega) d0 d1 d2 d3 d4 w3 w4 w5 (k := k) (by omega)),Z9]
  rw [ZH (by rw [hl,List.length_singleton]; omega)]
  simp only [ZN,deepD]
 ·simp only [Yq.l0,atR,rdQ,Q.ask,ZZ (show ¬ (c4.length : Int) < c4.length by omega),cond_false]
set_option maxRecDepth 100000 in
theorem l4CopyVal (n : Nat) : ∀ (c0 : Int) (c1 : BA) (c2 : Int) (c3 c4 : LD),ZB RS lim c3 → c4.length ≤ lim → (∀ x ∈ c4,Yao lim n x) → ∀ {k : Nat},big + n + 1 ≤ k → Yy.t k c0 c1 c2 c3 c4 = some (c0,c1,c2,Zc c3,Zc c4) := by
 have hm : Z8 = 2 ^ 36 := rfl
 have hlim : lim = 1048576 := rfl
 have hb : big = 2 ^ 64 := rfl
 induction n using Nat.strongRecOn with
 | ind n ih =>
 intro c0 c1 c2 c3 c4 g3 l4 g4 k hk
 have l3 := g3.1
 obtain ⟨k,rfl⟩ : ∃ k',k = k' + 1 := ⟨k - 1,by omega⟩
 rw [Yy.t_succ]
 unfold Yy.g Yy.body
 rw [ZH (RS.flat g3.2),ZH (by simp only [List.length_nil,map_len]; omega),List.nil_append]
 refine (ZbT (xs := c4) (r := some (c0,c1,c2,c3.map (·.map C.d),Zc c4)) (by omega) (fun L i hi => ?_) (fun L => ?_)).trans (by rw [RS.deep g3.2])
 ·have hl : (Zc (c4.take i)).length = i := by rw [ZS,List.length_take]; omega
  obtain ⟨n',hn',d0,d1,d2,d3,d4,e,w0,w1,w2,w3,w4,w5⟩ : ∃ n',n = n' + 1 ∧ ∃ d0 d1 d2 d3 d4,gR c4 (i : Int) = [.int .i64 d0,.str d1,.int .i64 d2,.sl d3,.sl d4] ∧ (Lit.int .i64 d0).wf = true ∧ d1.size ≤ lim ∧ (Lit.int .i64 d2).wf = true ∧ ZB RS lim d3 ∧ d4.length ≤ lim ∧ ∀ x ∈ d4,Yao lim n' x := by
   have := g4 _ (gR_mem (xs := c4) (v := (i : Int)) (by omega) (by omega))
   generalize gR c4 (i : Int) = r at this
   cases this with
   | mk e0 e1 e2 e3 e4 w0 p1 w2 p3 p4 p5 => exact ⟨_,rfl,_,_,_,_,_,rfl,w0,p1,w2,p3,p4,p5⟩
  simp (disch := omega) only [Yy.l0,atR,rdQ,Q.ask,ZY (show (i : Int) < c4.length by omega),cond_true,Zck (xs := c4) (v := (i : Int)),e,Z4,Z5,ZaQ,Zbl,Zan,Yy.f_of (ih n' (by omega) d0 d1 d2 d3 d4 w3 w4 w5 (k := k) (by omega)),Z9]
  rw [ZH (by rw [hl,List.length_singleton]; omega)]
  simp only [ZN,deepD]
 ·simp only [Yy.l0,atR,rdQ,Q.ask,ZZ (show ¬ (c4.length : Int) < c4.length by omega),cond_false]
theorem value_h {xs : LD} (g : ZB Y0 lim xs) : ∀ x ∈ xs,Yao lim 1099511627776 x := fun x hx => by
 obtain ⟨h,hh,hx⟩ := g.2 x hx
 exact hx.mono (hh (by decide))
theorem copyValue_fv {c0 c2 : Int} {c1 : BA} {c3 c4 : LD} (g3 : ZB RS lim c3) (g4 : ZB Y0 lim c4) {k : Nat} (hk : Zai 1 k) {β : Type} (K : Int → BA → Int → LC → LC → Option β) : Yq.f k c0 c1 c2 c3 c4 K = K c0 c1 c2 (Zc c3) (Zc c4) :=
 Yq.f_of (copyVal 1099511627776 c0 c1 c2 c3 c4 g3 g4.1 (value_h g4) (Nat.le_trans (big_lv1 (n := 1099511627776 + 1) (by omega)) hk)) K
theorem l4Copy_fv {c0 c2 : Int} {c1 : BA} {c3 c4 : LD} (g3 : ZB RS lim c3) (g4 : ZB Y0 lim c4) {k : Nat} (hk : Zai 1 k) {β : Type} (K : Int → BA → Int → LC → LC → Option β) : Yy.f k c0 c1 c2 c3 c4 K = K c0 c1 c2 (Zc c3) (Zc c4) :=
 Yy.f_of (l4CopyVal 1099511627776 c0 c1 c2 c3 c4 g3 g4.1 (value_h g4) (Nat.le_trans (big_lv1 (n := 1099511627776 + 1) (by omega)) hk)) K
theorem VSm.cut {m n : Nat} {c0 c2 : Int} {c1 : BA} {c3 c4 : LD} (hv : VSm m n [.int .i64 c0,.str c1,.int .i64 c2,.sl c3,.sl c4]) : ∃ n',n = n' + 1 ∧ (Lit.int .i64 c0).wf = true ∧ c1.size ≤ lim ∧ (Lit.int .i64 c2).wf = true ∧ c3.length ≤ m ∧ (∀ r ∈ c3,RS lim r) ∧ c4.length ≤ m ∧ ∀ r ∈ c4,VSm m n' r := by
 cases hv with
 | mk _ _ _ _ _ w0 k1 w2 l3 h3 l4 h4 => exact ⟨_,rfl,w0,k1,w2,l3,h3,l4,h4⟩
theorem VSm.shape {m n : Nat} {r : List D} (hv : VSm m n r) : ∃ d0 d1 d2 d3 d4,r = [.int .i64 d0,.str d1,.int .i64 d2,.sl d3,.sl d4] := by
 cases hv with
 | mk _ _ _ _ _ w0 k1 w2 l3 h3 l4 h4 => exact ⟨_,_,_,_,_,rfl⟩
set_option maxRecDepth 100000 in
set_option maxHeartbeats 2000000 in
theorem vbend_ex : ∀ (n : Nat) {b : LD} {i h : Int} {k : Nat} {c0 c2 : Int} {c1 : BA} {c3 c4 : LD},Cur b i → VSm 1000 n [.int .i64 c0,.str c1,.int .i64 c2,.sl c3,.sl c4] → big + n + 2 ≤ k → BDrawn b (n + 6) (Yr.t k b i h c0 c1 c2 c3 c4)
 | 0,b,i,h,k,c0,c2,c1,c3,c4,hc,hv,hk => by obtain ⟨n',e,_⟩ := hv.cut; omega
 | n + 1,b,i,h,k,c0,c2,c1,c3,c4,hc,hv,hk => by
  have hm : Z8 = 2 ^ 36 := rfl
  have hlim : lim = 1048576 := rfl
  have hb : big = 2 ^ 64 := rfl
  obtain ⟨n',en,w0,k1,w2,l3,h3,l4,h4⟩ := hv.cut
  obtain rfl : n = n' := by omega
  obtain ⟨k,rfl⟩ : ∃ k',k = k' + 1 := ⟨k - 1,by omega⟩
  have e01 : @Yr.l1 = @Yr.l0 := rfl
  rw [Yr.t_succ]
  unfold Yr.g Yr.body Yr.m
  rw [e01,Yy.f_of (l4CopyVal n c0 c1 c2 c3 c4 ⟨by omega,h3⟩ (by omega) (fun x hx => (h4 x hx).val (by decide)) (by omega))]
  by_cases h0 : 0 < c4.length
  ·obtain ⟨w,i1,g1,hc1,e1⟩ := once_ex (k := k) (h := h) (n := 2) hc
   dsimp only
   rw [ZY (show ((Zc c4).length : Int) > 0 by rw [ZS]; omega),Y7.f_of e1]
   cases w with
   | false =>
    simp only [cond_true,cond_false]
    exact bend_tail hv (by omega) hc1
   | true =>
    simp only [cond_true]
    obtain ⟨y,i2,g2,y0,y1,-,hc2,e2⟩ := YaD (k := k) (h := g1) (n := ((Zc c4).length : Int)) hc1
    have y1 := y1 (by rw [ZS]; omega)
    rw [ZS] at y1
    obtain ⟨d0,d1,d2,d3,d4,e⟩ := (h4 _ (gR_mem y0 y1)).shape
    have hkid := h4 _ (gR_mem y0 y1)
    rw [e] at hkid
    obtain ⟨f0,f1,f2,Y3,Y4,i3,g3,hv3,hc3,e3⟩ := vbend_ex n (k := k) (h := g2) hc2 hkid (by omega)
    rw [Yp.f_of e2]
    have hlen : (Zb6 (Zc c4)).length = c4.length := by rw [flat_imm,ZK,map_len]
    rw [ZH ⟨y0,by rw [hlen]; exact y1⟩]
    rw [flat_imm,ZK,atNat_up y0 y1,e]
    simp only [List.map_cons,List.map_nil,List.drop_zero,Z4,cD_at,Z5,ZaQ,Zbl]
    rw [Yr.f_of e3,ZH ⟨y0,by rw [map_len]; exact y1⟩,ZH (by rw [map_len]; omega)]
    refine ⟨_,_,_,_,_,_,_,?_,hc3,rfl⟩
    rw [ZK]
    refine .mk (n := n + 6) c0 c1 c2 c3 _ w0 k1 w2 (by omega) h3 (by rw [modify_rows_len,imm_rows]; omega) (fun r hr => ?_)
    rcases modify_rows hr with hr | ⟨c,hcx,rfl⟩
    ·rw [imm_rows] at hr
     exact (h4 r hr).up (by decide) (by omega)
    ·have hcl : c.length = 5 := by
      rw [List.getElem?_map] at hcx
      have := gR_at y0 y1
      rw [this,e] at hcx
      injection hcx with hcx
      rw [← hcx]; rfl
     have : Zs c 0 [.d (.int .i64 f0),.d (.str f1),.d (.int .i64 f2),.own Y3,.own Y4] = [.d (.int .i64 f0),.d (.str f1),.d (.int .i64 f2),.own Y3,.own Y4] := by
      unfold Zs
      simp [List.drop_of_length_le (show c.length ≤ 5 by omega)]
     rw [this]
     simp only [C.immCells,C.imm]
     exact hv3
  ·dsimp only
   rw [ZZ (show ¬ ((Zc c4).length : Int) > 0 by rw [ZS]; omega)]
   simp only [cond_false]
   exact bend_tail hv (by omega) hc
theorem YC.f_of {β : Type} {k a0 z0} (h : YC.t k a0 = some z0) (K : LC → Option β) : YC.f k a0 K = K z0 := by unfold YC.f; rw [h]; rfl
set_option maxRecDepth 100000 in
theorem copyWorks_fv {a : LD} (g : ZB Yg lim a) {k : Nat} (hk : Zai 1 k) {β : Type} (K : LC → Option β) : YC.f k a K = K (Zc a) := YC.f_of (by
 have hm : Z8 = 2 ^ 36 := rfl
 have hlim : lim = 1048576 := rfl
 have hb : big = 2 ^ 64 := rfl
 have hk0 : big ≤ k := up0 hk
 have l := g.1
 unfold YC.t YC.g
 refine ZbT (xs := a) (by omega) (fun L i hi => ?_) (fun L => ?_)
 ·have hl : (Zc (a.take i)).length = i := by rw [ZS,List.length_take]; omega
  obtain ⟨e,-,-,-,k3,-,k5,k6,-⟩ := Yg.get g (v := (i : Int)) (by omega) (by omega)
  simp (disch := omega) only [YC.l0,atR,rdQ,Q.ask,ZY (show (i : Int) < a.length by omega),cond_true,Zck (xs := a) (v := (i : Int)),e,Z4,Z5,ZaQ,Zbl,Zan,copyValue_fv k5 k6 hk,Z9]
  rw [ZH (by rw [hl,List.length_singleton]; omega)]
  simp only [ZN,deepD]
 ·simp only [YC.l0,atR,rdQ,Q.ask,ZZ (show ¬ (a.length : Int) < a.length by omega),cond_false]) K
set_option maxRecDepth 100000 in
theorem l12Works_fv {a : LD} (g : ZB Yg lim a) {k : Nat} (hk : Zai 1 k) {β : Type} (K : LC → Option β) : YG.f k a K = K (Zc a) := YG.f_of (by
 have hm : Z8 = 2 ^ 36 := rfl
 have hlim : lim = 1048576 := rfl
 have hb : big = 2 ^ 64 := rfl
 have hk0 : big ≤ k := up0 hk
 have l := g.1
 unfold YG.t YG.g
 refine ZbT (xs := a) (by omega) (fun L i hi => ?_) (fun L => ?_)
 ·have hl : (Zc (a.take i)).length = i := by rw [ZS,List.length_take]; omega
  obtain ⟨e,-,-,-,k3,-,k5,k6,-⟩ := Yg.get g (v := (i : Int)) (by omega) (by omega)
  simp (disch := omega) only [YG.l0,atR,rdQ,Q.ask,ZY (show (i : Int) < a.length by omega),cond_true,Zck (xs := a) (v := (i : Int)),e,Z4,Z5,ZaQ,Zbl,Zan,l4Copy_fv k5 k6 hk,Z9]
  rw [ZH (by rw [hl,List.length_singleton]; omega)]
  simp only [ZN,deepD]
 ·simp only [YG.l0,atR,rdQ,Q.ask,ZZ (show ¬ (a.length : Int) < a.length by omega),cond_false]) K
theorem YH.f_of {β : Type} {k a0 z0} (h : YH.t k a0 = some z0) (K : LC → Option β) : YH.f k a0 K = K z0 := by unfold YH.f; rw [h]; rfl
theorem clone_run_fv {a : LD} (g : ZB RII lim a) {k : Nat} {β : Type} (K : LC → Option β) : YH.f k a K = K (a.map (·.map C.d)) := YH.f_of (by
 have hl := g.1
 have hlim : lim = 1048576 := rfl
 have hm : Z8 = 2 ^ 36 := rfl
 unfold YH.t YH.g
 rw [ZH (RII.flat g.2),ZH (by simp only [List.length_nil,map_len]; omega),List.nil_append]
 exact nilSl_same) K
theorem Yah.f_of {β : Type} {k aA aB aC aI aH z0 z1 z2 z3 z4} (h : Yah.t k aA aB aC aI aH = some (z0,z1,z2,z3,z4)) (K : BA → Int → Int → LC → LC → Option β) : Yah.f k aA aB aC aI aH K = K z0 z1 z2 z3 z4 := by unfold Yah.f; rw [h]; rfl
theorem YZ.f_of {β : Type} {k a0 a1 a2 z0} (h : YZ.t k a0 a1 a2 = some z0) (K : Bool → Option β) : YZ.f k a0 a1 a2 K = K z0 := by unfold YZ.f; rw [h]; rfl
theorem within_f {β : Type} {k : Nat} {a b c : Int} (K : Bool → Option β) : YZ.f k a b c K = K (decide (b ≤ a) && decide (a ≤ c)) := by
 refine YZ.f_of ?_ K
 unfold YZ.t YZ.g
 by_cases h : b ≤ a <;> simp [h]
theorem YS.same {k : Nat} {a : BA} : YS.t k a = Yj.t k a := by
 unfold YS.t Yj.t YS.g Yj.g
 congr 1
 funext L v
 simp only [YS.l0,Yj.l0,l1In_f,within_f]
 refine bif_congr (fun _ => ?_) (fun _ => rfl)
 unfold atStr
 split
 ·split
  ·rename_i b _
   have hb : b.toNat < 256 := b.toNat_lt
   simp only []
   rw [Z9 (x := (b.toNat : Int)) (by omega) (by omega)]
   generalize (b.toNat : Int) = x
   by_cases h1 : x < 97 <;> by_cases h2 : x < 48 <;> by_cases h3 : x > 57 <;> by_cases h4 : x > 122 <;> simp [h1,h2,h3,h4] <;> (try omega) <;> grind
  ·rfl
 ·rfl
theorem impl_NameOk_f {β : Type} {k : Nat} {a : BA} (K : Bool → Option β) : YS.f k a K = Yj.f k a K := by
 unfold YS.f Yj.f
 rw [YS.same]
theorem within_fv {β : Type} {k : Nat} {a b c : Int} (K : Bool → Option β) : YZ.f k a b c K = K (inB a b c) := within_f K
theorem Y9.f_of {β : Type} {k a0 z0} (h : Y9.t k a0 = some z0) (K : Bool → Option β) : Y9.f k a0 K = K z0 := by unfold Y9.f; rw [h]; rfl
theorem isCopies_f {β : Type} {k : Nat} {a : Int} (K : Bool → Option β) : Y9.f k a K = K (decide (0 ≤ a) && decide (a ≤ 10000)) := by
 refine Y9.f_of ?_ K
 unfold Y9.t Y9.g
 rw [within_f]
theorem YN.f_of {β : Type} {k a0 a1 z0} (h : YN.t k a0 a1 = some z0) (K : Bool → Option β) : YN.f k a0 a1 K = K z0 := by unfold YN.f; rw [h]; rfl
set_option maxRecDepth 100000 in
theorem namesOk_fv {a : LD} {n : Int} (g : ZB RS lim a) {k : Nat} (hk : Fuel k) {β : Type} (K : Bool → Option β) : YN.f k a n K = K (namesB a && decide ((a.length : Int) ≤ n)) := YN.f_of (by
 have hl := g.1
 have hlim : lim = 1048576 := rfl
 have hb : big = 2 ^ 64 := rfl
 unfold YN.t YN.g
 rw [iter_all0 (n := a.length) (fun i => Yj.v (gS a (i : Int) 0) && (!decide ((i : Int) > 0) || strLt (gS a ((i : Int) - 1) 0) (gS a (i : Int) 0))) (r1 := some false) (r2 := some (decide ((a.length : Int) ≤ n))) (by unfold Fuel at hk; omega)]
 ·unfold namesB
  generalize List.all _ _ = x
  cases x <;> rfl
 ·intro L i hi
  have k0 := (RS.get g (v := (i : Int)) (by omega) (by omega)).2.1
  simp (disch := omega) only [YN.l0,atR,rdQ,Q.ask,ZY (show (i : Int) < a.length by omega),cond_true,RS.row g,Z4,ZaQ,Zan,impl_NameOk_f,Yj.fv k0 hk,Z9]
  by_cases h0 : (i : Int) > 0
  ·simp (disch := omega) only [ZY h0,cond_true,RS.row g,Z4,ZaQ,Zan]
   cases Yj.v (gS a (i : Int) 0) <;> cases strLt (gS a ((i : Int) - 1) 0) (gS a (i : Int) 0) <;> rfl
  ·simp only [ZZ h0,cond_false]
   cases Yj.v (gS a (i : Int) 0) <;> rfl
 ·intro L
  simp [YN.l0,atR,rdQ,Q.ask]) K
theorem YL.f_of {β : Type} {k aA aB aC aI aH z0} (h : YL.t k aA aB aC aI aH = some z0) (K : Bool → Option β) : YL.f k aA aB aC aI aH K = K z0 := by unfold YL.f; rw [h]; rfl
theorem Ys.f_of {β : Type} {k aA aB aC aI aH a1 z0} (h : Ys.t k aA aB aC aI aH a1 = some z0) (K : Int → Option β) : Ys.f k aA aB aC aI aH a1 K = K z0 := by unfold Ys.f Ys.w; rw [h]; rfl
theorem Yan.f_of {β : Type} {k aA aB aC aI aH z0} (h : Yan.t k aA aB aC aI aH = some z0) (K : Bool → Option β) : Yan.f k aA aB aC aI aH K = K z0 := by unfold Yan.f; rw [h]; rfl
theorem shapeOk_fv {c0 : Int} {c1 : BA} {c2 : Int} {c3 c4 : LD} (g1 : c1.size ≤ lim) (g3 : ZB RS lim c3) {k : Nat} (hk : Fuel k) {β : Type} (K : Bool → Option β) : YL.f k c0 c1 c2 c3 c4 K = K (YaL c0 c1 c2 c3 c4 && (!(c0 == 5) || decide ((c3.length : Int) ≤ 300))) := YL.f_of (by
 have hlim : lim = 1048576 := rfl
 have hb : big = 2 ^ 64 := rfl
 unfold YL.t YL.g YL.m
 have text : ZA (YL.l0 k ((c2 : Int) == 0) (((c3.length : Int) : Int) == 0) (((c4.length : Int) : Int) == 0) (c1.size : Int) c0 c1 c2 c3 c4 fun z0 => some z0) k 0 = some (textB c1 && (decide ((c1.size : Int) ≤ 100) && (c2 == 0 && ((c3.length : Int) == 0 && (c4.length : Int) == 0)))) := by
  rw [iter_all0 (n := c1.size) (fun i => inB (bS c1 (i : Int)) 32 126) (r1 := some false) (r2 := some (decide ((c1.size : Int) ≤ 100) && (c2 == 0 && ((c3.length : Int) == 0 && (c4.length : Int) == 0)))) (by unfold Fuel at hk; omega)]
  ·unfold textB
   generalize List.all _ _ = x
   cases x <;> rfl
  ·intro L i hi
   simp (disch := omega) only [YL.l0,ZY (show (i : Int) < c1.size by omega),cond_true,atStr_at,wrap_b,within_fv,Z9]
   generalize inB _ _ _ = x
   cases x <;> rfl
  ·intro L
   simp only [YL.l0,ZZ (show ¬ (c1.size : Int) < c1.size by omega),cond_false]
   cases decide ((c1.size : Int) ≤ 100) <;> cases c2 == 0 <;> cases ((c3.length : Int) == 0) <;> rfl
 simp only [text,within_fv,namesOk_fv g3 hk]
 unfold YaL
 generalize textB c1 = b1
 generalize decide ((c1.size : Int) ≤ 100) = b0
 generalize hb2 : Zae c1 (⟨#[]⟩ : BA) = b2
 have hb3 : Zae c1 bareText = b2 := hb2
 rw [hb3]
 generalize namesB c3 = b3
 generalize inB c2 0 1 = b4
 generalize (c2 == 0) = b5
 generalize ((c4.length : Int) == 0) = b6
 generalize ((c3.length : Int) == (c4.length : Int)) = b7
 generalize ((c3.length : Int) == 0) = b8
 generalize decide ((c3.length : Int) ≤ 300) = b9
 rcases ZaM c0 with rfl | rfl | rfl | rfl | rfl | ⟨e1,e2,e3,e4,e5⟩
 ·cases b0 <;> cases b1 <;> cases b5 <;> cases b6 <;> cases b8 <;> rfl
 ·cases b2 <;> cases b6 <;> cases b8 <;> rfl
 ·cases b2 <;> cases b4 <;> cases b6 <;> cases b8 <;> rfl
 ·cases b2 <;> cases b5 <;> cases b8 <;> rfl
 ·cases b2 <;> cases b3 <;> cases b5 <;> cases b7 <;> cases b9 <;> rfl
 ·simp only [e1,e2,e3,e4,e5,cond_false,Bool.false_and]) K
set_option maxRecDepth 100000 in
theorem measured_t (d : Nat) : ∀ {c0 : Int} {c1 : BA} {c2 : Int} {c3 c4 : LD},c1.size ≤ lim → ZB RS lim c3 → ZB Y0 lim c4 → d ≤ 6 → ∀ {k : Nat},big + d + 1 ≤ k → Ys.t k c0 c1 c2 c3 c4 (d : Int) = some (bif Yay d [.int .i64 c0,.str c1,.int .i64 c2,.sl c3,.sl c4] == 0 then 301 else Yay d [.int .i64 c0,.str c1,.int .i64 c2,.sl c3,.sl c4]) := by
 have hlim : lim = 1048576 := rfl
 have hb : big = 2 ^ 64 := rfl
 induction d with
 | zero =>
  intro c0 c1 c2 c3 c4 g1 g3 g4 hd k hk
  cases k with
  | zero => omega
  | succ k => rfl
 | succ d ih =>
  intro c0 c1 c2 c3 c4 g1 g3 g4 hd k hk
  cases k with
  | zero => omega
  | succ k =>
  have hl := g4.1
  have hk0 : Fuel k := by unfold Fuel; omega
  rw [Ys.t_succ]
  unfold Ys.g Ys.body
  rw [show (((d + 1 : Nat) : Int) == 0) = false by rw [beq_eq_false_iff_ne]; omega,cond_false,shapeOk_fv g1 g3 hk0]
  have key := iter_val (b := Ys.l0 k (Ys.f k) ((d + 1 : Nat) : Int) c4 (c4.length : Int) fun z0 => some z0) (fun v => ((c4.length : Int) - v.2).toNat) (fun v => 0 ≤ v.2 ∧ v.2 ≤ c4.length ∧ 1 ≤ v.1 ∧ v.1 ≤ 300)
   (fun v => bif sumL (Yay d) (c4.drop v.2.toNat) v.1 == 0 then some 301 else some (sumL (Yay d) (c4.drop v.2.toNat) v.1)) ?_ k (1,0) (by simp only []; omega) (by simp only []; omega)
  ·rw [key]
   show (bif !(YaL c0 c1 c2 c3 c4 && (!(c0 == 5) || decide ((c3.length : Int) ≤ 300))) then some 301 else bif sumL (Yay d) (List.drop 0 c4) 1 == 0 then some 301 else some (sumL (Yay d) (List.drop 0 c4) 1)) = some (bif Yay (d + 1) [.int .i64 c0,.str c1,.int .i64 c2,.sl c3,.sl c4] == 0 then 301 else Yay (d + 1) [.int .i64 c0,.str c1,.int .i64 c2,.sl c3,.sl c4])
   have el : Yay (d + 1) [.int .i64 c0,.str c1,.int .i64 c2,.sl c3,.sl c4] = bif sumL (Yay d) c4 1 == 0 then 0 else bif YaL c0 c1 c2 c3 c4 then sumL (Yay d) c4 1 else 0 := rfl
   rw [List.drop_zero,el]
   have hs := sumL_range (f := Yay d) (fun r => (YaS d r).1) (rs := c4) (n := 1) (by omega) (by omega)
   by_cases hz : sumL (Yay d) c4 1 = 0
   ·rw [hz]
    cases (YaL c0 c1 c2 c3 c4 && (!(c0 == 5) || decide ((c3.length : Int) ≤ 300))) <;> rfl
   ·have hz' : (sumL (Yay d) c4 1 == 0) = false := by rw [beq_eq_false_iff_ne]; exact hz
    rw [hz',cond_false,cond_false]
    by_cases hsh : YaL c0 c1 c2 c3 c4 = true
    ·have h5 : (!(c0 == 5) || decide ((c3.length : Int) ≤ 300)) = true := by
      by_cases h5 : c0 = 5
      ·subst h5
       have : (c3.length : Int) = c4.length := by
        unfold YaL at hsh
        simp at hsh
        omega
       have := hs.2.2 hz
       simp
       omega
      ·simp [h5]
     rw [hsh,h5]
     simp only [Bool.and_self,Bool.not_true,cond_false,cond_true,hz']
    ·rw [Bool.not_eq_true] at hsh
     rw [hsh]
     rfl
  ·rintro ⟨n,i⟩ ⟨i0,i1,n0,n1⟩ L hL
   simp only [] at i0 i1 n0 n1 hL ⊢
   by_cases hi : i < c4.length
   ·have hg := Y0.get g4 i0 hi
    have hr := YaS d (gR c4 i)
    have ih' := ih (c0 := gI c4 i 0) (c2 := gI c4 i 2) hg.2.2.1 hg.2.2.2.2.1 hg.2.2.2.2.2.1 (by omega) (k := k) (by omega)
    rw [← hg.1] at ih'
    simp (disch := omega) only [Ys.l0,atR,rdQ,Q.ask,ZY hi,cond_true,Y0.row g4,Z4,ZaQ,Z5,Zbl,Zan,Z9,show ((d + 1 : Nat) : Int) - 1 = (d : Int) by omega]
    rw [Ys.f_of ih',drop_gR i0 hi]
    simp only [sumL]
    by_cases hz : Yay d (gR c4 i) = 0
    ·rw [hz,show ((0 : Int) == 0) = true from rfl,cond_true,Z9 (by omega) (by omega),ZY (by omega)]
     simp
    ·rw [show (Yay d (gR c4 i) == 0) = false by rw [beq_eq_false_iff_ne]; exact hz,cond_false,Z9 (by omega) (by omega)]
     by_cases hn : n + Yay d (gR c4 i) > 300
     ·rw [ZY hn,if_pos (.inr hn)]
      rfl
     ·rw [ZZ hn,if_neg (by omega),cond_false,hL _ ⟨by simp only []; omega,by simp only []; omega,by simp only []; omega,by simp only []; omega⟩ (by simp only []; omega)]
   ·rw [drop_end (by omega)]
    simp only [Ys.l0,atR,rdQ,Q.ask,ZZ hi,cond_false,sumL]
    rw [show (n == 0) = false by rw [beq_eq_false_iff_ne]; omega,cond_false]
noncomputable def valB (c0 : Int) (c1 : BA) (c2 : Int) (c3 c4 : LD) : Bool := decide (Yay 6 [.int .i64 c0,.str c1,.int .i64 c2,.sl c3,.sl c4] > 0)
theorem spec_ValueOk_fv {c0 : Int} {c1 : BA} {c2 : Int} {c3 c4 : LD} (g1 : c1.size ≤ lim) (g3 : ZB RS lim c3) (g4 : ZB Y0 lim c4) {k : Nat} (hk : Zai 1 k) {β : Type} (K : Bool → Option β) : Y6.f k c0 c1 c2 c3 c4 K = K (valB c0 c1 c2 c3 c4) := Y6.f_of (by
 unfold Y6.t Y6.g
 rw [look_fv (by omega) (by omega) g1 g3 g4 hk]
 rfl) K
theorem impl_ValueOk_fv {c0 : Int} {c1 : BA} {c2 : Int} {c3 c4 : LD} (g1 : c1.size ≤ lim) (g3 : ZB RS lim c3) (g4 : ZB Y0 lim c4) {k : Nat} (hk : Zai 1 k) {β : Type} (K : Bool → Option β) : Yan.f k c0 c1 c2 c3 c4 K = K (valB c0 c1 c2 c3 c4) := Yan.f_of (by
 have hb : big = 2 ^ 64 := rfl
 have h1 : lv 1 = 2 ^ 65 := rfl
 unfold Yan.t Yan.g
 rw [Ys.f_of (show Ys.t k c0 c1 c2 c3 c4 6 = _ from measured_t 6 g1 g3 g4 (by omega) (by unfold Zai at hk; omega))]
 unfold valB
 have hr := YaS 6 [.int .i64 c0,.str c1,.int .i64 c2,.sl c3,.sl c4]
 generalize Yay 6 [.int .i64 c0,.str c1,.int .i64 c2,.sl c3,.sl c4] = n at *
 by_cases hz : n = 0
 ·subst hz; rfl
 ·rw [show (n == 0) = false by rw [beq_eq_false_iff_ne]; exact hz,cond_false,ZY (by omega),ZY (by omega)]) K
theorem YK.f_of {β : Type} {k a0 z0} (h : YK.t k a0 = some z0) (K : Bool → Option β) : YK.f k a0 K = K z0 := by unfold YK.f; rw [h]; rfl
set_option maxRecDepth 100000 in
theorem YK.same {a0 : LD} (g : ZB Yg lim a0) {k : Nat} (hk : Zai 1 k) : YK.t k a0 = Yk.t k a0 := by
 have hl := g.1
 have hlim : lim = 1048576 := rfl
 unfold YK.t Yk.t YK.g Yk.g
 refine congrArg (fun b => ZA b k 0) (funext fun L => funext fun v => ?_)
 simp only [YK.l0,atR,rdQ,Q.ask,Yk.l0,atR,rdQ,Q.ask,within_fv,YaV]
 refine bif_congr (fun h => ?_) (fun _ => rfl)
 by_cases h0 : 0 ≤ v ∧ v < a0.length
 ·obtain ⟨h0,h1⟩ := h0
  obtain ⟨-,-,-,-,k3,-,k5,k6,-⟩ := Yg.get g h0 h1
  simp (disch := omega) only [Yg.row g,Z4,ZaQ,Z5,Zbl,Zan]
  simp only [spec_ValueOk_fv k3 k5 k6 hk,impl_ValueOk_fv k3 k5 k6 hk]
 ·simp only [atRow_none h0]
theorem impl_WorksOk_fv {a0 : LD} (g : ZB Yg lim a0) {k : Nat} (hk : Zai 1 k) {β : Type} (K : Bool → Option β) : YK.f k a0 K = K (Yk.v a0) :=
 YK.f_of ((YK.same g hk).trans (Yk.tv g hk)) K
theorem YW.f_of {β : Type} {k a0 z0} (h : YW.t k a0 = some z0) (K : Bool → Option β) : YW.f k a0 K = K z0 := by unfold YW.f; rw [h]; rfl
set_option maxRecDepth 100000 in
theorem runsOk_fv {a : LD} (g : ZB RII lim a) {k : Nat} (hk : Fuel k) {β : Type} (K : Bool → Option β) : YW.f k a K = K (runsB a 0 && decide ((a.length : Int) ≤ 80)) := YW.f_of (by
 have hl := g.1
 have hlim : lim = 1048576 := rfl
 have hb : big = 2 ^ 64 := rfl
 have hc : ∀ {n : Int} {β : Type} (K : Bool → Option β),Y9.f k n K = K (inB n 0 10000) := fun K => isCopies_f K
 unfold YW.t YW.g
 rw [iter_all0 (n := a.length) (runP a 0) (r1 := some false) (r2 := some (decide ((a.length : Int) ≤ 80))) (by unfold Fuel at hk; omega)]
 ·unfold runsB
  generalize List.all _ _ = x
  cases x <;> rfl
 ·intro L i hi
  unfold runP
  simp (disch := omega) only [YW.l0,atR,rdQ,Q.ask,ZY (show (i : Int) < a.length by omega),cond_true,RII.row g,Z4,Z5,Zan,within_fv,hc,Z9]
  by_cases h0 : (i : Int) > 0
  ·simp (disch := omega) only [ZY h0,cond_true,RII.row g,Z4,Z5,Zan]
   cases inB (gI a (i : Int) 0) 1 1000000 <;> cases inB (gI a (i : Int) 1) 0 10000 <;> cases decide (gI a ((i : Int) - 1) 0 ≥ gI a (i : Int) 0) <;> rfl
  ·simp only [ZZ h0,cond_false]
   cases inB (gI a (i : Int) 0) 1 1000000 <;> cases inB (gI a (i : Int) 1) 0 10000 <;> rfl
 ·intro L
  simp [YW.l0,atR,rdQ,Q.ask]) K
theorem Yai.f_of {β : Type} {k aA aB z0} (h : Yai.t k aA aB = some z0) (K : Bool → Option β) : Yai.f k aA aB K = K z0 := by unfold Yai.f; rw [h]; rfl
theorem Yf.f_of {β : Type} {k a0 z0} (h : Yf.t k a0 = some z0) (K : Int → Option β) : Yf.f k a0 K = K z0 := by unfold Yf.f; rw [h]; rfl
theorem Yo.f_of {β : Type} {k a0 z0} (h : Yo.t k a0 = some z0) (K : Bool → Option β) : Yo.f k a0 K = K z0 := by unfold Yo.f; rw [h]; rfl
theorem Yak.f_of {β : Type} {k aA aB aC aI aH z0} (h : Yak.t k aA aB aC aI aH = some z0) (K : Bool → Option β) : Yak.f k aA aB aC aI aH K = K z0 := by unfold Yak.f; rw [h]; rfl
theorem runs_low (a : LD) : runsB a 1 = (runsB a 0 && (List.range a.length).all fun i => !(gI a (i : Int) 1 == 0)) := by
 unfold runsB
 rw [Bool.eq_iff_iff]
 simp only [Bool.and_eq_true,List.all_eq_true]
 have h1 : ∀ i,runP a 1 i = (runP a 0 i && !(gI a (i : Int) 1 == 0)) := fun i => by
  unfold runP
  have : inB (gI a (i : Int) 1) 1 10000 = (inB (gI a (i : Int) 1) 0 10000 && !(gI a (i : Int) 1 == 0)) := by
   unfold inB
   generalize gI a (i : Int) 1 = n
   by_cases h1 : 1 ≤ n
   ·rw [ZY h1,ZY (show 0 ≤ n by omega),show (n == 0) = false by rw [beq_eq_false_iff_ne]; omega]
    cases decide (n ≤ 10000) <;> rfl
   ·rw [ZZ h1]
    by_cases h0 : n = 0
    ·subst h0; rfl
    ·rw [ZZ (show ¬ 0 ≤ n by omega)]
     rfl
  rw [this]
  cases inB (gI a (i : Int) 0) 1 1000000 <;> cases inB (gI a (i : Int) 1) 0 10000 <;> cases gI a (i : Int) 1 == 0 <;> simp
 constructor
 ·intro h
  refine ⟨fun x hx => ?_,fun x hx => ?_⟩
  ·have := h x hx; rw [h1,Bool.and_eq_true] at this; exact this.1
  ·have := h x hx; rw [h1,Bool.and_eq_true] at this; exact this.2
 ·intro h x hx
  rw [h1,Bool.and_eq_true]
  exact ⟨h.1 x hx,h.2 x hx⟩
set_option maxRecDepth 100000 in
theorem Yak.same {aA : BA} {aB aC : Int} {aI aH : LD} (g0 : aA.size ≤ lim) (g3 : ZB Yg lim aI) (g4 : ZB RII lim aH) {k : Nat} (hk : Zai 1 k) : Yak.t k aA aB aC aI aH = YD.t k aA aB aC aI aH := by
 have hk0 : Fuel k := up0 hk
 have hl := g4.1
 have hlim : lim = 1048576 := rfl
 have hb : big = 2 ^ 64 := rfl
 have hc : ∀ {n : Int} {β : Type} (K : Bool → Option β),Y9.f k n K = K (inB n 0 10000) := fun K => isCopies_f K
 have hf : ∀ {β : Type} (K : Int → Option β),Yf.f k aH K = K (ZbV (fun i => gI aH (i : Int) 1 == 0) aH.length) := fun K => Yf.f_of (by
  unfold Yf.t Yf.g
  refine iter_findI (n := aH.length) _ some (by unfold Fuel at hk0; omega) (fun L i hi => ?_) (fun L => by simp [Yf.l0,atR,rdQ,Q.ask])
  have hs : ∀ {x y : Int} {β : Type} (K : Bool → Option β),Yai.f k x y K = K (y == 0) := fun K => Yai.f_of (by unfold Yai.t Yai.g; rfl) K
  simp (disch := omega) only [Yf.l0,atR,rdQ,Q.ask,ZY (show (i : Int) < aH.length by omega),cond_true,RII.row g4,Z4,Z5,Zan,hs,Z9]) K
 have hcf : ∀ {β : Type} (K : Bool → Option β),Yo.f k aH K = K (!(List.range aH.length).all fun i => !(gI aH (i : Int) 1 == 0)) := fun K => Yo.f_of (by
  unfold Yo.t Yo.g
  rw [hf,findI_all]) K
 have hr : ∀ {β : Type} (K : Int → Option β),YT.f k aA aB aC aI aH K = Yt.f k aH K := fun K => by
  unfold YT.f Yt.f
  have : YT.t k aA aB aC aI aH = Yt.t k aH := by
   unfold YT.t Yt.t YT.g Yt.g
   refine congrArg (fun b => ZA b k (0,0)) (funext fun L => funext fun v => ?_)
   simp only [YT.l0,atR,rdQ,Q.ask,Yt.l0,atR,rdQ,Q.ask]
  cases h2 : Yt.t k aH <;> simp only [this,h2]
 unfold Yak.t YD.t Yak.g YD.g
 simp only [impl_NameOk_f,Yj.fv g0 hk0,within_fv,YaV,hc,l11Runs_fv g4 hk0,runsOk_fv g4 hk0,impl_WorksOk_fv g3 hk,Yk.fv g3 hk,hcf,hr,runs_low]
 generalize Yj.v aA = b1
 generalize inB aB 0 10000 = b2
 generalize inB aC 0 1000000 = b3
 generalize Yk.v aI = b4
 generalize runsB aH 0 = b5
 generalize decide ((aH.length : Int) ≤ 80) = b6
 generalize List.all _ _ = b7
 cases b1 <;> cases b2 <;> cases b3 <;> cases b4 <;> cases b5 <;> cases b6 <;> cases b7 <;> rfl
theorem copyIsle_fv {a0 : BA} {a1 a2 : Int} {a3 a4 : LD} (g3 : ZB Yg lim a3) (g4 : ZB RII lim a4) {k : Nat} (hk : Zai 1 k) {β : Type} (K : BA → Int → Int → LC → LC → Option β) : Yah.f k a0 a1 a2 a3 a4 K = K a0 a1 a2 (Zc a3) (a4.map (·.map C.d)) := Yah.f_of (by
 unfold Yah.t Yah.g
 rw [copyWorks_fv g3 hk,clone_run_fv g4]) K
theorem l13Copy_fv {a0 : BA} {a1 a2 : Int} {a3 a4 : LD} (g3 : ZB Yg lim a3) (g4 : ZB RII lim a4) {k : Nat} (hk : Zai 1 k) {β : Type} (K : BA → Int → Int → LC → LC → Option β) : Yac.f k a0 a1 a2 a3 a4 K = K a0 a1 a2 (Zc a3) (a4.map (·.map C.d)) := Yac.f_of (by
 have l4 := g4.1
 have hlim : lim = 1048576 := rfl
 have hm : Z8 = 2 ^ 36 := rfl
 unfold Yac.t Yac.g
 rw [l12Works_fv g3 hk,ZH (RII.flat g4.2),ZH (by simp only [List.length_nil,map_len]; omega),List.nil_append]) K
theorem IsleOkI {aA : BA} {aB aC : Int} {aI aH : LD} (g0 : aA.size ≤ lim) (g3 : ZB Yg lim aI) (g4 : ZB RII lim aH) {k : Nat} (hk : Zai 1 k) {β : Type} (K : Bool → Option β) : Yak.f k aA aB aC aI aH K = K (YD.v aA aB aC aI aH) := Yak.f_of ((Yak.same g0 g3 g4 hk).trans (YD.tv g0 g3 g4 hk)) K
noncomputable def obeyB (a0 : BA) (a1 a2 : Int) (a3 a4 : LD) (n : Int) (b : LD) : Bool := YD.v a0 a1 a2 a3 a4 && (Yk.v b && (!decide (n ≤ a2) && !decide (n > 1000000)))
noncomputable def obeyV (a0 : BA) (a1 a2 : Int) (a3 a4 : LD) (n : Int) (b : LD) : BA × Int × Int × LC × LC × Bool :=
 bif obeyB a0 a1 a2 a3 a4 n b then (a0,a1,n,Zc b,Zc a4,true) else (a0,a1,a2,Zc a3,Zc a4,false)
theorem spec_Obey_t {a0 : BA} {a1 a2 n : Int} {a3 a4 b : LD} (g0 : a0.size ≤ lim) (g3 : ZB Yg lim a3) (g4 : ZB RII lim a4) (gb : ZB Yg lim b) {k : Nat} (hk : Zai 1 k) : Yar.t k a0 a1 a2 a3 a4 n b = some (obeyV a0 a1 a2 a3 a4 n b) := by
 unfold Yar.t Yar.g
 rw [l13Copy_fv g3 g4 hk,YD.fv g0 g3 g4 hk,Yk.fv gb hk,l12Works_fv gb hk,← RII.deep g4.2]
 unfold obeyV obeyB
 cases YD.v a0 a1 a2 a3 a4 <;> cases Yk.v b <;> cases decide (n ≤ a2) <;> cases decide (n > 1000000) <;> rfl
theorem isle_parts {a0 : BA} {a1 a2 : Int} {a3 : LD} {l : List (Int × Int)} (g0 : a0.size ≤ lim) (g3 : ZB Yg lim a3) (g4 : ZB RII lim (ofP l)) (h : YD.v a0 a1 a2 a3 (ofP l) = true) : runsB (ofP l) 1 = true ∧ Yk.v a3 = true ∧ l.length ≤ 80 := by
 have hk : Zai 1 (lv 1) := Nat.le_refl _
 have ht := YD.tv (aB := a1) (aC := a2) g0 g3 g4 hk
 have hk0 : Fuel (lv 1) := up0 hk
 rw [h] at ht
 unfold YD.t YD.g at ht
 simp only [Yj.fv g0 hk0,YaV,Yk.fv g3 hk,l11Runs_fv g4 hk0,YaC] at ht
 by_cases h80 : (l.length : Int) ≤ 80
 ·generalize Yj.v a0 = b1 at ht
  generalize inB a1 0 10000 = b2 at ht
  generalize inB a2 0 1000000 = b3 at ht
  generalize Yk.v a3 = b4 at ht ⊢
  generalize runsB (ofP l) 1 = b5 at ht ⊢
  cases b1 <;> cases b2 <;> cases b3 <;> cases b4 <;> cases b5 <;> simp at ht ⊢
  omega
 ·rw [ZZ h80] at ht
  generalize Yj.v a0 = b1 at ht
  generalize inB a1 0 10000 = b2 at ht
  generalize inB a2 0 1000000 = b3 at ht
  generalize Yk.v a3 = b4 at ht
  cases b1 <;> cases b2 <;> cases b3 <;> cases b4 <;> simp at ht
theorem runs_pairs {l : List (Int × Int)} (h : runsB (ofP l) 1 = true) : Asc l ∧ ∀ p ∈ l,1 ≤ p.2 ∧ p.2 ≤ 10000 ∧ 1 ≤ p.1 ∧ p.1 ≤ 1000000 := by
 unfold runsB at h
 rw [List.all_eq_true] at h
 have hp : ∀ i (hi : i < l.length),(1 ≤ l[i].2 ∧ l[i].2 ≤ 10000 ∧ 1 ≤ l[i].1 ∧ l[i].1 ≤ 1000000) ∧ ∀ h0 : 0 < i,l[i - 1].1 < l[i].1 := fun i hi => by
  have := h i (by rw [List.mem_range,YaC]; exact hi)
  unfold runP inB at this
  rw [YaP hi,gI_ofP1 hi] at this
  simp only [Bool.and_eq_true,Bool.or_eq_true,Bool.not_eq_true',decide_eq_true_eq,decide_eq_false_iff_not] at this
  refine ⟨⟨this.2.1.1,this.2.1.2,this.1.1,this.1.2⟩,fun h0 => ?_⟩
  rw [show ((i : Int) - 1) = ((i - 1 : Nat) : Int) by omega,YaP (by omega)] at this
  rcases this.2.2 with q | q <;> omega
 have hd : ∀ d i (hi : i + d + 1 < l.length),l[i].1 < l[i + d + 1].1 := fun d => by
  induction d with
  | zero => intro i hi; have := (hp (i + 1) hi).2 (by omega); simpa using this
  | succ d ih =>
   intro i hi
   have h1 := ih i (by omega)
   have h2 := (hp (i + (d + 1) + 1) hi).2 (by omega)
   simp only [Nat.add_sub_cancel] at h2
   have e : i + (d + 1) = i + d + 1 := by omega
   simp only [e] at h2 ⊢
   omega
 refine ⟨List.pairwise_iff_getElem.mpr fun i j hi hj hij => ?_,fun p hpm => ?_⟩
 ·have := hd (j - i - 1) i (by omega)
  have e : i + (j - i - 1) + 1 = j := by omega
  simp only [e] at this
  exact this
 ·obtain ⟨i,hi,rfl⟩ := List.mem_iff_getElem.mp hpm
  exact (hp i hi).1
noncomputable def worksP (a : LD) (i : Nat) : Bool := inB (gI a (i : Int) 0) 1 1000000 && (inB (gI a (i : Int) 1) 1 10000 && (valB (gI a (i : Int) 2) (gS a (i : Int) 3) (gI a (i : Int) 4) (gL a (i : Int) 5) (gL a (i : Int) 6) && (!decide ((i : Int) > 0) || !decide (gI a ((i : Int) - 1) 0 ≥ gI a (i : Int) 0))))
set_option maxRecDepth 100000 in
theorem works_low {a : LD} (g : ZB Yg lim a) (h : Yk.v a = true) : ∀ i,i < a.length → worksP a i = true := by
 have hl := g.1
 have hlim : lim = 1048576 := rfl
 have hb : big = 2 ^ 64 := rfl
 have hb1 : lv 1 = 2 ^ 65 := rfl
 have hk : Zai 1 (lv 1) := Nat.le_refl _
 have ht := Yk.tv g hk
 rw [h] at ht
 unfold Yk.t Yk.g at ht
 rw [iter_all0 (n := a.length) (worksP a) (r1 := some false) (r2 := some (decide ((a.length : Int) ≤ 40))) (by omega)] at ht
 ·cases hq : (List.range a.length).all (worksP a) with
  | false => rw [hq] at ht; simp at ht
  | true =>
   rw [List.all_eq_true] at hq
   exact fun i hi => hq i (List.mem_range.mpr hi)
 ·intro L i hi
  obtain ⟨-,-,-,-,k3,-,k5,k6,-⟩ := Yg.get g (v := (i : Int)) (by omega) (by omega)
  unfold worksP
  simp (disch := omega) only [Yk.l0,atR,rdQ,Q.ask,ZY (show (i : Int) < a.length by omega),cond_true,Yg.row g,Z4,Z5,ZaQ,Zbl,Zan,YaV,spec_ValueOk_fv k3 k5 k6 hk,Z9]
  by_cases h0 : (i : Int) > 0
  ·simp (disch := omega) only [ZY h0,cond_true,Yg.row g,Z4,Z5,ZaQ,Zbl,Zan,Z9]
   cases inB (gI a (i : Int) 0) 1 1000000 <;> cases inB (gI a (i : Int) 1) 1 10000 <;> cases valB (gI a (i : Int) 2) (gS a (i : Int) 3) (gI a (i : Int) 4) (gL a (i : Int) 5) (gL a (i : Int) 6) <;> cases decide (gI a ((i : Int) - 1) 0 ≥ gI a (i : Int) 0) <;> rfl
  ·simp only [ZZ h0,cond_false]
   cases inB (gI a (i : Int) 0) 1 1000000 <;> cases inB (gI a (i : Int) 1) 1 10000 <;> cases valB (gI a (i : Int) 2) (gS a (i : Int) 3) (gI a (i : Int) 4) (gL a (i : Int) 5) (gL a (i : Int) 6) <;> rfl
 ·intro L
  simp [Yk.l0,atR,rdQ,Q.ask]
def YaE (l : List (Int × Int)) (uid : Int) : Int := match l.find? fun p => p.1 == uid with | some p => p.2 | none => 0
set_option maxRecDepth 100000 in
theorem l11Run_fv {l : List (Int × Int)} {uid : Int} (hl : l.length ≤ 1048576) {k : Nat} (hk : Fuel k) {β : Type} (K : Int → Bool → Option β) : YX.f k (ofP l) uid K = K (YaE l uid) (l.any fun p => p.1 == uid) := by
 have hb : big = 2 ^ 64 := rfl
 refine YX.f_of ?_ K
 unfold YX.t YX.g
 refine (iter_val (fun v : Int => ((l.length : Int) - v).toNat) (fun v => 0 ≤ v ∧ v ≤ (l.length : Int) ∧ ∀ p ∈ l.take v.toNat,(p.1 == uid) = false) (fun _ => some (YaE l uid,l.any fun p => p.1 == uid)) ?_ k 0 ⟨by omega,by omega,by simp⟩ (by unfold Fuel at hk; omega))
 rintro v ⟨v0,v1,hv⟩ L hL
 obtain ⟨i,rfl⟩ : ∃ i : Nat,v = (i : Int) := ⟨v.toNat,by omega⟩
 simp only [Int.toNat_natCast] at hv
 simp only [YX.l0,atR,rdQ,Q.ask,YaC]
 have hs : l = l.take i ++ l.drop i := (List.take_append_drop i l).symm
 have hf : (l.take i).find? (fun p => p.1 == uid) = none := by rw [List.find?_eq_none]; intro p hp; rw [hv p hp]; simp
 have ha : (l.take i).any (fun p => p.1 == uid) = false := by rw [List.any_eq_false]; intro p hp; rw [hv p hp]; simp
 by_cases h : i < l.length
 ·rw [ZY (show (i : Int) < (l.length : Int) by omega)]
  simp only [cond_true,YaJ h,Z4,Z5,Zan]
  have hd : l.drop i = l[i] :: l.drop (i + 1) := (List.getElem_cons_drop h).symm
  cases hq : l[i].1 == uid with
  | true =>
   simp only [cond_true]
   congr 2
   ·unfold YaE
    conv => rhs; rw [hs,List.find?_append,hf,hd,List.find?_cons_of_pos (by simpa using hq)]
    rfl
   ·conv => rhs; rw [hs,List.any_append,ha,hd,List.any_cons,hq]
    rfl
  | false =>
   simp only [cond_false]
   rw [Z9 (by omega) (by omega)]
   refine hL _ ⟨by omega,by omega,fun p hp => ?_⟩ (by omega)
   rw [show ((i : Int) + 1).toNat = i + 1 by omega,List.take_add_one,List.getElem?_eq_getElem h] at hp
   rcases List.mem_append.mp hp with hp | hp
   ·exact hv p hp
   ·simp at hp; subst hp; exact hq
 ·rw [ZZ (show ¬ (i : Int) < (l.length : Int) by omega)]
  simp only [cond_false]
  have he : l.take i = l := List.take_of_length_le (by omega)
  rw [he] at hf ha
  unfold YaE
  rw [hf,ha]
set_option maxRecDepth 100000 in
theorem l13Put_fv {l : List (Int × Int)} {uid n : Int} (hl : l.length ≤ 1048576) {k : Nat} (hk : Fuel k) {β : Type} (K : LC → Option β) : YV.f k (ofP l) uid n K = K (upP (putR uid n (n == 0) l)) := by
 have hb : big = 2 ^ 64 := rfl
 have hm : Z8 = 2 ^ 36 := rfl
 refine YV.f_of ?_ K
 unfold YV.t YV.g
 have one : ∀ u m : Int,([[.d (.int .i64 u),.d (.int .i64 m)]] : LC) = upP [(u,m)] := fun _ _ => rfl
 refine (iter_val (fun v : Bool × Int × LC => ((l.length : Int) - v.2.1).toNat) (fun v => 0 ≤ v.2.1 ∧ v.2.1 ≤ (l.length : Int) ∧ ∃ q,v.2.2 = upP q ∧ q.length ≤ v.2.1.toNat + 1 ∧ (v.1 = false → q.length ≤ v.2.1.toNat) ∧ q ++ putR uid n v.1 (l.drop v.2.1.toNat) = putR uid n (n == 0) l) (fun _ => some (upP (putR uid n (n == 0) l))) ?_ k _ ⟨by simp,by simp,[],rfl,by simp,by simp,by simp⟩ (by unfold Fuel at hk; simp only []; omega))
 rintro ⟨b,v,out⟩ ⟨v0,v1,q,hq,hql,hqf,hv⟩ L hL
 simp only [] at v0 v1 hq hql hqf hv hL
 subst hq
 obtain ⟨i,rfl⟩ : ∃ i : Nat,v = (i : Int) := ⟨v.toNat,by omega⟩
 simp only [Int.toNat_natCast] at hql hqf hv
 simp only [YV.l0,atR,rdQ,Q.ask,YaC,one]
 by_cases h : i < l.length
 ·rw [ZY (show (i : Int) < (l.length : Int) by omega)]
  rw [(List.getElem_cons_drop h).symm] at hv
  simp only [putR] at hv
  have hw : IntKind.wrap .i64 ((i : Int) + 1) = (i : Int) + 1 := Z9 (by omega) (by omega)
  have ht : ((i : Int) + 1).toNat = i + 1 := by omega
  simp only [cond_true,YaJ h,Z4,Z5,Zan,upP_app,hw]
  cases b with
  | false =>
   have hqf' := hqf rfl
   by_cases h1 : uid ≤ l[i].1
   ·simp only [h1,and_self,if_true,Bool.false_or,decide_true] at hv
    rw [ZY (show l[i].1 ≥ uid from h1)]
    simp only [Bool.not_false,cond_true]
    rw [ZH (by simp only [YaT,List.length_singleton]; omega)]
    by_cases h2 : l[i].1 = uid
    ·rw [if_pos h2] at hv
     rw [show (l[i].1 != uid) = false by simp [h2]]
     simp only [cond_false]
     exact hL _ ⟨by simp only []; omega,by simp only []; omega,q ++ [(uid,n)],rfl,by simp only [ht,List.length_append,List.length_singleton]; omega,by simp,by simp only [ht]; rw [← hv]; simp⟩ (by simp only []; omega)
    ·rw [if_neg h2] at hv
     rw [show (l[i].1 != uid) = true by simp [h2]]
     simp only [cond_true]
     rw [ZH (by simp only [YaT,List.length_append,List.length_singleton]; omega)]
     exact hL _ ⟨by simp only []; omega,by simp only []; omega,q ++ [(uid,n)] ++ [(l[i].1,l[i].2)],rfl,by simp only [ht,List.length_append,List.length_singleton]; omega,by simp,by simp only [ht]; rw [← hv]; simp⟩ (by simp only []; omega)
   ·simp only [h1,and_false,if_false,List.nil_append,Bool.false_or,decide_false] at hv
    rw [ZZ (show ¬ l[i].1 ≥ uid from h1)]
    have h2 : ¬ l[i].1 = uid := by omega
    rw [if_neg h2] at hv
    rw [show (l[i].1 != uid) = true by simp [h2]]
    simp only [Bool.not_false,cond_true,cond_false]
    rw [ZH (by simp only [YaT,List.length_singleton]; omega)]
    exact hL _ ⟨by simp only []; omega,by simp only []; omega,q ++ [(l[i].1,l[i].2)],rfl,by simp only [ht,List.length_append,List.length_singleton]; omega,fun _ => by simp only [ht,List.length_append,List.length_singleton]; omega,by simp only [ht]; rw [← hv]; simp⟩ (by simp only []; omega)
  | true =>
   simp only [Bool.true_eq_false,false_and,if_false,List.nil_append,Bool.true_or] at hv
   simp only [Bool.not_true,cond_false]
   by_cases h2 : l[i].1 = uid
   ·rw [if_pos h2,List.nil_append] at hv
    rw [show (l[i].1 != uid) = false by simp [h2]]
    simp only [cond_false]
    exact hL _ ⟨by simp only []; omega,by simp only []; omega,q,rfl,by simp only [ht]; omega,by simp,by simp only [ht]; exact hv⟩ (by simp only []; omega)
   ·rw [if_neg h2] at hv
    rw [show (l[i].1 != uid) = true by simp [h2]]
    simp only [cond_true]
    rw [ZH (by simp only [YaT,List.length_singleton]; omega)]
    exact hL _ ⟨by simp only []; omega,by simp only []; omega,q ++ [(l[i].1,l[i].2)],rfl,by simp only [ht,List.length_append,List.length_singleton]; omega,by simp,by simp only [ht]; rw [← hv]; simp⟩ (by simp only []; omega)
 ·rw [ZZ (show ¬ (i : Int) < (l.length : Int) by omega)]
  rw [List.drop_eq_nil_of_le (by omega)] at hv
  simp only [cond_false]
  cases b with
  | false =>
   simp only [Bool.not_false,cond_true,upP_app]
   rw [ZH (by simp only [YaT,List.length_singleton]; have := hqf rfl; omega),← hv]
   simp [putR]
  | true =>
   simp only [Bool.not_true,cond_false]
   rw [← hv]
   simp [putR]
section
variable {a0 : BA} {a1 a2 : Int} {a3 : LD} {l : List (Int × Int)}
noncomputable def YaF (a0 : BA) (a1 a2 : Int) (a3 : LD) (l : List (Int × Int)) : Int := ZbV (fun i => decide (gI (ofP l) (i : Int) 1 > Yu.v a0 a1 a2 a3 (ofP l) (gI (ofP l) (i : Int) 0))) l.length
def lackP (a3 : LD) (l : List (Int × Int)) (i : Nat) : Bool := decide (YaE l (gI a3 (i : Int) 0) < gI a3 (i : Int) 1)
noncomputable def moveV (a0 : BA) (a1 a2 : Int) (a3 : LD) (l : List (Int × Int)) : List (Int × Int) × Int × Int :=
 bif YD.v a0 a1 a2 a3 (ofP l) then
  (bif decide (YaF a0 a1 a2 a3 l ≥ 0) then (putR (gI (ofP l) (YaF a0 a1 a2 a3 l) 0) (gI (ofP l) (YaF a0 a1 a2 a3 l) 1 - 1) (gI (ofP l) (YaF a0 a1 a2 a3 l) 1 - 1 == 0) l,gI (ofP l) (YaF a0 a1 a2 a3 l) 0,-1)
  else (bif decide (Yt.v (ofP l) < a1) then
   (match (List.range a3.length).find? (lackP a3 l) with
   | some i => (putR (gI a3 (i : Int) 0) (YaE l (gI a3 (i : Int) 0) + 1) (YaE l (gI a3 (i : Int) 0) + 1 == 0) l,gI a3 (i : Int) 0,1)
   | none => (l,0,0)) else (l,0,0)))
 else (l,0,0)
def moveR (a0 : BA) (a1 a2 : Int) (a3 : LD) (z : List (Int × Int) × Int × Int) : BA × Int × Int × LC × LC × Int × Int := (a0,a1,a2,Zc a3,upP z.1,z.2.1,z.2.2)
theorem runN_mem {l : List (Int × Int)} {uid : Int} (h : ∀ p ∈ l,1 ≤ p.2 ∧ p.2 ≤ 10000) : 0 ≤ YaE l uid ∧ YaE l uid ≤ 10000 := by
 unfold YaE
 split
 ·rename_i p hp
  have := h p (List.mem_of_find?_eq_some hp)
  omega
 ·omega
set_option maxRecDepth 100000 in
theorem spec_Move_t (g0 : a0.size ≤ lim) (g3 : ZB Yg lim a3) (g4 : ZB RII lim (ofP l)) {k : Nat} (hk : Zai 1 k) : Y8.t k a0 a1 a2 a3 (ofP l) = some (moveR a0 a1 a2 a3 (moveV a0 a1 a2 a3 l)) := by
 have hk0 : Fuel k := up0 hk
 have hb : big = 2 ^ 64 := rfl
 have hlim : lim = 1048576 := rfl
 have l4 := g4.1
 have l3 := g3.1
 rw [YaC] at l4
 unfold Y8.t Y8.g Y8.m; simp only [atR,rdQ,Q.ask]
 rw [l13Copy_fv g3 g4 hk,YD.fv g0 g3 g4 hk,ofP_up]
 unfold moveV
 cases hok : YD.v a0 a1 a2 a3 (ofP l) with
 | false => rfl
 | true =>
  obtain ⟨hr,hw,h80⟩ := isle_parts g0 g3 g4 hok
  obtain ⟨hasc,hlow⟩ := runs_pairs hr
  have hover : ∀ {β : Type} (K : Int → Option β),YM.f k a0 a1 a2 a3 (ofP l) K = K (YaF a0 a1 a2 a3 l) := fun K => YM.f_of (by
   unfold YM.t YM.g YaF
   refine iter_findI (n := l.length) _ some (by unfold Fuel at hk0; omega) (fun L i hi => ?_) (fun L => by simp [YM.l0,atR,rdQ,Q.ask,YaC])
   simp (disch := omega) only [YM.l0,atR,rdQ,Q.ask,YaC,ZY (show (i : Int) < l.length by omega),cond_true,YaJ hi,Z4,Z5,Zan,Yu.fv g0 g3 g4 hk0,YaP hi,gI_ofP1 hi,Z9]) K
  simp only [Bool.not_true,cond_false,cond_true,hover]
  by_cases ho : YaF a0 a1 a2 a3 l ≥ 0
  ·rw [ZY ho]
   obtain ⟨h1,h2,h3,h4⟩ := findI_some (p := fun i => decide (gI (ofP l) (i : Int) 1 > Yu.v a0 a1 a2 a3 (ofP l) (gI (ofP l) (i : Int) 0))) (n := l.length) ho
   change (YaF a0 a1 a2 a3 l).toNat < l.length at h1
   change (((YaF a0 a1 a2 a3 l).toNat : Nat) : Int) = YaF a0 a1 a2 a3 l at h3
   generalize YaF a0 a1 a2 a3 l = v at *
   obtain ⟨i,rfl⟩ : ∃ i : Nat,v = (i : Int) := ⟨v.toNat,by omega⟩
   simp only [Int.toNat_natCast] at h1
   have hp := hlow l[i] (List.getElem_mem h1)
   simp only [cond_true,YaJ h1,Z4,Z5,Zan,YaP h1,gI_ofP1 h1]
   rw [Z9 (by omega) (by omega),l13Put_fv (by omega) hk0]
   rfl
  ·rw [ZZ ho]
   simp only [cond_false]
   by_cases hs : Yt.v (ofP l) < a1
   ·rw [ZY hs]
    simp only [cond_true]
    refine (iter_find (n := a3.length) (lackP a3 l) (r1 := fun i => some (moveR a0 a1 a2 a3 (putR (gI a3 (i : Int) 0) (YaE l (gI a3 (i : Int) 0) + 1) (YaE l (gI a3 (i : Int) 0) + 1 == 0) l,gI a3 (i : Int) 0,1))) (r2 := some (moveR a0 a1 a2 a3 (l,0,0))) (by unfold Fuel at hk0; omega) (fun L i hi => ?_) (fun L => ?_)).trans ?_
    ·have hn := runN_mem (uid := gI a3 (i : Int) 0) fun p hp => ⟨(hlow p hp).1,(hlow p hp).2.1⟩
     simp (disch := omega) only [Y8.l0,atR,rdQ,Q.ask,ZY (show (i : Int) < a3.length by omega),cond_true,Yt.fv g4 hk0,ZY hs,Yg.row g3,Z4,Z5,ZaQ,Zbl,Zan,l11Run_fv (show l.length ≤ 1048576 by omega) hk0,Z9,l13Put_fv (show l.length ≤ 1048576 by omega) hk0]
     rfl
    ·simp only [Y8.l0,atR,rdQ,Q.ask,ZZ (show ¬ (a3.length : Int) < a3.length by omega),cond_false]
     rfl
    ·cases (List.range a3.length).find? (lackP a3 l) <;> rfl
   ·rw [ZZ hs,iter_step (by unfold Fuel at hk0; omega)]
    simp only [Y8.l0,atR,rdQ,Q.ask,Yt.fv g4 hk0,ZZ hs,cond_false]
    cases decide ((0 : Int) < a3.length) <;> rfl
theorem moveV_back (g0 : a0.size ≤ lim) (g3 : ZB Yg lim a3) (g4 : ZB RII lim (ofP l)) : ZB RII 2097152 (ofP (moveV a0 a1 a2 a3 l).1) ∧ (moveV a0 a1 a2 a3 l).1.length ≤ 2097152 := by
 have hlim : lim = 1048576 := rfl
 have l4 := g4.1
 rw [YaC] at l4
 have hw := ofP_wf g4
 have base : ZB RII 2097152 (ofP l) ∧ l.length ≤ 2097152 := ⟨ofP_ok (by omega) hw,by omega⟩
 have put : ∀ {u n : Int} {b : Bool},(Lit.int .i64 u).wf = true → (Lit.int .i64 n).wf = true → ZB RII 2097152 (ofP (putR u n b l)) ∧ (putR u n b l).length ≤ 2097152 := fun {u n b} h1 h2 => by
  have := putR_len (uid := u) (n := n) b l
  refine ⟨ofP_ok (by omega) fun p hp => ?_,by omega⟩
  rcases putR_mem hp with rfl | hp
  ·exact ⟨h1,h2⟩
  ·exact hw p hp
 have wf : ∀ {n : Int},-1 ≤ n → n ≤ 1000001 → (Lit.int .i64 n).wf = true := fun {n} h1 h2 => by simp [Lit.wf,IntKind.min,IntKind.max,IntKind.signed,IntKind.bits]; omega
 unfold moveV
 cases hok : YD.v a0 a1 a2 a3 (ofP l) with
 | false => exact base
 | true =>
  obtain ⟨hr,hwk,h80⟩ := isle_parts g0 g3 g4 hok
  obtain ⟨hasc,hlow⟩ := runs_pairs hr
  simp only [cond_true]
  by_cases ho : YaF a0 a1 a2 a3 l ≥ 0
  ·rw [ZY ho]
   obtain ⟨h1,h2,h3,h4⟩ := findI_some (p := fun i => decide (gI (ofP l) (i : Int) 1 > Yu.v a0 a1 a2 a3 (ofP l) (gI (ofP l) (i : Int) 0))) (n := l.length) ho
   change (YaF a0 a1 a2 a3 l).toNat < l.length at h1
   change (((YaF a0 a1 a2 a3 l).toNat : Nat) : Int) = YaF a0 a1 a2 a3 l at h3
   generalize YaF a0 a1 a2 a3 l = v at *
   obtain ⟨i,rfl⟩ : ∃ i : Nat,v = (i : Int) := ⟨v.toNat,by omega⟩
   simp only [Int.toNat_natCast] at h1
   have hp := hlow l[i] (List.getElem_mem h1)
   simp only [cond_true,YaP h1,gI_ofP1 h1]
   exact put (wf (by omega) (by omega)) (wf (by omega) (by omega))
  ·rw [ZZ ho]
   simp only [cond_false]
   cases decide (Yt.v (ofP l) < a1) with
   | false => exact base
   | true =>
    simp only [cond_true]
    split
    ·rename_i i hi
     have hlt := List.mem_range.mp (List.mem_of_find?_eq_some hi)
     have hwi := works_low g3 hwk i hlt
     unfold worksP inB at hwi
     simp only [Bool.and_eq_true,decide_eq_true_eq] at hwi
     have hn := runN_mem (uid := gI a3 (i : Int) 0) fun p hp => ⟨(hlow p hp).1,(hlow p hp).2.1⟩
     exact put (wf (by omega) (by omega)) (wf (by omega) (by omega))
    ·exact base
end
end Go.Proofs.Ytpgplbalenfgfaa
