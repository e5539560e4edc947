/- Printed,and by hand: the functions that FnObeyed reaches come to their end; the program's answer as the reference's. -/
import Derived.Test.YtpgplbalenfgfaaYFnObeyed0
import Derived.KernelRfl
set_option linter.unusedVariables false
set_option linter.unusedSimpArgs false
namespace Go.Proofs.Ytpgplbalenfgfaa
open Go Go.T Go.Proofs
def sumP (l : List (Int × Int)) : Int := (l.map (·.2)).sum
theorem sumP_cons (p : Int × Int) (l : List (Int × Int)) : sumP (p :: l) = p.2 + sumP l := by simp [sumP]
theorem YaZ (a b : List (Int × Int)) : sumP (a ++ b) = sumP a + sumP b := by simp [sumP,List.sum_append]
theorem YaY {lo hi : Int} : ∀ {l : List (Int × Int)},(∀ p ∈ l,lo ≤ p.2 ∧ p.2 ≤ hi) → lo * l.length ≤ sumP l ∧ sumP l ≤ hi * l.length
 | [],_ => by simp [sumP]
 | p :: l,h => by
  have := h p (by simp)
  have := YaY (l := l) fun q hq => h q (List.mem_cons_of_mem _ hq)
  rw [sumP_cons,List.length_cons]
  rw [show (((l.length + 1 : Nat)) : Int) = (l.length : Int) + 1 by omega,Int.mul_add,Int.mul_add]
  omega
set_option maxRecDepth 100000 in
theorem l13Sum_t {l : List (Int × Int)} (hl : l.length ≤ 1048576) (h : ∀ p ∈ l,-10000 ≤ p.2 ∧ p.2 ≤ 10000) {k : Nat} (hk : Fuel k) : Yt.t k (ofP l) = some (sumP l) := by
 have hb : big = 2 ^ 64 := rfl
 unfold Yt.t Yt.g
 refine iter_seq (fun i => (sumP (l.take i),(i : Int))) (n := l.length) (by unfold Fuel at hk; omega) (fun L i hi => ?_) (fun L => ?_)
 ·have h1 := YaY (l := l.take (i + 1)) fun p hp => h p (List.mem_of_mem_take hp)
  have hlen : (l.take (i + 1)).length = i + 1 := by rw [List.length_take]; omega
  have e : sumP (l.take (i + 1)) = sumP (l.take i) + l[i].2 := by
   rw [List.take_add_one,List.getElem?_eq_getElem hi,YaZ]
   simp [sumP]
  rw [hlen] at h1
  simp (disch := omega) only [Yt.l0,atR,rdQ,Q.ask,YaC,ZY (show (i : Int) < l.length by omega),cond_true,YaJ hi,Z4,Z5,Zan,← e,Z9]
  rfl
 ·simp only [Yt.l0,atR,rdQ,Q.ask,YaC,ZZ (show ¬ (l.length : Int) < l.length by omega),cond_false,List.take_length]
theorem pairs_runs {l : List (Int × Int)} (ha : Asc l) (h : ∀ p ∈ l,1 ≤ p.2 ∧ p.2 ≤ 10000 ∧ 1 ≤ p.1 ∧ p.1 ≤ 1000000) : runsB (ofP l) 1 = true := by
 unfold runsB
 rw [List.all_eq_true]
 intro i hi
 have hi : i < l.length := by rwa [List.mem_range,YaC] at hi
 have := h _ (List.getElem_mem hi)
 unfold runP inB
 rw [YaP hi,gI_ofP1 hi]
 simp only [Bool.and_eq_true,Bool.or_eq_true,Bool.not_eq_true',decide_eq_true_eq,decide_eq_false_iff_not]
 refine ⟨⟨by omega,by omega⟩,⟨by omega,by omega⟩,?_⟩
 by_cases h0 : i = 0
 ·exact .inl (by omega)
 ·right
  rw [show ((i : Int) - 1) = ((i - 1 : Nat) : Int) by omega,YaP (by omega)]
  have := List.pairwise_iff_getElem.mp ha (i - 1) i (by omega) hi (by omega)
  omega
structure IsleP (a0 : BA) (a1 a2 : Int) (a3 : LD) (l : List (Int × Int)) : Prop where
 name : Yj.v a0 = true
 room0 : 0 ≤ a1
 room1 : a1 ≤ 10000
 rev0 : 0 ≤ a2
 rev1 : a2 ≤ 1000000
 works : Yk.v a3 = true
 asc : Asc l
 low : ∀ p ∈ l,1 ≤ p.2 ∧ p.2 ≤ 10000 ∧ 1 ≤ p.1 ∧ p.1 ≤ 1000000
 len : l.length ≤ 80
 sum : sumP l ≤ a1
theorem isle_iff {a0 : BA} {a1 a2 : Int} {a3 : LD} {l : List (Int × Int)} (g0 : a0.size ≤ lim) (g3 : ZB Yg lim a3) (g4 : ZB RII lim (ofP l)) : YD.v a0 a1 a2 a3 (ofP l) = true ↔ IsleP a0 a1 a2 a3 l := by
 have hk : Zai 1 (lv 1) := Nat.le_refl _
 have ht := YD.tv (aB := a1) (aC := a2) g0 g3 g4 hk
 have hk0 : Fuel (lv 1) := up0 hk
 have hlim : lim = 1048576 := rfl
 have hl := g4.1
 rw [YaC] at hl
 unfold YD.t YD.g at ht
 simp only [Yj.fv g0 hk0,YaV,Yk.fv g3 hk,l11Runs_fv g4 hk0,YaC] at ht
 constructor
 ·intro h
  rw [h] at ht
  cases e1 : Yj.v a0 <;> rw [e1] at ht <;> simp only [cond_true,cond_false] at ht <;> try (cases ht; done)
  cases e2 : inB a1 0 10000 <;> rw [e2] at ht <;> simp only [cond_true,cond_false] at ht <;> try (cases ht; done)
  cases e3 : inB a2 0 1000000 <;> rw [e3] at ht <;> simp only [cond_true,cond_false] at ht <;> try (cases ht; done)
  cases e4 : Yk.v a3 <;> rw [e4] at ht <;> simp only [cond_true,cond_false] at ht <;> try (cases ht; done)
  cases e5 : runsB (ofP l) 1 && decide ((l.length : Int) ≤ 80) <;> rw [e5] at ht <;> simp only [cond_true,cond_false] at ht <;> try (cases ht; done)
  rw [Bool.and_eq_true,decide_eq_true_eq] at e5
  obtain ⟨h1,h2⟩ := runs_pairs e5.1
  rw [Yt.f_of (l13Sum_t hl (fun p hp => by have := h2 p hp; omega) hk0)] at ht
  simp only [Option.some.injEq,decide_eq_true_eq] at ht
  unfold inB at e2 e3
  simp only [Bool.and_eq_true,decide_eq_true_eq] at e2 e3
  exact ⟨e1,e2.1,e2.2,e3.1,e3.2,e4,h1,h2,by omega,ht⟩
 ·intro h
  have e2 : inB a1 0 10000 = true := by unfold inB; rw [ZY h.room0,ZY h.room1]; rfl
  have e3 : inB a2 0 1000000 = true := by unfold inB; rw [ZY h.rev0,ZY h.rev1]; rfl
  have hlen := h.len
  rw [h.name,e2,e3,h.works,pairs_runs h.asc h.low,ZY (show (l.length : Int) ≤ 80 by omega),Yt.f_of (l13Sum_t hl (fun p hp => by have := h.low p hp; omega) hk0),ZY h.sum] at ht
  simp only [Bool.and_self,cond_true,Option.some.injEq] at ht
  exact ht.symm
def wantN (a3 : LD) (uid : Int) : Int := if 0 ≤ ZbV (fun (i : Nat) => gI a3 (i : Int) 0 == uid) a3.length then gI a3 (ZbV (fun (i : Nat) => gI a3 (i : Int) 0 == uid) a3.length) 1 else 0
set_option maxRecDepth 100000 in
theorem wants_v {a0 : BA} {a1 a2 uid : Int} {a3 : LD} {l : List (Int × Int)} (g0 : a0.size ≤ lim) (g3 : ZB Yg lim a3) (g4 : ZB RII lim (ofP l)) : Yu.v a0 a1 a2 a3 (ofP l) uid = wantN a3 uid := by
 have hlim : lim = 1048576 := rfl
 have hl := g3.1
 have hb : big = 2 ^ 64 := rfl
 have ht := Yu.tv (aB := a1) (aC := a2) (a1 := uid) g0 g3 g4 (Nat.le_refl big)
 have h2 : Yu.t big a0 a1 a2 a3 (ofP l) uid = some (wantN a3 uid) := by
  unfold Yu.t Yu.g
  refine (iter_find (n := a3.length) (fun i => gI a3 (i : Int) 0 == uid) (r1 := fun i => some (gI a3 (i : Int) 1)) (r2 := some 0) (by omega) (fun L i hi => ?_) (fun L => ?_)).trans ?_
  ·simp (disch := omega) only [Yu.l0,atR,rdQ,Q.ask,ZY (show (i : Int) < a3.length by omega),cond_true,Yg.row g3,Z4,Z5,ZaQ,Zbl,Zan,Z9]
  ·simp only [Yu.l0,atR,rdQ,Q.ask,ZZ (show ¬ (a3.length : Int) < a3.length by omega),cond_false]
  ·unfold wantN ZbV
   cases (List.range a3.length).find? fun (i : Nat) => gI a3 (i : Int) 0 == uid with
   | none => rfl
   | some p => simp
 rw [h2] at ht
 exact (Option.some.inj ht).symm
theorem wantN_ge {a3 : LD} (g3 : ZB Yg lim a3) (hw : Yk.v a3 = true) (uid : Int) : 0 ≤ wantN a3 uid ∧ wantN a3 uid ≤ 10000 := by
 unfold wantN
 split
 ·rename_i h
  obtain ⟨h1,-,h3,-⟩ := findI_some h
  have := works_low g3 hw _ h1
  unfold worksP inB at this
  simp only [Bool.and_eq_true,decide_eq_true_eq] at this
  rw [← h3]
  omega
 ·omega
theorem works_asc {a3 : LD} (g3 : ZB Yg lim a3) (hw : Yk.v a3 = true) : ∀ i j,i < j → j < a3.length → gI a3 (i : Int) 0 < gI a3 (j : Int) 0 := by
 have hs : ∀ i,i + 1 < a3.length → gI a3 (i : Int) 0 < gI a3 ((i + 1 : Nat) : Int) 0 := fun i hi => by
  have := works_low g3 hw (i + 1) hi
  unfold worksP at this
  simp only [Bool.and_eq_true,Bool.or_eq_true,Bool.not_eq_true',decide_eq_true_eq,decide_eq_false_iff_not] at this
  rw [show (((i + 1 : Nat) : Int) - 1) = (i : Int) by omega] at this
  rcases this.2.2.2 with q | q <;> omega
 intro i j hij
 induction hij with
 | refl => exact hs i
 | @step m _ ih => intro hj; have h1 := ih (by omega); have h2 : gI a3 (m : Int) 0 < gI a3 ((m + 1 : Nat) : Int) 0 := hs m hj; show gI a3 (i : Int) 0 < gI a3 ((m + 1 : Nat) : Int) 0; omega
theorem wantN_at {a3 : LD} (g3 : ZB Yg lim a3) (hw : Yk.v a3 = true) {i : Nat} (hi : i < a3.length) : wantN a3 (gI a3 (i : Int) 0) = gI a3 (i : Int) 1 := by
 unfold wantN
 by_cases h : 0 ≤ ZbV (fun j => gI a3 (j : Int) 0 == gI a3 (i : Int) 0) a3.length
 ·rw [if_pos h]
  obtain ⟨h1,h2,h3,-⟩ := findI_some h
  rw [beq_iff_eq] at h2
  rw [← h3]
  generalize (ZbV (fun j => gI a3 (j : Int) 0 == gI a3 (i : Int) 0) a3.length).toNat = j at *
  rcases Nat.lt_trichotomy i j with q | q | q
  ·have := works_asc g3 hw i j q h1; omega
  ·rw [q]
  ·have := works_asc g3 hw j i q hi; omega
 ·have := (findI_none (p := fun (j : Nat) => gI a3 (j : Int) 0 == gI a3 (i : Int) 0) (n := a3.length) (by omega)).2 i hi
  rw [beq_self_eq_true] at this
  cases this
theorem wantN_pos {a3 : LD} {uid : Int} (h : 0 < wantN a3 uid) : ∃ i,i < a3.length ∧ gI a3 (i : Int) 0 = uid := by
 unfold wantN at h
 split at h
 ·rename_i h0
  obtain ⟨h1,h2,-⟩ := findI_some h0
  exact ⟨_,h1,by simpa using h2⟩
 ·omega
theorem YaA (p : Int × Int) (l : List (Int × Int)) (u : Int) : YaE (p :: l) u = if p.1 = u then p.2 else YaE l u := by
 unfold YaE
 rw [List.find?_cons]
 by_cases h : p.1 = u
 ·rw [show (p.1 == u) = true from by rw [beq_iff_eq]; exact h,if_pos h]
 ·rw [show (p.1 == u) = false from by rw [beq_eq_false_iff_ne]; exact h,if_neg h]
theorem runN_none {u : Int} : ∀ {l : List (Int × Int)},(∀ p ∈ l,p.1 ≠ u) → YaE l u = 0
 | [],_ => rfl
 | p :: l,h => by rw [YaA,if_neg (h p (by simp)),runN_none fun q hq => h q (by simp [hq])]
theorem YaR {u : Int} {b : List (Int × Int)} : ∀ {a : List (Int × Int)},(∀ p ∈ a,p.1 ≠ u) → YaE (a ++ b) u = YaE b u
 | [],_ => rfl
 | p :: a,h => by rw [List.cons_append,YaA,if_neg (h p (by simp)),YaR fun q hq => h q (by simp [hq])]
theorem runN_mid {A B B' : List (Int × Int)} {u v : Int} (hB : YaE B v = YaE B' v) : YaE (A ++ B) v = YaE (A ++ B') v := by
 induction A with
 | nil => exact hB
 | cons p A ih => rw [List.cons_append,List.cons_append,YaA,YaA,ih]
theorem asc_split {A B : List (Int × Int)} {u m : Int} (h : Asc (A ++ (u,m) :: B)) : (∀ p ∈ A,p.1 < u) ∧ (∀ p ∈ B,u < p.1) ∧ Asc (A ++ B) := by
 unfold Asc at *
 rw [List.pairwise_append] at h
 obtain ⟨h1,h2,h3⟩ := h
 rw [List.pairwise_cons] at h2
 refine ⟨fun p hp => h3 p hp _ List.mem_cons_self,fun p hp => h2.1 p hp,List.pairwise_append.mpr ⟨h1,h2.2,fun p hp q hq => h3 p hp q (List.mem_cons_of_mem _ hq)⟩⟩
theorem asc_put {A B : List (Int × Int)} {u n : Int} (h : Asc (A ++ B)) (hA : ∀ p ∈ A,p.1 < u) (hB : ∀ p ∈ B,u < p.1) : Asc (A ++ (u,n) :: B) := by
 unfold Asc at *
 rw [List.pairwise_append] at h ⊢
 obtain ⟨h1,h2,h3⟩ := h
 refine ⟨h1,List.pairwise_cons.mpr ⟨fun q hq => hB q hq,h2⟩,fun p hp q hq => ?_⟩
 rcases List.mem_cons.mp hq with rfl | hq
 ·exact hA p hp
 ·exact h3 p hp q hq
structure Step (l l' : List (Int × Int)) (u d : Int) : Prop where
 asc : Asc l'
 low : ∀ p ∈ l',1 ≤ p.2 ∧ p.2 ≤ 10000 ∧ 1 ≤ p.1 ∧ p.1 ≤ 1000000
 sum : sumP l' = sumP l + d
 run : ∀ v,YaE l' v = if v = u then YaE l v + d else YaE l v
theorem step_at {A B : List (Int × Int)} {u m n : Int} (h : Asc (A ++ (u,m) :: B)) (hl : ∀ p ∈ A ++ (u,m) :: B,1 ≤ p.2 ∧ p.2 ≤ 10000 ∧ 1 ≤ p.1 ∧ p.1 ≤ 1000000) (n1 : 1 ≤ n) (n2 : n ≤ 10000) : Step (A ++ (u,m) :: B) (A ++ (u,n) :: B) u (n - m) := by
 obtain ⟨h1,h2,h3⟩ := asc_split h
 have hu := hl (u,m) (by simp)
 refine ⟨asc_put h3 h1 h2,fun p hp => ?_,by rw [YaZ,YaZ,sumP_cons,sumP_cons]; show _ + (n + _) = _ + (m + _) + (n - m); omega,fun v => ?_⟩
 ·rcases List.mem_append.mp hp with q | q
  ·exact hl p (List.mem_append_left _ q)
  ·rcases List.mem_cons.mp q with rfl | q
   ·exact ⟨n1,n2,hu.2.2⟩
   ·exact hl p (List.mem_append_right _ (List.mem_cons_of_mem _ q))
 ·by_cases hv : v = u
  ·subst hv
   have hA : ∀ p ∈ A,p.1 ≠ v := fun p hp e => by have := h1 p hp; omega
   rw [YaR hA,YaR hA,YaA,YaA]
   simp
   omega
  ·rw [if_neg hv]
   exact runN_mid (u := u) (by rw [YaA,YaA,if_neg (fun e => hv e.symm),if_neg (fun e => hv e.symm)])
theorem step_drop {A B : List (Int × Int)} {u m : Int} (h : Asc (A ++ (u,m) :: B)) (hl : ∀ p ∈ A ++ (u,m) :: B,1 ≤ p.2 ∧ p.2 ≤ 10000 ∧ 1 ≤ p.1 ∧ p.1 ≤ 1000000) : Step (A ++ (u,m) :: B) (A ++ B) u (-m) := by
 obtain ⟨h1,h2,h3⟩ := asc_split h
 refine ⟨h3,fun p hp => hl p ?_,by rw [YaZ,YaZ,sumP_cons]; show _ = _ + (m + _) + -m; omega,fun v => ?_⟩
 ·rcases List.mem_append.mp hp with q | q
  ·exact List.mem_append_left _ q
  ·exact List.mem_append_right _ (List.mem_cons_of_mem _ q)
 ·by_cases hv : v = u
  ·subst hv
   have hA : ∀ p ∈ A,p.1 ≠ v := fun p hp e => by have := h1 p hp; omega
   rw [YaR hA,YaR hA,YaA,runN_none fun p hp e => by have := h2 p hp; omega]
   simp
   omega
  ·rw [if_neg hv]
   exact runN_mid (u := u) (by rw [YaA,if_neg (fun e => hv e.symm)])
theorem step_new {A B : List (Int × Int)} {u : Int} (h : Asc (A ++ B)) (hl : ∀ p ∈ A ++ B,1 ≤ p.2 ∧ p.2 ≤ 10000 ∧ 1 ≤ p.1 ∧ p.1 ≤ 1000000) (hA : ∀ p ∈ A,p.1 < u) (hB : ∀ p ∈ B,u < p.1) (u1 : 1 ≤ u) (u2 : u ≤ 1000000) : Step (A ++ B) (A ++ (u,1) :: B) u 1 := by
 refine ⟨asc_put h hA hB,fun p hp => ?_,by rw [YaZ,YaZ,sumP_cons]; show _ + (1 + _) = _ + _ + 1; omega,fun v => ?_⟩
 ·rcases List.mem_append.mp hp with q | q
  ·exact hl p (List.mem_append_left _ q)
  ·rcases List.mem_cons.mp q with rfl | q
   ·exact ⟨by show (1 : Int) ≤ 1; omega,by show (1 : Int) ≤ 10000; omega,u1,u2⟩
   ·exact hl p (List.mem_append_right _ q)
 ·by_cases hv : v = u
  ·subst hv
   have hA' : ∀ p ∈ A,p.1 ≠ v := fun p hp e => by have := hA p hp; omega
   rw [YaR hA',YaR hA',YaA,runN_none (l := B) fun p hp e => by have := hB p hp; omega]
   simp
  ·rw [if_neg hv]
   exact runN_mid (u := u) (by rw [YaA,if_neg (fun e => hv e.symm)])
theorem asc_cut {u : Int} : ∀ {l : List (Int × Int)},Asc l → (∃ A m B,l = A ++ (u,m) :: B ∧ YaE l u = m) ∨ ∃ A B,l = A ++ B ∧ (∀ p ∈ A,p.1 < u) ∧ (∀ p ∈ B,u < p.1) ∧ YaE l u = 0
 | [],_ => .inr ⟨[],[],rfl,by simp,by simp,rfl⟩
 | p :: l,h => by
  have h' := (List.pairwise_cons.mp h)
  rcases Int.lt_trichotomy p.1 u with q | q | q
  ·rcases asc_cut (u := u) h'.2 with ⟨A,m,B,e,hr⟩ | ⟨A,B,e,hA,hB,hr⟩
   ·exact .inl ⟨p :: A,m,B,by rw [e]; rfl,by rw [YaA,if_neg (by omega),hr]⟩
   ·refine .inr ⟨p :: A,B,by rw [e]; rfl,fun x hx => ?_,hB,by rw [YaA,if_neg (by omega),hr]⟩
    rcases List.mem_cons.mp hx with rfl | hx
    ·exact q
    ·exact hA x hx
  ·exact .inl ⟨[],p.2,l,by rw [← q]; rfl,by rw [YaA,if_pos q]⟩
  ·exact .inr ⟨[],p :: l,rfl,by simp,fun x hx => by
    rcases List.mem_cons.mp hx with rfl | hx
    ·exact q
    ·have := h'.1 x hx; omega,runN_none fun x hx e => by
    rcases List.mem_cons.mp hx with rfl | hx
    ·omega
    ·have := h'.1 x hx; omega⟩
theorem runN_of {l : List (Int × Int)} (h : Asc l) {p : Int × Int} (hp : p ∈ l) : YaE l p.1 = p.2 := by
 obtain ⟨A,B,rfl⟩ := List.append_of_mem hp
 obtain ⟨h1,-,-⟩ := asc_split (u := p.1) (m := p.2) h
 rw [YaR fun q hq e => by have := h1 q hq; omega,YaA,if_pos rfl]
inductive Moved (a1 : Int) (a3 : LD) (l : List (Int × Int)) : List (Int × Int) × Int × Int → Prop
 | less {l' : List (Int × Int)} {u : Int} (h : Step l l' u (-1)) (ho : wantN a3 u < YaE l u) : Moved a1 a3 l (l',u,-1)
 | more {l' : List (Int × Int)} {u : Int} (h : Step l l' u 1) (hn : ∀ v,YaE l v ≤ wantN a3 v) (hu : YaE l u < wantN a3 u) (hs : sumP l < a1) : Moved a1 a3 l (l',u,1)
 | calm (hn : ∀ v,YaE l v ≤ wantN a3 v) (hs : a1 ≤ sumP l ∨ ∀ i,i < a3.length → gI a3 (i : Int) 1 ≤ YaE l (gI a3 (i : Int) 0)) : Moved a1 a3 l (l,0,0)
set_option maxHeartbeats 2000000 in
theorem moveV_moved {a0 : BA} {a1 a2 : Int} {a3 : LD} {l : List (Int × Int)} (g0 : a0.size ≤ lim) (g3 : ZB Yg lim a3) (g4 : ZB RII lim (ofP l)) (h : IsleP a0 a1 a2 a3 l) : Moved a1 a3 l (moveV a0 a1 a2 a3 l) := by
 have hlim : lim = 1048576 := rfl
 have hb : big = 2 ^ 64 := rfl
 have hlen := h.len
 have hsum : Yt.v (ofP l) = sumP l := by
  have h1 := Yt.tv g4 (Nat.le_refl big)
  rw [l13Sum_t (by omega) (fun p hp => by have := h.low p hp; omega) (Nat.le_refl big)] at h1
  exact (Option.some.inj h1).symm
 unfold moveV
 rw [(isle_iff g0 g3 g4).mpr h,hsum]
 simp only [cond_true]
 by_cases ho : YaF a0 a1 a2 a3 l ≥ 0
 ·rw [ZY ho]
  obtain ⟨h1,h2,h3,h4⟩ := findI_some (p := fun i => decide (gI (ofP l) (i : Int) 1 > Yu.v a0 a1 a2 a3 (ofP l) (gI (ofP l) (i : Int) 0))) (n := l.length) ho
  change (YaF a0 a1 a2 a3 l).toNat < l.length at h1
  change (((YaF a0 a1 a2 a3 l).toNat : Nat) : Int) = YaF a0 a1 a2 a3 l at h3
  change decide (gI (ofP l) ((YaF a0 a1 a2 a3 l).toNat : Int) 1 > Yu.v a0 a1 a2 a3 (ofP l) (gI (ofP l) ((YaF a0 a1 a2 a3 l).toNat : Int) 0)) = true at h2
  generalize YaF a0 a1 a2 a3 l = v at *
  obtain ⟨i,rfl⟩ : ∃ i : Nat,v = (i : Int) := ⟨v.toNat,by omega⟩
  simp only [Int.toNat_natCast] at h1 h2
  have hw := wants_v (a1 := a1) (a2 := a2) (uid := l[i].1) g0 g3 g4
  simp only [YaP h1,gI_ofP1 h1,hw,decide_eq_true_eq] at h2
  simp only [cond_true,YaP h1,gI_ofP1 h1]
  have hmem := List.getElem_mem h1
  have hlow := h.low _ hmem
  have hrn := runN_of h.asc hmem
  obtain ⟨A,B,e⟩ := List.append_of_mem hmem
  generalize l[i] = p at h2 hlow hrn e ⊢
  obtain ⟨u,m⟩ := p
  simp only at h2 hlow hrn e ⊢
  subst e
  by_cases hm : m - 1 = 0
  ·rw [show (m - 1 == 0) = true from by rw [beq_iff_eq]; exact hm,putR_drop h.asc]
   have hs := step_drop h.asc h.low
   rw [show -m = -1 by omega] at hs
   exact .less hs (by omega)
  ·rw [show (m - 1 == 0) = false from by rw [beq_eq_false_iff_ne]; exact hm,putR_set h.asc]
   have hs := step_at (n := m - 1) h.asc h.low (by omega) (by omega)
   rw [show m - 1 - m = -1 by omega] at hs
   exact .less hs (by omega)
 ·rw [ZZ ho]
  have hno : ∀ v,YaE l v ≤ wantN a3 v := fun v => by
   rcases asc_cut (u := v) h.asc with ⟨A,m,B,e,hr⟩ | ⟨-,-,-,-,-,hr⟩
   ·have hin : (v,m) ∈ l := by rw [e]; simp
    obtain ⟨i,hi,he⟩ := List.mem_iff_getElem.mp hin
    have := (findI_none (p := fun i => decide (gI (ofP l) (i : Int) 1 > Yu.v a0 a1 a2 a3 (ofP l) (gI (ofP l) (i : Int) 0))) (n := l.length) (by unfold YaF at ho; omega)).2 i hi
    simp only [YaP hi,gI_ofP1 hi,wants_v g0 g3 g4,he,decide_eq_false_iff_not] at this
    omega
   ·have := (wantN_ge g3 h.works v).1; omega
  simp only [cond_false]
  by_cases hs : sumP l < a1
  ·rw [ZY hs]
   simp only [cond_true]
   split
   ·rename_i i hi
    have hlt := List.mem_range.mp (List.mem_of_find?_eq_some hi)
    have hp := List.find?_some hi
    unfold lackP at hp
    rw [decide_eq_true_eq] at hp
    have hwi := works_low g3 h.works i hlt
    unfold worksP inB at hwi
    simp only [Bool.and_eq_true,decide_eq_true_eq] at hwi
    have hwn := wantN_at g3 h.works hlt
    generalize gI a3 (i : Int) 0 = u at *
    generalize gI a3 (i : Int) 1 = c at *
    have hrn := runN_mem (uid := u) fun p hp => ⟨(h.low p hp).1,(h.low p hp).2.1⟩
    rw [show (YaE l u + 1 == 0) = false from by rw [beq_eq_false_iff_ne]; omega]
    rcases asc_cut (u := u) h.asc with ⟨A,m,B,e,hr⟩ | ⟨A,B,e,hA,hB,hr⟩
    ·rw [hr] at hp ⊢
     subst e
     rw [putR_set h.asc]
     have hs' := step_at (n := m + 1) h.asc h.low (by omega) (by omega)
     rw [show m + 1 - m = 1 by omega] at hs'
     exact .more hs' hno (by rw [hr,hwn]; exact hp) hs
    ·rw [hr] at hp ⊢
     subst e
     rw [putR_new hA hB]
     exact .more (step_new h.asc h.low hA hB (by omega) (by omega)) hno (by rw [hr,hwn]; exact hp) hs
   ·rename_i hn
    refine .calm hno (.inr fun i hi => ?_)
    have := List.find?_eq_none.mp hn i (List.mem_range.mpr hi)
    unfold lackP at this
    rw [decide_eq_true_eq] at this
    omega
  ·rw [ZZ hs]
   exact .calm hno (.inl (by omega))
structure IsleD (a0 : BA) (a1 a2 : Int) (a3 : LD) (l : List (Int × Int)) : Prop where
 gs : a0.size ≤ lim
 gw : ZB Yg lim a3
 gl : ZB RII lim (ofP l)
 ok : IsleP a0 a1 a2 a3 l
 small : a1 ≤ 20
theorem Step.isle {a0 : BA} {a1 a2 u d : Int} {a3 : LD} {l l' : List (Int × Int)} (h : IsleD a0 a1 a2 a3 l) (hs : Step l l' u d) (hd : sumP l + d ≤ a1) : IsleD a0 a1 a2 a3 l' := by
 have h1 := YaY (lo := 1) (hi := 10000) fun p hp => ⟨(hs.low p hp).1,(hs.low p hp).2.1⟩
 have h2 := hs.sum
 have h3 := h.small
 exact ⟨h.gs,h.gw,ofP_ok (Nat.le_trans (show l'.length ≤ 80 by omega) (by decide)) fun p hp => by have := hs.low p hp; exact ⟨wf_of (by omega) (by omega),wf_of (by omega) (by omega)⟩,
  ⟨h.ok.name,h.ok.room0,h.ok.room1,h.ok.rev0,h.ok.rev1,h.ok.works,hs.asc,hs.low,by omega,by omega⟩,h.small⟩
theorem moved_isle {a0 : BA} {a1 a2 : Int} {a3 : LD} {l : List (Int × Int)} (h : IsleD a0 a1 a2 a3 l) {z : List (Int × Int) × Int × Int} (hm : Moved a1 a3 l z) : IsleD a0 a1 a2 a3 z.1 := by
 have := h.ok.sum
 cases hm with
 | less hs ho => exact hs.isle h (by omega)
 | more hs _ _ hlt => exact hs.isle h (by omega)
 | calm _ _ => exact h
theorem l11Name_ex {b : LD} {i h : Int} {k : Nat} (c : Cur b i) : ∃ (x : UInt8) (i' h' : Int),x ∈ [97,98,99,100,101] ∧ Cur b i' ∧ Yam.t k b i h = some (⟨#[x]⟩,b,i',h') := by
 unfold Yam.t Yam.g
 let l : List UInt8 := [97,98,99,100,101]
 have hstr := strs_in (l := l.map fun x => (⟨#[x]⟩ : BA)) (by decide)
 obtain ⟨j,i1,h1,j0,j1,hc1,e1⟩ := str_ex (k := k) (h := h) c hstr (by decide)
 have e2 : YY.t k b i h ([[.str (⟨#[97]⟩ : BA)],[.str (⟨#[98]⟩ : BA)],[.str (⟨#[99]⟩ : BA)],[.str (⟨#[100]⟩ : BA)],[.str (⟨#[101]⟩ : BA)]] : LD) = _ := e1
 rw [YY.f_of e2]
 have hm := gR_mem j0 j1
 obtain ⟨s,hs,e⟩ := List.mem_map.mp hm
 obtain ⟨x,hx,rfl⟩ := List.mem_map.mp hs
 refine ⟨x,i1,h1,hx,hc1,?_⟩
 have : gS ((l.map fun x => (⟨#[x]⟩ : BA)).map fun s => [D.str s]) j 0 = (⟨#[x]⟩ : BA) := by
  unfold gS
  rw [← e]
  rfl
 rw [this]
set_option maxRecDepth 100000 in
theorem nameOk_1 : ∀ x ∈ ([97,98,99,100,101] : List UInt8),Yj.v ⟨#[x]⟩ = true := by
 have key : ∀ x ∈ ([97,98,99,100,101] : List UInt8),Yj.t big ⟨#[x]⟩ = some true := by
  intro x hx
  simp only [List.mem_cons,List.not_mem_nil,or_false] at hx
  rcases hx with rfl | rfl | rfl | rfl | rfl <;> kernel_rfl
 intro x hx
 unfold Yj.v
 rw [key x hx]
 rfl
set_option maxRecDepth 100000 in
set_option maxHeartbeats 2000000 in
theorem l13Draw_ex {k : Nat} (hk : Zai 1 k) {b : LD} {i h : Int} (c : Cur b i) : ∃ (a0 : BA) (a1 a2 : Int) (w : LD) (l : List (Int × Int)) (i' h' : Int),IsleD a0 a1 a2 w l ∧ Cur b i' ∧ Yw.t k b i h = some (a0,a1,a2,Zc w,upP l,b,i',h') := by
 have hlim : lim = 1048576 := rfl
 have hb : big = 2 ^ 64 := rfl
 have hkb : 2 ^ 65 ≤ k := hk
 have hk0 : Fuel k := up0 hk
 let Qz : LD → Option (BA × Int × Int × LC × LC × LD × Int × Int) → Prop := fun b o => ∃ (a0 : BA) (a1 a2 : Int) (w : LD) (l : List (Int × Int)) (i' h' : Int),IsleD a0 a1 a2 w l ∧ Cur b i' ∧ o = some (a0,a1,a2,Zc w,upP l,b,i',h')
 show Qz b _
 unfold Yw.t Yw.g Yw.m
 obtain ⟨x,i1,h1,hx,hc1,e1⟩ := l11Name_ex (k := k) (h := h) c
 obtain ⟨r,i2,h2,hr,hc2,e2⟩ := int_ex (k := k) (h := h1) hc1 [0,1,3,6,20] (by decide)
 simp only [List.map_cons,List.map_nil] at e2
 simp only [List.mem_cons,List.not_mem_nil,or_false] at hr
 have gs : (⟨#[x]⟩ : BA).size ≤ lim := by show 1 ≤ 1048576; omega
 have hin : inB r 0 10000 = true := by unfold inB; rw [ZY (show 0 ≤ r by omega),ZY (show r ≤ 10000 by omega)]; rfl
 obtain ⟨m,i3,h3,m0,m1,-,hc3,e3⟩ := YaD (k := k) (h := h2) (n := 4) hc2
 have m1 := m1 (by decide)
 have hI : ∀ (K : BA → Int → Int → LC → LC → Bool → Option (BA × Int × Int × LC × LC × LD × Int × Int)),Yat.f k ⟨#[x]⟩ r K = K ⟨#[x]⟩ r 0 [] [] true := fun K => by
  unfold Yat.f
  rw [spec_IsleNew_t gs hk0,nameOk_1 x hx,hin]
  rfl
 rw [Yam.f_of e1,YP.f_of e2,hI,Yp.f_of e3]
 have hwn : Yk.v [] = true := by
  have := Yk.tv (a0 := []) ⟨by decide,by simp⟩ (Nat.le_refl (lv 1))
  unfold Yk.t Yk.g at this
  rw [iter_step (by decide)] at this
  simp [Yk.l0,atR,rdQ,Q.ask] at this
  exact this.symm
 refine YaW (fun v => v.1.toNat) (fun v => 0 ≤ v.1 ∧ v.1 ≤ 3 ∧ v.2.1 = b ∧ Cur b v.2.2.1 ∧ v.2.2.2.2.1 = (⟨#[]⟩ : BA) ∧ v.2.2.2.2.2.1 = 0 ∧ v.2.2.2.2.2.2.1 = 0 ∧ ∃ (w : LD) (l : List (Int × Int)),v.2.2.2.2.2.2.2.2.2.2.1 = Zc w ∧ v.2.2.2.2.2.2.2.2.2.2.2 = upP l ∧ IsleD v.2.2.2.2.2.2.2.1 v.2.2.2.2.2.2.2.2.1 v.2.2.2.2.2.2.2.2.2.1 w l)
  (Qz b) ?_ (v := (m,b,i3,h3,(⟨#[]⟩ : BA),0,0,(⟨#[x]⟩ : BA),r,0,[],[]))
  ⟨m0,by show m ≤ 3; omega,rfl,hc3,rfl,rfl,rfl,[],[],by simp only [Zc],rfl,gs,⟨by decide,by simp⟩,⟨by decide,by simp [ofP]⟩,⟨nameOk_1 x hx,by show 0 ≤ r; omega,by show r ≤ 10000; omega,by show (0 : Int) ≤ 0; omega,by show (0 : Int) ≤ 1000000; omega,hwn,List.Pairwise.nil,by simp,by decide,by show (0 : Int) ≤ r; omega⟩,by show r ≤ 20; omega⟩ (by show m.toNat < k; omega)
 rintro ⟨n,b',i,h,q0,q1,q2,a0,a1,a2,w',l'⟩ ⟨n0,n1,eb,hc,z0,z1,z2,w,l,ew,el,hD⟩ L hL
 simp only at n0 n1 eb hc z0 z1 z2 ew el hD
 subst eb z0 z1 z2 ew el
 by_cases hn : n > 0
 ·obtain ⟨y,i4,h4,y0,y1,-,hc4,e4⟩ := YaD (k := k) (h := h) (n := 3) hc
  have y1 := y1 (by decide)
  obtain ⟨ws,i5,h5,hws,hwl,hc5,e5⟩ := works_ex hk (h := h4) hc4
  have gws : ZB Yg lim ws := ⟨by omega,hws⟩
  obtain ⟨s,i6,h6,s0,s1,-,hc6,e6⟩ := YaD (k := k) (h := h5) (n := 9) hc5
  have s1 := s1 (by decide)
  have hrev := hD.ok.rev1
  have hrev0 := hD.ok.rev0
  have hwr : IntKind.wrap .i64 ((IntKind.wrap .i64 (a2 + 1)) + y) = a2 + 1 + y := by rw [Z9 (x := a2 + 1) (by omega) (by omega),Z9 (by omega) (by omega)]
  have hO : ∃ rev' w' ok,IsleD a0 a1 rev' w' l ∧ Yar.t k a0 a1 a2 w (ofP l) (a2 + 1 + y) ws = some (a0,a1,rev',Zc w',upP l,ok) := by
   rw [spec_Obey_t (a1 := a1) (a2 := a2) (n := a2 + 1 + y) hD.gs hD.gw hD.gl gws hk]
   unfold obeyV
   cases ho : obeyB a0 a1 a2 w (ofP l) (a2 + 1 + y) ws with
   | false => exact ⟨a2,w,false,hD,by rw [deep_ofP]; rfl⟩
   | true =>
    unfold obeyB at ho
    simp only [Bool.and_eq_true,Bool.not_eq_true',decide_eq_false_iff_not] at ho
    refine ⟨a2 + 1 + y,ws,true,⟨hD.gs,gws,hD.gl,⟨hD.ok.name,hD.ok.room0,hD.ok.room1,by omega,by omega,ho.2.1,hD.ok.asc,hD.ok.low,hD.ok.len,hD.ok.sum⟩,hD.small⟩,by rw [deep_ofP]; rfl⟩
  obtain ⟨rev',w',ok,hD',eO⟩ := hO
  simp only [Yw.l0,Yw.m0,ZY hn,cond_true,Yp.f_of e4,YJ.f_of e5,ZK,imm_upP,hwr,Yar.f_of eO,Yp.f_of e6]
  refine YaW (fun v => v.1.toNat) (fun v => 0 ≤ v.1 ∧ v.1 ≤ 9 ∧ ∃ (w : LD) (l : List (Int × Int)),v.2.2.2.2.1 = Zc w ∧ v.2.2.2.2.2 = upP l ∧ IsleD v.2.1 v.2.2.1 v.2.2.2.1 w l) (Qz b') ?_ (v := (s,a0,a1,rev',Zc w',upP l)) ⟨s0,by show s ≤ 9; omega,w',l,rfl,rfl,hD'⟩ (by show s.toNat < k; omega)
  rintro ⟨t,a0,a1,a2,w0,l0⟩ ⟨t0,t1,w,l,ew,el,hD⟩ M hM
  simp only at t0 t1 ew el hD
  subst ew el
  by_cases ht : t > 0
  ·have hmv := moved_isle hD (moveV_moved hD.gs hD.gw hD.gl hD.ok)
   have eM := spec_Move_t (a1 := a1) (a2 := a2) hD.gs hD.gw hD.gl hk
   unfold moveR at eM
   simp only [Yw.l1,ZY ht,cond_true,ZK,imm_upP,Y8.f_of eM,Z9 (show -9223372036854775808 ≤ t - 1 by omega) (show t - 1 ≤ 9223372036854775807 by omega)]
   exact hM _ ⟨by show 0 ≤ t - 1; omega,by show t - 1 ≤ 9; omega,w,_,rfl,rfl,hmv⟩ (by show (t - 1).toNat < t.toNat; omega)
  ·simp only [Yw.l1,ZZ ht,cond_false,Z9 (show -9223372036854775808 ≤ n - 1 by omega) (show n - 1 ≤ 9223372036854775807 by omega)]
   exact hL _ ⟨by show 0 ≤ n - 1; omega,by show n - 1 ≤ 3; omega,rfl,hc6,rfl,rfl,rfl,w,l,rfl,rfl,hD⟩ (by show (n - 1).toNat < n.toNat; omega)
 ·simp only [Yw.l0,Yw.m0,ZZ hn,cond_false]
  exact ⟨a0,a1,a2,w,l,i,h,hD,hc,rfl⟩
theorem ints_map (l : List Int) (L : LD) (h : L = l.map fun x => [.int .i64 x]) : L = l.map fun x => [.int .i64 x] := h
theorem int2_ex {b : LD} {i h : Int} {k : Nat} (c : Cur b i) (l : List Int) (hl : 0 < l.length) {L : LD} (e : L = l.map fun x => [.int .i64 x]) : ∃ x i' h',x ∈ l ∧ Cur b i' ∧ YP.t k b i h L = some (x,b,i',h') := by
 subst e
 exact int_ex c l hl
set_option maxRecDepth 100000 in
set_option maxHeartbeats 2000000 in
theorem worksAny_ex {k : Nat} (hk : Zai 1 k) {b : LD} {i h : Int} (c : Cur b i) : ∃ (W : LC) (i' h' : Int),(∀ r ∈ C.immRows W,WSm 1001 9 r) ∧ W.length ≤ 5 ∧ Cur b i' ∧ Y5.t k b i h = some (W,b,i',h') := by
 have hb : big = 2 ^ 64 := rfl
 have hkb : 2 ^ 65 ≤ k := hk
 obtain ⟨ws,i1,g1,hws,hlen,hc1,e1⟩ := works_ex2 hk (h := h) c
 have hup : ∀ r ∈ ws,WSm 1001 9 r := fun r hr => by
  obtain ⟨p,q,c0,c1,c2,c3,c4,rfl,hp,hq,hv⟩ := hws r hr
  exact ⟨p,q,c0,c1,c2,c3,c4,rfl,hp,hq,hv.up (by decide) (by decide)⟩
 unfold Y5.t Y5.g
 rw [YJ.f_of e1]
 by_cases h0 : 0 < ws.length
 ·obtain ⟨y,i2,g2,y0,y1,-,hc2,e2⟩ := YaD (k := k) (h := g1) (n := ((Zc ws).length : Int)) hc1
  have y1 := y1 (by rw [ZS]; omega)
  rw [ZS] at y1
  obtain ⟨x,i3,g3,x0,x1,-,hc3,e3⟩ := YaD (k := k) (h := g2) (n := 10) hc2
  have x1 := x1 (by decide)
  dsimp only
  rw [ZY (show ((Zc ws).length : Int) > 0 by rw [ZS]; omega)]
  simp only [cond_true]
  rw [Yp.f_of e2,Yp.f_of e3]
  obtain ⟨p,q,c0,c1,c2,c3,c4,e,hp,hq,hv⟩ := hws _ (gR_mem y0 y1)
  have hfl : Zb6 (Zc ws) = ws.map (·.map C.d) := by rw [flat_imm,ZK]
  have hfr : ∀ r ∈ C.immRows (ws.map (·.map C.d)),WSm 1001 9 r := fun r hr => by rw [imm_rows] at hr; exact hup r hr
  have hfl2 : (ws.map (·.map C.d)).length ≤ 5 := by rw [map_len]; omega
  have hat : (ws.map (·.map C.d))[y.toNat]? = some [.d (.int .i64 p),.d (.int .i64 q),.d (.int .i64 c0),.d (.str c1),.d (.int .i64 c2),.d (.sl c3),.d (.sl c4)] := by
   rw [List.getElem?_map,gR_at y0 y1,e]; rfl
  rw [hfl]
  have hv' := hv.up (m' := 1001) (n' := 9) (by decide) (by decide)
  have hmod : ∀ f : List C → List C,WSm 1001 9 (C.immCells (f [.d (.int .i64 p),.d (.int .i64 q),.d (.int .i64 c0),.d (.str c1),.d (.int .i64 c2),.d (.sl c3),.d (.sl c4)])) → (∀ r ∈ C.immRows ((ws.map (·.map C.d)).modify y.toNat f),WSm 1001 9 r) ∧ ((ws.map (·.map C.d)).modify y.toNat f).length ≤ 5 := fun f hf => by
   refine ⟨fun r hr => ?_,by rw [List.length_modify]; exact hfl2⟩
   rcases modify_rows hr with hr | ⟨c,hcx,rfl⟩
   ·exact hfr r hr
   ·rw [hat] at hcx
    injection hcx with hcx
    rw [← hcx]; exact hf
  by_cases hx0 : x = 0
  ·subst hx0
   simp only [cond_true,cond_false,Int.reduceBEq]
   obtain ⟨z,i4,g4,hz,hc4,e4⟩ := int2_ex (k := k) (h := g3) hc3 [0,10000,10001] (by decide) (L := [[.int .i64 0],[.int .i64 10000],[.int .i64 10001]]) rfl
   rw [YP.f_of e4,ZH ⟨y0,by rw [map_len]; exact y1⟩,ZH (by rw [map_len]; omega)]
   have hzw : (Lit.int .i64 z).wf = true := by
    simp only [List.mem_cons,List.not_mem_nil,or_false] at hz
    exact wf_of (by omega) (by omega)
   obtain ⟨m1,m2⟩ := hmod (fun c => Zs c 1 [.d (.int .i64 z)]) ⟨p,z,c0,c1,c2,c3,c4,rfl,hp,hzw,hv'⟩
   exact ⟨_,_,_,m1,m2,hc4,rfl⟩
  ·rw [show (x == 0) = false from beq_eq_false_iff_ne.mpr hx0]
   by_cases hx1 : x = 1
   ·subst hx1
    simp only [cond_true,cond_false,Int.reduceBEq]
    obtain ⟨z,i4,g4,hz,hc4,e4⟩ := int2_ex (k := k) (h := g3) hc3 [0,1000000,3] (by decide) (L := [[.int .i64 0],[.int .i64 1000000],[.int .i64 3]]) rfl
    rw [YP.f_of e4,ZH ⟨y0,by rw [map_len]; exact y1⟩,ZH (by rw [map_len]; omega)]
    have hzw : (Lit.int .i64 z).wf = true := by
     simp only [List.mem_cons,List.not_mem_nil,or_false] at hz
     exact wf_of (by omega) (by omega)
    obtain ⟨m1,m2⟩ := hmod (fun c => Zs c 0 [.d (.int .i64 z)]) ⟨z,q,c0,c1,c2,c3,c4,rfl,hzw,hq,hv'⟩
    exact ⟨_,_,_,m1,m2,hc4,rfl⟩
   ·rw [show (x == 1) = false from beq_eq_false_iff_ne.mpr hx1]
    by_cases hx2 : x = 2
    ·subst hx2
     simp only [cond_true,cond_false,Int.reduceBEq]
     obtain ⟨f0,f1,f2,Y3,Y4,i4,g4,hv4,hc4,e4⟩ := vbend_ex 3 (k := k) (h := g3) hc3 hv (by omega)
     rw [ZH ⟨y0,by rw [map_len]; exact y1⟩]
     have hA : ∀ {β : Type} (F : List C → Option β),ZaR (ws.map (·.map C.d)) y.toNat F = F [.d (.int .i64 p),.d (.int .i64 q),.d (.int .i64 c0),.d (.str c1),.d (.int .i64 c2),.d (.sl c3),.d (.sl c4)] := fun F => by unfold ZaR; rw [hat]
     rw [hA]
     simp only [List.drop_succ_cons,List.drop_zero,Z4,cD_at,Z5,ZaQ,Zbl]
     rw [Yr.f_of e4,ZH ⟨y0,by rw [map_len]; exact y1⟩,ZH (by rw [map_len]; omega)]
     obtain ⟨m1,m2⟩ := hmod (fun c => Zs c 2 [.d (.int .i64 f0),.d (.str f1),.d (.int .i64 f2),.own Y3,.own Y4]) ⟨p,q,f0,f1,f2,C.immRows Y3,C.immRows Y4,rfl,hp,hq,hv4⟩
     exact ⟨_,_,_,m1,m2,hc4,rfl⟩
    ·rw [show (x == 2) = false from beq_eq_false_iff_ne.mpr hx2]
     simp only [cond_false]
     exact ⟨_,_,_,hfr,hfl2,hc3,rfl⟩
 ·dsimp only
  rw [ZZ (show ¬ ((Zc ws).length : Int) > 0 by rw [ZS]; omega)]
  simp only [cond_false]
  exact ⟨_,_,_,by rw [ZK]; exact hup,by rw [ZS]; exact hlen,hc1,rfl⟩
structure IsleW (a0 : BA) (a1 a2 : Int) (W : LC) (l : List (Int × Int)) : Prop where
 gs : a0.size ≤ lim
 w1 : (Lit.int .i64 a1).wf = true
 lo : -1 ≤ a2
 hi : a2 ≤ 1000001
 gw : ZB Yg lim (C.immRows W)
 gl : ZB RII lim (ofP l)
 sm : l.length ≤ 1000
theorem works_sl {W : LC} (h : ∀ r ∈ C.immRows W,WSm 1001 9 r) (hl : W.length ≤ 5) : ZB Yg lim (C.immRows W) :=
 ⟨by rw [C.immRows_length]; exact Nat.le_trans hl (by decide),fun r hr => (h r hr).row (by decide) (by decide)⟩
theorem IsleD.any {a0 : BA} {a1 a2 : Int} {w : LD} {l : List (Int × Int)} (h : IsleD a0 a1 a2 w l) : IsleW a0 a1 a2 (Zc w) l := by
 have h1 := h.ok.room0; have h2 := h.ok.room1; have h3 := h.ok.rev0; have h4 := h.ok.rev1
 have h5 := YaY (lo := 1) (hi := 10000) fun p hp => ⟨(h.ok.low p hp).1,(h.ok.low p hp).2.1⟩
 have h6 := h.ok.sum; have h7 := h.small
 exact ⟨h.gs,wf_of (by omega) (by omega),by omega,by omega,by rw [ZK]; exact h.gw,h.gl,by omega⟩
set_option maxRecDepth 100000 in
set_option maxHeartbeats 2000000 in
theorem isleBend_ex {k : Nat} (hk : Zai 1 k) {b : LD} {i h : Int} (c : Cur b i) {a0 : BA} {a1 a2 : Int} {w : LD} {l : List (Int × Int)} (hD : IsleD a0 a1 a2 w l) : ∃ (b0 : BA) (b1 b2 : Int) (W : LC) (m : List (Int × Int)) (i' h' : Int),IsleW b0 b1 b2 W m ∧ Cur b i' ∧ Yav.t k b i h a0 a1 a2 w (ofP l) = some (b0,b1,b2,W,upP m,b,i',h') := by
 have hb : big = 2 ^ 64 := rfl
 have hm : Z8 = 2 ^ 36 := rfl
 have hlim : lim = 1048576 := rfl
 have hA := hD.any
 have hsm := hA.sm
 unfold Yav.t Yav.g
 rw [l13Copy_fv hD.gw hD.gl hk,ofP_up]
 obtain ⟨x,i1,g1,x0,x1,-,hc1,e1⟩ := YaD (k := k) (h := h) (n := 6) c
 rw [Yp.f_of e1]
 by_cases hx0 : x = 0
 ·subst hx0
  simp only [cond_true,cond_false,Int.reduceBEq]
  obtain ⟨z,i4,g4,hz,hc4,e4⟩ := int2_ex (k := k) (h := g1) hc1 [-1,0,10001] (by decide) (L := [[.int .i64 (-1)],[.int .i64 0],[.int .i64 10001]]) rfl
  rw [YP.f_of e4]
  simp only [List.mem_cons,List.not_mem_nil,or_false] at hz
  exact ⟨_,_,_,_,_,_,_,⟨hA.gs,wf_of (by omega) (by omega),hA.lo,hA.hi,hA.gw,hA.gl,hsm⟩,hc4,rfl⟩
 ·rw [show (x == 0) = false from beq_eq_false_iff_ne.mpr hx0]
  by_cases hx1 : x = 1
  ·subst hx1
   simp only [cond_true,cond_false,Int.reduceBEq]
   obtain ⟨z,i4,g4,hz,hc4,e4⟩ := int2_ex (k := k) (h := g1) hc1 [0,1,50] (by decide) (L := [[.int .i64 0],[.int .i64 1],[.int .i64 50]]) rfl
   rw [YP.f_of e4,ZH (by rw [YaT,List.length_singleton]; omega)]
   simp only [List.mem_cons,List.not_mem_nil,or_false] at hz
   have hsm2 : l.length ≤ 20 := by
    have h5 := YaY (lo := 1) (hi := 10000) fun p hp => ⟨(hD.ok.low p hp).1,(hD.ok.low p hp).2.1⟩
    have h6 := hD.ok.sum; have h7 := hD.small
    omega
   refine ⟨_,_,_,_,l ++ [(1,z)],_,_,⟨hA.gs,hA.w1,hA.lo,hA.hi,hA.gw,ofP_ok (by simp; omega) (fun p hp => ?_),by simp; omega⟩,hc4,by rw [← upP_app]; rfl⟩
   rcases List.mem_append.mp hp with hp | hp
   ·exact ofP_wf hA.gl p hp
   ·simp at hp; subst hp; exact ⟨wf_of (x := (1 : Int)) (by decide) (by decide),wf_of (by show -9223372036854775808 ≤ z; omega) (by show z ≤ 9223372036854775807; omega)⟩
  ·rw [show (x == 1) = false from beq_eq_false_iff_ne.mpr hx1]
   by_cases hx2 : x = 2
   ·subst hx2
    simp only [cond_true,cond_false,Int.reduceBEq]
    obtain ⟨W,i4,g4,hW,hWl,hc4,e4⟩ := worksAny_ex hk (h := g1) hc1
    rw [Y5.f_of e4]
    exact ⟨_,_,_,_,_,_,_,⟨hA.gs,hA.w1,hA.lo,hA.hi,works_sl hW hWl,hA.gl,hsm⟩,hc4,rfl⟩
   ·rw [show (x == 2) = false from beq_eq_false_iff_ne.mpr hx2]
    by_cases hx3 : x = 3
    ·subst hx3
     simp only [cond_true,cond_false,Int.reduceBEq]
     obtain ⟨z,i4,g4,hz,hc4,e4⟩ := int2_ex (k := k) (h := g1) hc1 [-1,1000000,1000001] (by decide) (L := [[.int .i64 (-1)],[.int .i64 1000000],[.int .i64 1000001]]) rfl
     rw [YP.f_of e4]
     simp only [List.mem_cons,List.not_mem_nil,or_false] at hz
     exact ⟨_,_,_,_,_,_,_,⟨hA.gs,hA.w1,by omega,by omega,hA.gw,hA.gl,hsm⟩,hc4,rfl⟩
    ·rw [show (x == 3) = false from beq_eq_false_iff_ne.mpr hx3]
     simp only [cond_false]
     exact ⟨_,_,_,_,_,_,_,hA,hc1,rfl⟩
theorem isleAny_ex {k : Nat} (hk : Zai 1 k) {b : LD} {i h : Int} (c : Cur b i) : ∃ (b0 : BA) (b1 b2 : Int) (W : LC) (m : List (Int × Int)) (i' h' : Int),IsleW b0 b1 b2 W m ∧ Cur b i' ∧ Yaj.t k b i h = some (b0,b1,b2,W,upP m,b,i',h') := by
 unfold Yaj.t Yaj.g
 obtain ⟨a0,a1,a2,w,l,i1,g1,hD,hc1,e1⟩ := l13Draw_ex hk (h := h) c
 unfold Yw.f
 rw [e1]
 obtain ⟨x,i2,g2,hc2,e2⟩ := once_ex (k := k) (h := g1) (n := 6) hc1
 dsimp only
 rw [Y7.f_of e2]
 cases x with
 | false =>
  simp only [cond_false]
  exact ⟨_,_,_,_,_,_,_,hD.any,hc2,rfl⟩
 | true =>
  simp only [cond_true,ZK,imm_upP]
  obtain ⟨b0,b1,b2,W,m,i3,g3,hW,hc3,e3⟩ := isleBend_ex hk (h := g2) hc2 hD
  unfold Yav.f
  rw [e3]
  exact ⟨_,_,_,_,_,_,_,hW,hc3,rfl⟩
theorem drawObey_ex {a : LD} (g : ZB RI8 lim a) {k : Nat} (hk : Zai 1 k) : ∃ (b0 : BA) (b1 b2 n : Int) (W : LC) (m : List (Int × Int)) (Y : LC),IsleW b0 b1 b2 W m ∧ (Lit.int .i64 n).wf = true ∧ (∀ r ∈ C.immRows Y,WSm 1001 9 r) ∧ Y.length ≤ 5 ∧ Yap.t k a = some (b0,b1,b2,W,upP m,n,Y) := by
 obtain ⟨h,e1⟩ := new_ex g (up0 hk)
 unfold Yap.t Yap.g
 rw [Y2.f_of e1]
 obtain ⟨b0,b1,b2,W,m,i2,g2,hW,hc2,e2⟩ := isleAny_ex hk (h := h) (Cur.new g)
 unfold Yaj.f
 rw [e2]
 obtain ⟨z,i4,g4,hz,hc4,e4⟩ := int2_ex (k := k) (h := g2) hc2 [1,2,0,-1] (by decide) (L := [[.int .i64 1],[.int .i64 2],[.int .i64 0],[.int .i64 (-1)]]) rfl
 dsimp only
 rw [YP.f_of e4]
 obtain ⟨Y,i5,g5,hY,hYl,hc5,e5⟩ := worksAny_ex hk (h := g4) hc4
 rw [Y5.f_of e5]
 exact ⟨_,_,_,_,_,_,_,hW,wrap_wf _,hY,hYl,rfl⟩
theorem impl_Obey_t {a0 : BA} {a1 a2 n : Int} {a3 a4 b : LD} (g0 : a0.size ≤ lim) (g3 : ZB Yg lim a3) (g4 : ZB RII lim a4) (gb : ZB Yg lim b) {k : Nat} (hk : Zai 1 k) : Yaw.t k a0 a1 a2 a3 a4 n b = some (obeyV a0 a1 a2 a3 a4 n b) := by
 unfold Yaw.t Yaw.g
 rw [copyIsle_fv g3 g4 hk,IsleOkI g0 g3 g4 hk,impl_WorksOk_fv gb hk,copyWorks_fv gb hk,← RII.deep g4.2]
 unfold obeyV obeyB
 cases YD.v a0 a1 a2 a3 a4 <;> cases Yk.v b <;> cases decide (n ≤ a2) <;> cases decide (n > 1000000) <;> rfl
theorem Yi.f_of {β : Type} {k aA aB aC aI aH aV aW bA bB bC z0} (h : Yi.t k aA aB aC aI aH aV aW bA bB bC = some z0) (K : Bool → Option β) : Yi.f k aA aB aC aI aH aV aW bA bB bC K = K z0 := by unfold Yi.f Yi.w; rw [h]; rfl
theorem YE.f_of {β : Type} {k a0 a1 z0} (h : YE.t k a0 a1 = some z0) (K : Bool → Option β) : YE.f k a0 a1 K = K z0 := by unfold YE.f; rw [h]; rfl
theorem YI.f_of {β : Type} {k aA aB aC aI aH aV aW bA bB bC z0} (h : YI.t k aA aB aC aI aH aV aW bA bB bC = some z0) (K : Bool → Option β) : YI.f k aA aB aC aI aH aV aW bA bB bC K = K z0 := by unfold YI.f; rw [h]; rfl
set_option maxRecDepth 100000 in
theorem sameVal (n : Nat) : ∀ (c0 : Int) (c1 : BA) (c2 : Int) (c3 c4 : LD),ZB RS lim c3 → c4.length ≤ lim → (∀ x ∈ c4,Yao lim n x) → ∀ {k : Nat},big + n + 1 ≤ k → Yi.t k c0 c1 c2 c3 c4 c0 c1 c2 c3 c4 = some true := by
 have hlim : lim = 1048576 := rfl
 have hb : big = 2 ^ 64 := rfl
 induction n using Nat.strongRecOn with
 | ind n ih =>
 intro c0 c1 c2 c3 c4 g3 l4 g4 k hk
 have l3 := g3.1
 obtain ⟨k,rfl⟩ : ∃ k',k = k' + 1 := ⟨k - 1,by omega⟩
 rw [Yi.t_succ]
 unfold Yi.g Yi.body Yi.m
 simp only [bne_self_eq_false,strEq_self,Bool.not_true,cond_false]
 refine iter_seq (f := fun t => (t : Int)) (n := c3.length) (by omega) (fun L t ht => ?_) (fun L => ?_)
 ·simp (disch := omega) only [Yi.l0,Yi.m0,atR,rdQ,Q.ask,ZY (show (t : Int) < (c3.length : Int) by omega),cond_true,RS.row g3,Z4,ZaQ,Zan,strEq_self,Bool.not_true,cond_false,Z9]
  rfl
 ·simp only [Yi.l0,Yi.m0,atR,rdQ,Q.ask]
  rw [ZZ (by omega)]
  simp only [cond_false]
  refine iter_seq (f := fun t => (t : Int)) (n := c4.length) (by omega) (fun L i hi => ?_) (fun L => ?_)
  ·obtain ⟨n',hn',d0,d1,d2,d3,d4,e,w0,w1,w2,w3,w4,w5⟩ : ∃ n',n = n' + 1 ∧ ∃ d0 d1 d2 d3 d4,gR c4 (i : Int) = [.int .i64 d0,.str d1,.int .i64 d2,.sl d3,.sl d4] ∧ (Lit.int .i64 d0).wf = true ∧ d1.size ≤ lim ∧ (Lit.int .i64 d2).wf = true ∧ ZB RS lim d3 ∧ d4.length ≤ lim ∧ ∀ x ∈ d4,Yao lim n' x := by
    have := g4 _ (gR_mem (xs := c4) (v := (i : Int)) (by omega) (by omega))
    generalize gR c4 (i : Int) = r at this
    cases this with
    | mk e0 e1 e2 e3 e4 w0 p1 w2 p3 p4 p5 => exact ⟨_,rfl,_,_,_,_,_,rfl,w0,p1,w2,p3,p4,p5⟩
   simp (disch := omega) only [Yi.l1,atR,rdQ,Q.ask,ZY (show (i : Int) < (c4.length : Int) by omega),cond_true,Zck (xs := c4) (v := (i : Int)),e,Z4,Z5,ZaQ,Zbl,Zan,Yi.f_of (ih n' (by omega) d0 d1 d2 d3 d4 w3 w4 w5 (k := k) (by omega)),Bool.not_true,cond_false,Z9]
   rfl
  ·simp only [Yi.l1,atR,rdQ,Q.ask]
   rw [ZZ (by omega)]
   rfl
theorem sameValue_f {c0 c2 : Int} {c1 : BA} {c3 c4 : LD} (g3 : ZB RS lim c3) (g4 : ZB Y0 lim c4) {k : Nat} (hk : Zai 1 k) {β : Type} (K : Bool → Option β) : Yi.f k c0 c1 c2 c3 c4 c0 c1 c2 c3 c4 K = K true :=
 Yi.f_of (sameVal 1099511627776 c0 c1 c2 c3 c4 g3 g4.1 (value_h g4) (Nat.le_trans (big_lv1 (n := 1099511627776 + 1) (by omega)) hk)) K
set_option maxRecDepth 100000 in
theorem sameRuns_t {l : List (Int × Int)} (hl : l.length ≤ 2097152) {k : Nat} (hk : Fuel k) : YE.t k (ofP l) (ofP l) = some true := by
 have hb : big = 2 ^ 64 := rfl
 unfold YE.t YE.g
 simp only [bne_self_eq_false,cond_false]
 refine iter_seq (f := fun t => (t : Int)) (n := (ofP l).length) (by rw [YaC]; unfold Fuel at hk; omega) (fun L t ht => ?_) (fun L => ?_)
 ·rw [YaC] at ht
  simp (disch := omega) only [YE.l0,atR,rdQ,Q.ask,YaC,ZY (show (t : Int) < (l.length : Int) by omega),cond_true,YaJ ht,Z4,Z5,Zan,beq_self_eq_true,Bool.and_self,Bool.not_true,cond_false,Z9]
  rfl
 ·simp only [YE.l0,atR,rdQ,Q.ask]
  rw [ZZ (by omega)]
  rfl
set_option maxRecDepth 100000 in
theorem sameIsle_t {a0 : BA} {a1 a2 : Int} {a3 : LD} {l : List (Int × Int)} (g3 : ZB Yg lim a3) (hl : l.length ≤ 2097152) {k : Nat} (hk : Zai 1 k) : YI.t k a0 a1 a2 a3 (ofP l) a0 a1 a2 a3 (ofP l) = some true := by
 have hb : big = 2 ^ 64 := rfl
 have hlv : lv 1 = 2 ^ 65 := rfl
 have hlim : lim = 1048576 := rfl
 have hl3 := g3.1
 have hk0 : Fuel k := up0 hk
 unfold YI.t YI.g YI.m
 simp only [bne_self_eq_false,strEq_self,Bool.not_true,cond_false]
 refine iter_seq (f := fun t => (t : Int)) (n := a3.length) (by unfold Zai at hk; omega) (fun L t ht => ?_) (fun L => ?_)
 ·obtain ⟨-,-,-,-,-,-,k5,k6,-⟩ := Yg.get g3 (v := (t : Int)) (by omega) (by omega)
  simp (disch := omega) only [YI.l0,atR,rdQ,Q.ask,ZY (show (t : Int) < (a3.length : Int) by omega),cond_true,Yg.row g3,Z4,Z5,ZaQ,Zbl,Zan,bne_self_eq_false,cond_false,sameValue_f k5 k6 hk,Bool.not_true,Z9]
  rfl
 ·simp only [YI.l0,atR,rdQ,Q.ask]
  rw [ZZ (by omega)]
  simp only [cond_false]
  rw [YE.f_of (sameRuns_t hl hk0)]
theorem Yag.f_of {β : Type} {k aA aB aV aW z0} (h : Yag.t k aA aB aV aW = some z0) (K : Int → Option β) : Yag.f k aA aB aV aW K = K z0 := by unfold Yag.f; rw [h]; rfl
theorem Yc.f_of {β : Type} {k a0 a1 a2 z0} (h : Yc.t k a0 a1 a2 = some z0) (K : LC → Option β) : Yc.f k a0 a1 a2 K = K z0 := by unfold Yc.f; rw [h]; rfl
def rowE (e : Nat → Int × Int) (i : Nat) : List C := [.d (.int .i64 (e i).1),.d (.int .i64 (e i).2)]
def upE (e : Nat → Int × Int) (L : List Nat) : LC := L.map (rowE e)
theorem Yas {e : Nat → Int × Int} {L : List Nat} : (upE e L).length = L.length := List.length_map ..
theorem YaH {β : Type} {e : Nat → Int × Int} {L : List Nat} {v : Int} {i x : Nat} (hv : v = (i : Int)) (h : L[i]? = some x) {F : Int → Int → Option β} :
  Zd ((0 : Int) ≤ v ∧ v < ((upE e L).length : Int)) (ZaR (upE e L) v.toNat fun c => ZaJ (c.drop 0) fun c1 r1 => cD c1 fun d1 => dInt .i64 d1 fun x1 => ZaJ r1 fun c2 r2 => cD c2 fun d2 => dInt .i64 d2 fun x2 => F x1 x2) = F (e x).1 (e x).2 := by
 subst hv
 have hi := (List.getElem?_eq_some_iff.mp h).1
 rw [ZH ⟨by omega,by rw [Yas]; omega⟩,Int.toNat_natCast]
 simp [ZaR,upE,h,rowE,ZaJ,cD,dInt]
theorem rd1_get {β : Type} {e : Nat → Int × Int} {L : List Nat} {v : Int} {i x : Nat} (hv : v = (i : Int)) (h : L[i]? = some x) {F : Int → Option β} :
  Zd ((0 : Int) ≤ v ∧ v < ((upE e L).length : Int)) (ZaR (upE e L) v.toNat fun c => ZaJ (c.drop 0) fun c1 r1 => cD c1 fun d1 => dInt .i64 d1 fun x1 => F x1) = F (e x).1 := by
 subst hv
 have hi := (List.getElem?_eq_some_iff.mp h).1
 rw [ZH ⟨by omega,by rw [Yas]; omega⟩,Int.toNat_natCast]
 simp [ZaR,upE,h,rowE,ZaJ,cD,dInt]
theorem upE_set {e : Nat → Int × Int} {L : List Nat} {i x : Nat} : ((upE e L).modify i fun c => Zs c 0 (rowE e x)) = upE e (L.set i x) := by
 apply List.ext_getElem?
 intro m
 unfold upE
 rw [List.getElem?_modify,List.getElem?_map,List.getElem?_map,List.getElem?_set]
 by_cases h : i = m
 ·subst h
  by_cases h2 : i < L.length
  ·simp [h2,Zs,rowE]
  ·simp [List.getElem?_eq_none (Nat.le_of_not_lt h2),h2]
 ·simp [h]
theorem wr_get {β : Type} {e : Nat → Int × Int} {L : List Nat} {v : Int} {i x : Nat} (hv : v = (i : Int)) (hi : i < L.length) {F : LC → Option β} :
  Zd ((0 : Int) ≤ v ∧ v < ((upE e L).length : Int)) (Zd (v.toNat < (upE e L).length) (F ((upE e L).modify v.toNat fun c => Zs c 0 [.d (.int .i64 (e x).1),.d (.int .i64 (e x).2)]))) = F (upE e (L.set i x)) := by
 subst hv
 rw [ZH ⟨by omega,by rw [Yas]; omega⟩,ZH (by rw [Yas]; omega),Int.toNat_natCast]
 exact congrArg F upE_set
theorem sw_get {β : Type} {e : Nat → Int × Int} {L : List Nat} {v v' : Int} {i j x y : Nat} (hv : v = (i : Int)) (hv' : v' = (j : Int)) (hi : i < L.length) (hj : j < L.length) {F : LC → Option β} :
  Zd ((0 : Int) ≤ v ∧ v < ((upE e L).length : Int)) (Zd (v.toNat < (upE e L).length) (Zd ((0 : Int) ≤ v' ∧ v' < ((((upE e L).modify v.toNat fun c => Zs c 0 [.d (.int .i64 (e x).1),.d (.int .i64 (e x).2)]).length : Nat) : Int)) (Zd (v'.toNat < ((upE e L).modify v.toNat fun c => Zs c 0 [.d (.int .i64 (e x).1),.d (.int .i64 (e x).2)]).length) (F (((upE e L).modify v.toNat fun c => Zs c 0 [.d (.int .i64 (e x).1),.d (.int .i64 (e x).2)]).modify v'.toNat fun c => Zs c 0 [.d (.int .i64 (e y).1),.d (.int .i64 (e y).2)]))))) = F (upE e ((L.set i x).set j y)) := by
 subst hv hv'
 have e1 : ((upE e L).modify ((i : Int)).toNat fun c => Zs c 0 [.d (.int .i64 (e x).1),.d (.int .i64 (e x).2)]) = upE e (L.set i x) := by rw [Int.toNat_natCast]; exact upE_set
 rw [e1,ZH ⟨by omega,by rw [Yas]; omega⟩,ZH (by rw [Yas]; omega),ZH ⟨by omega,by rw [Yas,List.length_set]; omega⟩,ZH (by rw [Yas,List.length_set]; omega),Int.toNat_natCast]
 exact congrArg F upE_set
theorem YaO {A B : List Nat} {x i : Nat} (h : i = A.length) : (A ++ x :: B)[i]? = some x := by subst h; simp
theorem set_mid {A B : List Nat} {x y i : Nat} (h : i = A.length) : (A ++ x :: B).set i y = A ++ y :: B := by subst h; simp
def cmpTI (a c : Int) : Int := if a < c then -1 else if a > c then 1 else 0
theorem cmpTI_neg {a c : Int} : decide (cmpTI a c < 0) = decide (a < c) := by
 unfold cmpTI
 by_cases h : a < c
 ·simp [h]
 ·by_cases h2 : a > c <;> simp [h,h2]
theorem cmpT_fv {k : Nat} {a b c d : Int} {β : Type} {K : Int → Option β} : Yag.f k a b c d K = K (cmpTI a c) := Yag.f_of (by
 unfold Yag.t Yag.g Yal.f Yal.t Yal.g Yaq.f Yaq.t Yaq.g cmpTI
 by_cases h : a < c
 ·simp [h,bd1]
 ·by_cases h2 : a > c <;> simp [h,h2,bd1]) K
theorem insT_t {e : Nat → Int × Int} {X S Y : List Nat} (hS : S.Pairwise (· < ·)) (hl : (X ++ S ++ Y).length < 1099511627776) {k : Nat} (hk : Fuel k) {a b : Int} (ha : a = (X.length : Int)) (hb : b = ((X.length + S.length : Nat) : Int)) :
  Yc.t k (upE e (X ++ S ++ Y)) a b = some (upE e (X ++ Yax (fun i => (e i).1) S ++ Y)) := by
 have hb' : big = 2 ^ 64 := rfl
 simp only [List.length_append] at hl
 unfold Yc.t Yc.g
 generalize hkey : (fun i => (e i).1) = key
 have hke : ∀ i,(e i).1 = key i := fun i => by rw [← hkey]
 have hw1 : IntKind.wrap .i64 (a + 1) = ((X.length + 1 + 0 : Nat) : Int) := by rw [Z9 (by omega) (by omega)]; omega
 have h0 : X ++ S ++ Y = X ++ Yax key (S.take (0 + 1)) ++ S.drop (0 + 1) ++ Y := by
  rw [srtK_self (key := key) (L := S.take (0 + 1)) (by cases S <;> simp),List.append_assoc X (S.take (0 + 1)),List.take_append_drop]
 rw [hw1,h0]
 refine iter_seq (f := fun t => (a,b,((X.length + 1 + t : Nat) : Int),upE e (X ++ Yax key (S.take (t + 1)) ++ S.drop (t + 1) ++ Y))) (n := S.length - 1) (by unfold Fuel at hk; omega) (fun L t ht => ?_) (fun L => ?_)
 ·simp only [Yc.l0,Yc.m0,Yc.m0]
  rw [ZY (show ((X.length + 1 + t : Nat) : Int) < b by omega)]
  simp only [cond_true]
  obtain ⟨x,hx⟩ : ∃ x,S[t + 1]? = some x := ⟨_,List.getElem?_eq_getElem (by omega)⟩
  have hdrop : S.drop (t + 1) = x :: S.drop (t + 1 + 1) := by
   obtain ⟨hx1,hx2⟩ := List.getElem?_eq_some_iff.mp hx
   rw [List.drop_eq_getElem_cons hx1,hx2]
  have htake : S.take (t + 1 + 1) = S.take (t + 1) ++ [x] := by
   rw [List.take_add_one,hx]; rfl
  have hlt : ∀ y ∈ S.take (t + 1),y < x := fun y hy => by
   have := hS.sublist (List.take_sublist (t + 1 + 1) S)
   rw [htake] at this
   exact (List.pairwise_append.mp this).2.2 y hy x (by simp)
  have hnd : (S.take (t + 1)).Nodup := (hS.sublist (List.take_sublist _ S)).imp (fun h => by omega)
  have hR := YaU (key := key) hnd
  have hRl : (Yax key (S.take (t + 1))).length = t + 1 := by rw [Yau,List.length_take]; omega
  rw [hdrop]
  generalize Yax key (S.take (t + 1)) = R at hR hRl ⊢
  have hTl : (S.drop (t + 1 + 1)).length = S.length - (t + 1 + 1) := List.length_drop ..
  generalize hT : S.drop (t + 1 + 1) = T at hTl ⊢
  refine iter_val (fun v : Int × LC => v.1.toNat) (fun v => ∃ A B,R = A ++ B ∧ v.1 = ((X.length + A.length : Nat) : Int) ∧ v.2 = upE e (X ++ A ++ x :: (B ++ T ++ Y)) ∧ ∀ y ∈ B,key x < key y) (fun _ => L (a,b,((X.length + 1 + (t + 1) : Nat) : Int),upE e (X ++ Yax key (S.take (t + 1 + 1)) ++ T ++ Y))) ?_ k _ ⟨R,[],by simp,by simp only []; omega,by simp,by simp⟩ (by unfold Fuel at hk; simp only []; omega)
  rintro ⟨j,rows⟩ ⟨A,B,hS',hj,hrow,hB⟩ L1 hL
  simp only [] at hj hrow hL
  subst hj hrow
  have hlen : A.length + B.length = t + 1 := by rw [← hRl,hS']; simp
  have hwt : IntKind.wrap .i64 (((X.length + 1 + t : Nat) : Int) + 1) = ((X.length + 1 + (t + 1) : Nat) : Int) := by rw [Z9 (by omega) (by omega)]; omega
  simp only [Yc.l1,hwt]
  have hdone : (∀ y ∈ A,ltK key y x) → L (a,b,((X.length + 1 + (t + 1) : Nat) : Int),upE e (X ++ A ++ x :: (B ++ T ++ Y))) = L (a,b,((X.length + 1 + (t + 1) : Nat) : Int),upE e (X ++ Yax key (S.take (t + 1 + 1)) ++ T ++ Y)) := fun h => by
   have hst : StOf key (S.take (t + 1 + 1)) (A ++ x :: B) := by
    have hp := hR.1
    rw [hS'] at hp
    obtain ⟨p1,p2,p3⟩ := List.pairwise_append.mp hp
    refine ⟨List.pairwise_append.mpr ⟨p1,List.pairwise_cons.mpr ⟨fun y hy => .inl (hB y hy),p2⟩,fun y hy z hz => ?_⟩,?_⟩
    ·rcases List.mem_cons.mp hz with rfl | hz
     ·exact h y hy
     ·exact p3 y hy z hz
    ·rw [htake]
     refine List.perm_middle.trans ?_
     rw [← hS']
     exact (List.Perm.cons x hR.2).trans (List.perm_append_singleton x _).symm
   rw [← srtK_eq hst]
   simp
  have hll : (X ++ A ++ x :: (B ++ T ++ Y)).length < 1099511627776 := by simp only [List.length_append,List.length_cons]; omega
  rcases List.eq_nil_or_concat A with rfl | ⟨A',y,rfl⟩
  ·rw [ZZ (by simp; omega)]
   simp only [cond_false]
   exact hdone (by simp)
  ·simp only [List.concat_eq_append] at hS' hlen hdone hL hll ⊢
   have hyR : y ∈ R := by rw [hS']; simp
   have hyx := hlt y (hR.2.mem_iff.mp hyR)
   have hAl : (A' ++ [y]).length = A'.length + 1 := by simp
   rw [hAl] at hL hlen ⊢
   have e1 : X ++ (A' ++ [y]) ++ x :: (B ++ T ++ Y) = X ++ A' ++ y :: (x :: (B ++ T ++ Y)) := by simp
   have e2 : X ++ A' ++ y :: (x :: (B ++ T ++ Y)) = (X ++ A' ++ [y]) ++ x :: (B ++ T ++ Y) := by simp
   have hw2 : IntKind.wrap .i64 (((X.length + (A'.length + 1) : Nat) : Int) - 1) = ((X.length + A'.length : Nat) : Int) := by rw [Z9 (by omega) (by omega)]; omega
   rw [ZY (show ((X.length + (A'.length + 1) : Nat) : Int) > a by omega)]
   simp only [cond_true,hw2]
   rw [e1]
   have gx : (X ++ A' ++ y :: (x :: (B ++ T ++ Y)))[X.length + (A'.length + 1)]? = some x := by rw [e2]; exact YaO (by simp <;> omega)
   have gy : (X ++ A' ++ y :: (x :: (B ++ T ++ Y)))[X.length + A'.length]? = some y := YaO (by simp)
   have hlL : (X ++ A' ++ y :: (x :: (B ++ T ++ Y))).length = X.length + A'.length + 2 + (B.length + T.length + Y.length) := by simp; omega
   rw [YaH rfl gx,YaH rfl gy,cmpT_fv,cmpTI_neg,hke,hke]
   by_cases hc : key x < key y
   ·rw [ZY hc]
    simp only [cond_true]
    rw [YaH rfl gy,YaH rfl gx,sw_get (i := X.length + (A'.length + 1)) (j := X.length + A'.length) (x := y) (y := x) rfl rfl (by omega) (by omega) (F := fun r => L1 (_,r))]
    have e3 : ((X ++ A' ++ y :: (x :: (B ++ T ++ Y))).set (X.length + (A'.length + 1)) y).set (X.length + A'.length) x = X ++ A' ++ x :: (y :: B ++ T ++ Y) := by
     rw [e2,set_mid (by simp <;> omega),show X ++ A' ++ [y] ++ y :: (B ++ T ++ Y) = X ++ A' ++ y :: (y :: (B ++ T ++ Y)) from by simp,set_mid (by simp)]
     simp
    rw [e3]
    exact hL _ ⟨A',y :: B,by rw [hS']; simp,rfl,rfl,fun z hz => by rcases List.mem_cons.mp hz with rfl | hz; exact hc; exact hB z hz⟩ (by simp only []; omega)
   ·rw [ZZ hc]
    simp only [cond_false]
    rw [← e1]
    refine hdone fun z hz => ?_
    have hyx2 : ltK key y x := by unfold ltK; omega
    rcases List.mem_append.mp hz with hz | hz
    ·have hp := hR.1
     rw [hS'] at hp
     have hp2 := (List.pairwise_append.mp (List.pairwise_append.mp hp).1).2.2 z hz y (by simp)
     exact ltK_tr hp2 hyx2
    ·simp at hz; subst hz; exact hyx2
 ·simp only [Yc.l0,Yc.m0,Yc.m0]
  rw [ZZ (by omega)]
  simp only [cond_false]
  rw [List.take_of_length_le (by omega),List.drop_of_length_le (by omega)]
  simp
theorem Yd.f_of {β : Type} {k a0 a1 a2 a3 z0} (h : Yd.t k a0 a1 a2 a3 = some z0) (K : LC → Option β) : Yd.f k a0 a1 a2 a3 K = K z0 := by unfold Yd.f; rw [h]; rfl
theorem Ye.f_of {β : Type} {k a0 a1 a2 a3 z0} (h : Ye.t k a0 a1 a2 a3 = some z0) (K : LC → Option β) : Ye.f k a0 a1 a2 a3 K = K z0 := by unfold Ye.f; rw [h]; rfl
theorem drop_get {S : List Nat} {t : Nat} (h : t < S.length) : ∃ x,S.drop t = x :: S.drop (t + 1) ∧ S.take (t + 1) = S.take t ++ [x] := by
 refine ⟨S[t],List.drop_eq_getElem_cons h,?_⟩
 rw [List.take_add_one,List.getElem?_eq_getElem h]; rfl
theorem swapT_t {e : Nat → Int × Int} {X U Z V Y : List Nat} (hUV : U.length = V.length) (hl : (X ++ U ++ Z ++ V ++ Y).length < 1099511627776) {k : Nat} (hk : Fuel k) {a b n : Int} (ha : a = (X.length : Int)) (hb : b = ((X.length + U.length + Z.length : Nat) : Int)) (hn : n = (U.length : Int)) :
  Yd.t k (upE e (X ++ U ++ Z ++ V ++ Y)) a b n = some (upE e (X ++ V ++ Z ++ U ++ Y)) := by
 have hb' : big = 2 ^ 64 := rfl
 simp only [List.length_append] at hl
 unfold Yd.t Yd.g
 have h0 : X ++ U ++ Z ++ V ++ Y = X ++ (V.take 0 ++ U.drop 0) ++ Z ++ (U.take 0 ++ V.drop 0) ++ Y := by simp
 rw [h0]
 refine iter_seq (f := fun t => ((t : Int),upE e (X ++ (V.take t ++ U.drop t) ++ Z ++ (U.take t ++ V.drop t) ++ Y))) (n := U.length) (by unfold Fuel at hk; omega) (fun L t ht => ?_) (fun L => ?_)
 ·simp only [Yd.l0]
  rw [ZY (show (t : Int) < n by omega)]
  simp only [cond_true]
  obtain ⟨u,hu1,hu2⟩ := drop_get (S := U) (t := t) ht
  obtain ⟨v,hv1,hv2⟩ := drop_get (S := V) (t := t) (by omega)
  have hVt : (V.take t).length = t := by rw [List.length_take]; omega
  have hUt : (U.take t).length = t := by rw [List.length_take]; omega
  have hUd : (U.drop (t + 1)).length = U.length - (t + 1) := List.length_drop ..
  have hVd : (V.drop (t + 1)).length = V.length - (t + 1) := List.length_drop ..
  rw [hu2,hv2,hu1,hv1]
  generalize V.take t = Vt at hVt ⊢
  generalize U.take t = Ut at hUt ⊢
  generalize U.drop (t + 1) = Ud at hUd ⊢
  generalize V.drop (t + 1) = Vd at hVd ⊢
  have e1 : X ++ (Vt ++ u :: Ud) ++ Z ++ (Ut ++ v :: Vd) ++ Y = (X ++ Vt) ++ u :: (Ud ++ Z ++ Ut ++ v :: (Vd ++ Y)) := by simp
  have e2 : ∀ q,(X ++ Vt) ++ q :: (Ud ++ Z ++ Ut ++ v :: (Vd ++ Y)) = ((X ++ Vt) ++ q :: (Ud ++ Z ++ Ut)) ++ v :: (Vd ++ Y) := fun q => by simp
  have hwa : IntKind.wrap .i64 (a + (t : Int)) = ((X.length + t : Nat) : Int) := by rw [Z9 (by omega) (by omega)]; omega
  have hwb : IntKind.wrap .i64 (b + (t : Int)) = ((X.length + U.length + Z.length + t : Nat) : Int) := by rw [Z9 (by omega) (by omega)]; omega
  have hwt : IntKind.wrap .i64 ((t : Int) + 1) = ((t + 1 : Nat) : Int) := by rw [Z9 (by omega) (by omega)]; omega
  rw [hwa,hwb,hwt,e1]
  have gu : (X ++ Vt ++ u :: (Ud ++ Z ++ Ut ++ v :: (Vd ++ Y)))[X.length + t]? = some u := YaO (by simp [hVt])
  have gv : (X ++ Vt ++ u :: (Ud ++ Z ++ Ut ++ v :: (Vd ++ Y)))[X.length + U.length + Z.length + t]? = some v := by
   rw [e2]; exact YaO (by simp [hVt,hUd,hUt]; omega)
  have hlL : (X ++ Vt ++ u :: (Ud ++ Z ++ Ut ++ v :: (Vd ++ Y))).length = X.length + U.length + Z.length + V.length + Y.length := by simp [hVt,hUt,hUd,hVd]; omega
  rw [YaH rfl gv,YaH rfl gu,sw_get (i := X.length + t) (j := X.length + U.length + Z.length + t) (x := v) (y := u) rfl rfl (by omega) (by omega) (F := fun r => L (_,r))]
  rw [set_mid (by simp [hVt]),e2,set_mid (by simp [hVt,hUd,hUt]; omega)]
  congr 3
  simp
 ·simp only [Yd.l0]
  rw [ZZ (by omega)]
  simp only [cond_false]
  rw [List.take_of_length_le (show V.length ≤ U.length by omega),List.drop_of_length_le (Nat.le_refl U.length),List.take_of_length_le (Nat.le_refl U.length),List.drop_of_length_le (show V.length ≤ U.length by omega)]
  simp
theorem swapT_f {e : Nat → Int × Int} {X U Z V Y : List Nat} (hUV : U.length = V.length) (hl : (X ++ U ++ Z ++ V ++ Y).length < 1099511627776) {k : Nat} (hk : Fuel k) {a b n : Int} (ha : a = (X.length : Int)) (hb : b = ((X.length + U.length + Z.length : Nat) : Int)) (hn : n = (U.length : Int)) {β : Type} (K : LC → Option β) :
  Yd.f k (upE e (X ++ U ++ Z ++ V ++ Y)) a b n K = K (upE e (X ++ V ++ Z ++ U ++ Y)) := Yd.f_of (swapT_t hUV hl hk ha hb hn) K
theorem rotT_t {e : Nat → Int × Int} {X A B Y : List Nat} (hA : 0 < A.length) (hB : 0 < B.length) (hl : (X ++ A ++ B ++ Y).length < 1099511627776) {k : Nat} (hk : Fuel k) {a m b : Int} (ha : a = (X.length : Int)) (hm : m = ((X.length + A.length : Nat) : Int)) (hb : b = ((X.length + A.length + B.length : Nat) : Int)) :
  Ye.t k (upE e (X ++ A ++ B ++ Y)) a m b = some (upE e (X ++ B ++ A ++ Y)) := by
 have hb' : big = 2 ^ 64 := rfl
 simp only [List.length_append] at hl
 unfold Ye.t Ye.g
 rw [Z9 (x := m - a) (by omega) (by omega),Z9 (x := b - m) (by omega) (by omega)]
 refine iter_val (fun v : Int × Int × LC => (v.1 + v.2.1).toNat) (fun v => ∃ X' P Q Y',v.2.2 = upE e (X' ++ P ++ Q ++ Y') ∧ v.1 = (P.length : Int) ∧ v.2.1 = (Q.length : Int) ∧ m = ((X'.length + P.length : Nat) : Int) ∧ 0 < P.length ∧ 0 < Q.length ∧ X' ++ Q ++ P ++ Y' = X ++ B ++ A ++ Y) (fun _ => some (upE e (X ++ B ++ A ++ Y))) ?_ k _ ⟨X,A,B,Y,rfl,by simp only []; omega,by simp only []; omega,hm,hA,hB,rfl⟩ (by unfold Fuel at hk; simp only []; omega)
 rintro ⟨i,j,rows⟩ ⟨X',P,Q,Y',hrow,hi,hj,hmm,hP,hQ,hT⟩ L hL
 simp only [] at hrow hi hj hL
 subst hrow hi hj
 have hlen : X'.length + Q.length + P.length + Y'.length = X.length + B.length + A.length + Y.length := by
  have := congrArg List.length hT
  simpa only [List.length_append] using this
 simp only [Ye.l0]
 have hw1 : IntKind.wrap .i64 (m - (P.length : Int)) = (X'.length : Int) := by rw [Z9 (by omega) (by omega)]; omega
 by_cases h : P.length = Q.length
 ·have hne : ((P.length : Int) != (Q.length : Int)) = false := by simp [h]
  rw [hne]
  simp only [cond_false]
  rw [hw1,show X' ++ P ++ Q ++ Y' = X' ++ P ++ [] ++ Q ++ Y' from by simp,swapT_f h (by simp only [List.length_append,List.length_nil]; omega) hk rfl (by simp only [List.length_nil]; omega) rfl,ZH (by rw [Yas,Yas]; simp only [List.length_append,List.length_nil]; omega)]
  rw [← hT]
  simp
 ·have hne : ((P.length : Int) != (Q.length : Int)) = true := by simp; omega
  rw [hne]
  simp only [cond_true]
  by_cases h2 : Q.length < P.length
  ·rw [ZY (show (P.length : Int) > (Q.length : Int) by omega)]
   simp only [cond_true]
   have eP : P = P.take Q.length ++ P.drop Q.length := (List.take_append_drop _ _).symm
   have l1 : (P.take Q.length).length = Q.length := by rw [List.length_take]; omega
   have l2 : (P.drop Q.length).length = P.length - Q.length := List.length_drop ..
   have hlP := hlen
   generalize P.take Q.length = P1 at eP l1
   generalize P.drop Q.length = P2 at eP l2
   have hw2 : IntKind.wrap .i64 ((P.length : Int) - (Q.length : Int)) = (P2.length : Int) := by rw [Z9 (by omega) (by omega)]; omega
   have hPl : P.length = P1.length + P2.length := by rw [eP,List.length_append]
   rw [hw1,hw2,show X' ++ P ++ Q ++ Y' = X' ++ P1 ++ P2 ++ Q ++ Y' from by rw [eP]; simp,swapT_f l1 (by simp only [List.length_append]; omega) hk rfl (by omega) (by omega),ZH (by rw [Yas,Yas]; simp only [List.length_append]; omega)]
   exact hL _ ⟨X' ++ Q,P2,P1,Y',by simp,rfl,by simp only []; omega,by rw [hmm,List.length_append]; omega,by omega,by omega,by rw [← hT,eP]; simp⟩ (by simp only []; omega)
  ·rw [ZZ (show ¬ (P.length : Int) > (Q.length : Int) by omega)]
   simp only [cond_false]
   have eQ : Q = Q.take (Q.length - P.length) ++ Q.drop (Q.length - P.length) := (List.take_append_drop _ _).symm
   have l1 : (Q.take (Q.length - P.length)).length = Q.length - P.length := by rw [List.length_take]; omega
   have l2 : (Q.drop (Q.length - P.length)).length = P.length := by rw [List.length_drop]; omega
   generalize Q.take (Q.length - P.length) = Q1 at eQ l1
   generalize Q.drop (Q.length - P.length) = Q2 at eQ l2
   have hw2 : IntKind.wrap .i64 ((Q.length : Int) - (P.length : Int)) = (Q1.length : Int) := by rw [Z9 (by omega) (by omega)]; omega
   have hw3 : IntKind.wrap .i64 (IntKind.wrap .i64 (m + (Q.length : Int)) - (P.length : Int)) = ((X'.length + P.length + Q1.length : Nat) : Int) := by
    rw [Z9 (x := m + _) (by omega) (by omega),Z9 (by omega) (by omega)]; omega
   have hQl : Q.length = Q1.length + Q2.length := by rw [eQ,List.length_append]
   rw [hw1,hw2,hw3,show X' ++ P ++ Q ++ Y' = X' ++ P ++ Q1 ++ Q2 ++ Y' from by rw [eQ]; simp,swapT_f l2.symm (by simp only [List.length_append]; omega) hk rfl rfl rfl,ZH (by rw [Yas,Yas]; simp only [List.length_append]; omega)]
   exact hL _ ⟨X',Q2,Q1,P ++ Y',by simp,by simp only []; omega,rfl,by rw [hmm]; omega,by omega,by omega,by rw [← hT,eQ]; simp⟩ (by simp only []; omega)
theorem rotT_f {e : Nat → Int × Int} {X A B Y : List Nat} (hA : 0 < A.length) (hB : 0 < B.length) (hl : (X ++ A ++ B ++ Y).length < 1099511627776) {k : Nat} (hk : Fuel k) {a m b : Int} (ha : a = (X.length : Int)) (hm : m = ((X.length + A.length : Nat) : Int)) (hb : b = ((X.length + A.length + B.length : Nat) : Int)) {β : Type} (K : LC → Option β) :
  Ye.f k (upE e (X ++ A ++ B ++ Y)) a m b K = K (upE e (X ++ B ++ A ++ Y)) := Ye.f_of (rotT_t hA hB hl hk ha hm hb) K
theorem Ya.f_of {β : Type} {k a0 a1 a2 a3 z0} (h : Ya.t k a0 a1 a2 a3 = some z0) (K : LC → Option β) : Ya.f k a0 a1 a2 a3 K = K z0 := by unfold Ya.f Ya.w; rw [h]; rfl
theorem halfS {i j h : Nat} (hh : (i + j) / 2 = h) (hl : i + j < 2199023255552) : Int.fdiv (IntKind.wrap .u64 (IntKind.wrap .i64 ((i : Int) + (j : Int)))) (2 ^ (min (1 : Int).toNat 64)) = (h : Int) := by
 have : IntKind.wrap .u64 (IntKind.wrap .i64 ((i : Int) + (j : Int))) = (i : Int) + (j : Int) := by
  rw [Z9 (by omega) (by omega)]
  simp only [IntKind.wrap,IntKind.bits,IntKind.signed]
  simp
  omega
 rw [this,show (min (1 : Int).toNat 64) = 1 from rfl,Int.pow_one,Int.fdiv_eq_ediv_of_nonneg _ (by decide)]
 omega
theorem st_one {key : Nat → Int} {x s : Nat} {B : List Nat} (hB : B.Pairwise (ltK key)) (hx : ∀ y ∈ B,x < y) (h1 : ∀ y ∈ B.take s,key y < key x) (h2 : ∀ y ∈ B.drop s,¬ key y < key x) : B.take s ++ x :: B.drop s = Yax key ([x] ++ B) := by
 refine srtK_eq ⟨?_,?_⟩
 ·rw [← List.take_append_drop s B] at hB
  obtain ⟨p1,p2,p3⟩ := List.pairwise_append.mp hB
  refine List.pairwise_append.mpr ⟨p1,List.pairwise_cons.mpr ⟨fun y hy => ?_,p2⟩,fun y hy z hz => ?_⟩
  ·have h3 := h2 y hy
   have h4 := hx y (List.mem_of_mem_drop hy)
   unfold ltK; omega
  ·rcases List.mem_cons.mp hz with rfl | hz
   ·exact .inl (h1 y hy)
   ·exact p3 y hy z hz
 ·refine List.perm_middle.trans ?_
  rw [List.take_append_drop]
  exact List.Perm.refl _
theorem st_last {key : Nat → Int} {y s : Nat} {A : List Nat} (hA : A.Pairwise (ltK key)) (hx : ∀ x ∈ A,x < y) (h1 : ∀ x ∈ A.take s,¬ key y < key x) (h2 : ∀ x ∈ A.drop s,key y < key x) : A.take s ++ y :: A.drop s = Yax key (A ++ [y]) := by
 refine srtK_eq ⟨?_,?_⟩
 ·rw [← List.take_append_drop s A] at hA
  obtain ⟨p1,p2,p3⟩ := List.pairwise_append.mp hA
  refine List.pairwise_append.mpr ⟨p1,List.pairwise_cons.mpr ⟨fun z hz => .inl (h2 z hz),p2⟩,fun x hx' z hz => ?_⟩
  ·rcases List.mem_cons.mp hz with rfl | hz
   ·have h3 := h1 x hx'
    have h4 := hx x (List.mem_of_mem_take hx')
    unfold ltK; omega
   ·exact p3 x hx' z hz
 ·refine List.perm_middle.trans ?_
  rw [List.take_append_drop]
  exact (List.perm_append_singleton y A).symm
theorem key_le {key : Nat → Int} {L : List Nat} (h : L.Pairwise (ltK key)) {i j : Nat} (hi : i < L.length) (hj : j < L.length) (hij : i ≤ j) : key L[i] ≤ key L[j] := by
 rcases st_le h hi hj hij with q | q
 ·rw [q]; exact Int.le_refl _
 ·unfold ltK at q; omega
theorem take_keys {key : Nat → Int} {L : List Nat} (h : L.Pairwise (ltK key)) {c : Nat} (hc : c < L.length) {y : Nat} (hy : y ∈ L.take (c + 1)) : key y ≤ key L[c] := by
 obtain ⟨i,hi,his,rfl⟩ := mem_take_get hy
 exact key_le h hi hc (by omega)
theorem drop_keys {key : Nat → Int} {L : List Nat} (h : L.Pairwise (ltK key)) {c : Nat} (hc : c < L.length) {y : Nat} (hy : y ∈ L.drop c) : key L[c] ≤ key y := by
 obtain ⟨i,hi,his,rfl⟩ := mem_drop_get hy
 exact key_le h hc hi (by omega)
theorem symT_one {e : Nat → Int × Int} {key : Nat → Int} (hke : ∀ i,(e i).1 = key i) {X B Y : List Nat} {x k : Nat} {r : LC → Int → Int → Int → (LC → Option LC) → Option LC} (hk : Fuel k) {a m b : Int} (hB : B.Pairwise (ltK key)) (hx : ∀ y ∈ B,x < y) (hl : (X ++ [x] ++ B ++ Y).length < 1099511627776) (ha : a = (X.length : Int)) (hm : m = ((X.length + 1 : Nat) : Int)) (hb : b = ((X.length + 1 + B.length : Nat) : Int)) :
  ZA (Ya.l0 k r a (upE e (X ++ [x] ++ B ++ Y)) (fun z0 => some z0)) k (m,b) = some (upE e (X ++ Yax key ([x] ++ B) ++ Y)) := by
 have hb' : big = 2 ^ 64 := rfl
 simp only [List.length_append,List.length_singleton] at hl
 refine iter_val (fun v : Int × Int => (v.2 - v.1).toNat) (fun v => ∃ s t : Nat,v.1 = ((X.length + 1 + s : Nat) : Int) ∧ v.2 = ((X.length + 1 + t : Nat) : Int) ∧ s ≤ t ∧ t ≤ B.length ∧ (∀ y ∈ B.take s,key y < key x) ∧ ∀ y ∈ B.drop t,¬ key y < key x) (fun _ => some (upE e (X ++ Yax key ([x] ++ B) ++ Y))) ?_ k _ ⟨0,B.length,by simp only []; omega,by simp only []; omega,by omega,Nat.le_refl _,by simp,by simp⟩ (by unfold Fuel at hk; simp only []; omega)
 rintro ⟨i,j⟩ ⟨s,t,hi,hj,hst,htB,h1,h2⟩ L hL
 simp only [] at hi hj hL
 subst hi hj
 simp only [Ya.l0,Ya.m0,Ya.m0]
 by_cases hlt : s < t
 ·rw [ZY (show ((X.length + 1 + s : Nat) : Int) < ((X.length + 1 + t : Nat) : Int) by omega)]
  simp only [cond_true]
  obtain ⟨u,hu⟩ : ∃ u,u = (s + t + (X.length + 1) + (X.length + 1)) / 2 - (X.length + 1) := ⟨_,rfl⟩
  have hus : s ≤ u ∧ u < t := by omega
  have hub : u < B.length := by omega
  rw [halfS (h := X.length + 1 + u) (by omega) (by omega),Z9 (x := ((X.length + 1 + u : Nat) : Int)) (by omega) (by omega),ZH (by decide)]
  have gB : (X ++ [x] ++ B ++ Y)[X.length + 1 + u]? = some B[u] := by
   rw [show X ++ [x] ++ B ++ Y = X ++ [x] ++ (B ++ Y) from by simp,List.getElem?_append_right (by simp <;> omega),List.getElem?_append_left (by simp <;> omega)]
   rw [show X.length + 1 + u - (X ++ [x]).length = u from by simp,List.getElem?_eq_getElem hub]
  have gx : (X ++ [x] ++ B ++ Y)[X.length]? = some x := by rw [show X ++ [x] ++ B ++ Y = X ++ x :: (B ++ Y) from by simp]; exact YaO rfl
  rw [YaH rfl gB,YaH ha gx,cmpT_fv,cmpTI_neg,hke,hke]
  have hw : IntKind.wrap .i64 (((X.length + 1 + u : Nat) : Int) + 1) = ((X.length + 1 + (u + 1) : Nat) : Int) := by rw [Z9 (by omega) (by omega)]; omega
  by_cases hc : key B[u] < key x
  ·rw [ZY hc]
   simp only [cond_true,hw]
   exact hL _ ⟨u + 1,t,rfl,rfl,by omega,htB,fun y hy => by have := take_keys hB hub hy; omega,h2⟩ (by simp only []; omega)
  ·rw [ZZ hc]
   simp only [cond_false]
   exact hL _ ⟨s,u,rfl,rfl,by omega,by omega,h1,fun y hy => by have := drop_keys hB hub hy; omega⟩ (by simp only []; omega)
 ·obtain rfl : s = t := by omega
  rw [ZZ (by omega)]
  simp only [cond_false]
  rw [← st_one hB hx h1 h2]
  have h0 : X ++ [x] ++ B ++ Y = X ++ B.take 0 ++ x :: (B.drop 0 ++ Y) := by simp
  have ha0 : a = ((X.length + 0 : Nat) : Int) := by omega
  rw [h0,ha0]
  refine iter_seq (f := fun t => (((X.length + t : Nat) : Int),upE e (X ++ B.take t ++ x :: (B.drop t ++ Y)))) (n := s) (by unfold Fuel at hk; omega) (fun L t ht => ?_) (fun L => ?_)
  ·simp only [Ya.l1]
   rw [Z9 (x := ((X.length + 1 + s : Nat) : Int) - 1) (by omega) (by omega),ZY (by omega)]
   simp only [cond_true]
   obtain ⟨y,hy1,hy2⟩ := drop_get (S := B) (t := t) (by omega)
   have hBt : (B.take t).length = t := by rw [List.length_take]; omega
   have hBd : (B.drop (t + 1)).length = B.length - (t + 1) := List.length_drop ..
   rw [hy2,hy1]
   generalize B.take t = Bt at hBt ⊢
   generalize B.drop (t + 1) = Bd at hBd ⊢
   have hw : IntKind.wrap .i64 (((X.length + t : Nat) : Int) + 1) = ((X.length + (t + 1) : Nat) : Int) := by rw [Z9 (by omega) (by omega)]; omega
   rw [hw]
   have e1 : ∀ q,X ++ Bt ++ q :: (y :: Bd ++ Y) = (X ++ Bt ++ [q]) ++ y :: (Bd ++ Y) := fun q => by simp
   have gx : (X ++ Bt ++ x :: (y :: Bd ++ Y))[X.length + t]? = some x := YaO (by simp [hBt])
   have gy : (X ++ Bt ++ x :: (y :: Bd ++ Y))[X.length + (t + 1)]? = some y := by rw [e1]; exact YaO (by simp [hBt] <;> omega)
   have hlL : (X ++ Bt ++ x :: (y :: Bd ++ Y)).length = X.length + 1 + B.length + Y.length := by simp [hBt,hBd]; omega
   rw [YaH rfl gy,YaH rfl gx,sw_get (i := X.length + t) (j := X.length + (t + 1)) (x := y) (y := x) rfl rfl (by omega) (by omega) (F := fun r => L (_,r))]
   rw [set_mid (by simp [hBt]),e1,set_mid (by simp [hBt] <;> omega)]
   congr 3
   simp
  ·simp only [Ya.l1]
   rw [Z9 (x := ((X.length + 1 + s : Nat) : Int) - 1) (by omega) (by omega),ZZ (by omega)]
   simp
theorem symT_last {e : Nat → Int × Int} {key : Nat → Int} (hke : ∀ i,(e i).1 = key i) {X A Y : List Nat} {y k : Nat} {r : LC → Int → Int → Int → (LC → Option LC) → Option LC} (hk : Fuel k) {a m : Int} (hA : A.Pairwise (ltK key)) (hx : ∀ x ∈ A,x < y) (hl : (X ++ A ++ [y] ++ Y).length < 1099511627776) (ha : a = (X.length : Int)) (hm : m = ((X.length + A.length : Nat) : Int)) :
  ZA (Ya.l2 k r m (upE e (X ++ A ++ [y] ++ Y)) (fun z0 => some z0)) k (a,m) = some (upE e (X ++ Yax key (A ++ [y]) ++ Y)) := by
 have hb' : big = 2 ^ 64 := rfl
 simp only [List.length_append,List.length_singleton] at hl
 refine iter_val (fun v : Int × Int => (v.2 - v.1).toNat) (fun v => ∃ s t : Nat,v.1 = ((X.length + s : Nat) : Int) ∧ v.2 = ((X.length + t : Nat) : Int) ∧ s ≤ t ∧ t ≤ A.length ∧ (∀ x ∈ A.take s,¬ key y < key x) ∧ ∀ x ∈ A.drop t,key y < key x) (fun _ => some (upE e (X ++ Yax key (A ++ [y]) ++ Y))) ?_ k _ ⟨0,A.length,by simp only []; omega,by simp only []; omega,by omega,Nat.le_refl _,by simp,by simp⟩ (by unfold Fuel at hk; simp only []; omega)
 rintro ⟨i,j⟩ ⟨s,t,hi,hj,hst,htB,h1,h2⟩ L hL
 simp only [] at hi hj hL
 subst hi hj
 simp only [Ya.l2,Ya.m2,Ya.m2]
 by_cases hlt : s < t
 ·rw [ZY (show ((X.length + s : Nat) : Int) < ((X.length + t : Nat) : Int) by omega)]
  simp only [cond_true]
  obtain ⟨u,hu⟩ : ∃ u,u = (s + t + X.length + X.length) / 2 - X.length := ⟨_,rfl⟩
  have hus : s ≤ u ∧ u < t := by omega
  have hub : u < A.length := by omega
  rw [halfS (h := X.length + u) (by omega) (by omega),Z9 (x := ((X.length + u : Nat) : Int)) (by omega) (by omega),ZH (by decide)]
  have gA : (X ++ A ++ [y] ++ Y)[X.length + u]? = some A[u] := by
   rw [show X ++ A ++ [y] ++ Y = X ++ (A ++ ([y] ++ Y)) from by simp,List.getElem?_append_right (by omega),List.getElem?_append_left (by omega)]
   rw [show X.length + u - X.length = u from by omega,List.getElem?_eq_getElem hub]
  have gy : (X ++ A ++ [y] ++ Y)[X.length + A.length]? = some y := by rw [show X ++ A ++ [y] ++ Y = X ++ A ++ y :: Y from by simp]; exact YaO (by simp)
  rw [YaH hm gy,YaH rfl gA,cmpT_fv,cmpTI_neg,hke,hke]
  have hw : IntKind.wrap .i64 (((X.length + u : Nat) : Int) + 1) = ((X.length + (u + 1) : Nat) : Int) := by rw [Z9 (by omega) (by omega)]; omega
  by_cases hc : key y < key A[u]
  ·rw [ZY hc]
   simp only [Bool.not_true,cond_false]
   exact hL _ ⟨s,u,rfl,rfl,by omega,by omega,h1,fun x hx => by have := drop_keys hA hub hx; omega⟩ (by simp only []; omega)
  ·rw [ZZ hc]
   simp only [Bool.not_false,cond_true,hw]
   exact hL _ ⟨u + 1,t,rfl,rfl,by omega,htB,fun x hx => by have := take_keys hA hub hx; omega,h2⟩ (by simp only []; omega)
 ·obtain rfl : s = t := by omega
  rw [ZZ (by omega)]
  simp only [cond_false]
  rw [← st_last hA hx h1 h2]
  have h0 : X ++ A ++ [y] ++ Y = X ++ A.take (A.length - 0) ++ y :: (A.drop (A.length - 0) ++ Y) := by simp
  have hm0 : m = ((X.length + A.length - 0 : Nat) : Int) := by omega
  rw [h0,hm0]
  refine iter_seq (f := fun t => (((X.length + A.length - t : Nat) : Int),upE e (X ++ A.take (A.length - t) ++ y :: (A.drop (A.length - t) ++ Y)))) (n := A.length - s) (by unfold Fuel at hk; omega) (fun L t ht => ?_) (fun L => ?_)
  ·simp only [Ya.l3]
   rw [ZY (by omega)]
   simp only [cond_true]
   obtain ⟨c,hc⟩ : ∃ c,A.length - t = c + 1 := ⟨A.length - t - 1,by omega⟩
   have hc2 : A.length - (t + 1) = c := by omega
   have hc3 : X.length + A.length - t = X.length + c + 1 := by omega
   have hc4 : X.length + A.length - (t + 1) = X.length + c := by omega
   rw [hc,hc2,hc3,hc4]
   obtain ⟨x,hx1,hx2⟩ := drop_get (S := A) (t := c) (by omega)
   have hAt : (A.take c).length = c := by rw [List.length_take]; omega
   have hAd : (A.drop (c + 1)).length = A.length - (c + 1) := List.length_drop ..
   rw [hx2,hx1]
   generalize A.take c = At at hAt ⊢
   generalize A.drop (c + 1) = Ad at hAd ⊢
   have hw : IntKind.wrap .i64 (((X.length + c + 1 : Nat) : Int) - 1) = ((X.length + c : Nat) : Int) := by rw [Z9 (by omega) (by omega)]; omega
   rw [hw]
   have e1 : ∀ q,X ++ (At ++ [x]) ++ q :: (Ad ++ Y) = X ++ At ++ x :: (q :: (Ad ++ Y)) := fun q => by simp
   have gy : (X ++ (At ++ [x]) ++ y :: (Ad ++ Y))[X.length + c + 1]? = some y := YaO (by simp [hAt] <;> omega)
   have gx : (X ++ (At ++ [x]) ++ y :: (Ad ++ Y))[X.length + c]? = some x := by rw [e1]; exact YaO (by simp [hAt])
   have hlL : (X ++ (At ++ [x]) ++ y :: (Ad ++ Y)).length = X.length + 1 + A.length + Y.length := by simp [hAt,hAd]; omega
   rw [YaH rfl gx,YaH rfl gy,sw_get (i := X.length + c + 1) (j := X.length + c) (x := x) (y := y) rfl rfl (by omega) (by omega) (F := fun r => L (_,r))]
   rw [set_mid (by simp [hAt] <;> omega),e1,set_mid (by simp [hAt])]
   congr 3
  ·simp only [Ya.l3]
   rw [ZZ (by omega)]
   simp only [cond_false]
   rw [show A.length - (A.length - s) = s from by omega]
   simp
theorem symT_tail {e : Nat → Int × Int} {key : Nat → Int} {k N : Nat} (hk : Fuel k) {X A B Y : List Nat} {s w : Nat} (hA : A.Pairwise (ltK key)) (hB : B.Pairwise (ltK key)) (hAB : ∀ x ∈ A,∀ y ∈ B,x < y) (hl : (X ++ A ++ B ++ Y).length < 1099511627776)
  (hsA : s ≤ A.length) (hsw : s ≤ w) (hwB : w - s ≤ B.length) (hw : w = (A.length + B.length + X.length + X.length) / 2 - X.length) (h1 : ∀ (h0 : 0 < s) (h2 : w - s < B.length),ltK key (A[s - 1]'(by omega)) B[w - s]) (h2 : ∀ (h0 : s < A.length) (h2 : 0 < w - s),ltK key (B[w - s - 1]'(by omega)) A[s])
  (ih : ∀ {X A B Y : List Nat} {a m b : Int},A.length + B.length ≤ N → 0 < A.length → 0 < B.length → A.Pairwise (ltK key) → B.Pairwise (ltK key) → (∀ x ∈ A,∀ y ∈ B,x < y) → (X ++ A ++ B ++ Y).length < 1099511627776 → a = (X.length : Int) → m = ((X.length + A.length : Nat) : Int) → b = ((X.length + A.length + B.length : Nat) : Int) → ∀ K : LC → Option LC,Ya.f k (upE e (X ++ A ++ B ++ Y)) a m b K = K (upE e (X ++ Yax key (A ++ B) ++ Y)))
  (hN : A.length + B.length ≤ N + 1) (hA0 : 0 < A.length) (hB0 : 0 < B.length) (L : Int × Int → Option LC) :
  Ya.l4 k (Ya.f k) (X.length : Int) ((X.length + A.length : Nat) : Int) ((X.length + A.length + B.length : Nat) : Int) ((X.length + w : Nat) : Int) ((X.length + w + (X.length + A.length) : Nat) : Int) ((X.length + w + (X.length + A.length) : Nat) - 1 : Int) (upE e (X ++ A ++ B ++ Y)) (fun z0 => some z0) L (((X.length + s : Nat) : Int),((X.length + s : Nat) : Int)) = some (upE e (X ++ Yax key (A ++ B) ++ Y)) := by
 have hb' : big = 2 ^ 64 := rfl
 simp only [List.length_append] at hl
 simp only [Ya.l4]
 rw [ZZ (by omega)]
 simp only [cond_false]
 have hend : IntKind.wrap .i64 (((X.length + w + (X.length + A.length) : Nat) : Int) - ((X.length + s : Nat) : Int)) = ((X.length + A.length + (w - s) : Nat) : Int) := by rw [Z9 (by omega) (by omega)]; omega
 rw [hend]
 have eA : A = A.take s ++ A.drop s := (List.take_append_drop _ _).symm
 have eB : B = B.take (w - s) ++ B.drop (w - s) := (List.take_append_drop _ _).symm
 have lA1 : (A.take s).length = s := by rw [List.length_take]; omega
 have lA2 : (A.drop s).length = A.length - s := List.length_drop ..
 have lB1 : (B.take (w - s)).length = w - s := by rw [List.length_take]; omega
 have lB2 : (B.drop (w - s)).length = B.length - (w - s) := List.length_drop ..
 have c1 : ∀ x ∈ A.take s,∀ y ∈ B.drop (w - s),ltK key x y := st_across hA hB (fun h0 _ h3 => h1 h0 h3) hsA
 have c2 : ∀ x ∈ A.drop s,∀ y ∈ B.take (w - s),ltK key y x := fun x hx y hy => st_across hB hA (s := w - s) (e := s) (fun h0 _ h3 => h2 h3 h0) hwB y hy x hx
 generalize A.take s = A1 at eA lA1 c1 c2
 generalize A.drop s = A2 at eA lA2 c1 c2
 generalize B.take (w - s) = B1 at eB lB1 c1 c2
 generalize B.drop (w - s) = B2 at eB lB2 c1 c2
 have hA' := hA; have hB' := hB
 rw [eA] at hA'
 rw [eB] at hB'
 obtain ⟨pA1,pA2,-⟩ := List.pairwise_append.mp hA'
 obtain ⟨pB1,pB2,-⟩ := List.pairwise_append.mp hB'
 have o11 : ∀ x ∈ A1,∀ y ∈ B1,x < y := fun x hx y hy => hAB x (by rw [eA]; simp [hx]) y (by rw [eB]; simp [hy])
 have o22 : ∀ x ∈ A2,∀ y ∈ B2,x < y := fun x hx y hy => hAB x (by rw [eA]; simp [hx]) y (by rw [eB]; simp [hy])
 have nA := hA'.imp (S := (· ≠ ·)) (fun {a b} h he => by subst he; exact ltK_as h h)
 have nB := hB'.imp (S := (· ≠ ·)) (fun {a b} h he => by subst he; exact ltK_as h h)
 have nd1 : (A1 ++ B1).Nodup := List.pairwise_append.mpr ⟨(List.pairwise_append.mp nA).1,(List.pairwise_append.mp nB).1,fun x hx y hy he => by have := o11 x hx y hy; omega⟩
 have nd2 : (A2 ++ B2).Nodup := List.pairwise_append.mpr ⟨(List.pairwise_append.mp nA).2.1,(List.pairwise_append.mp nB).2.1,fun x hx y hy he => by have := o22 x hx y hy; omega⟩
 have hfin : Yax key (A1 ++ B1) ++ Yax key (A2 ++ B2) = Yax key (A ++ B) := by
  rw [eA,eB]
  exact srtK_eq (st_join hA' hB' c1 c2 (YaU nd1) (YaU nd2))
 have lR1 : (Yax key (A1 ++ B1)).length = w := by rw [Yau,List.length_append]; omega
 -- the second half
 have T2 : ∀ R1 : List Nat,R1.length = w → ∀ y,y = upE e (X ++ R1 ++ A2 ++ B2 ++ Y) → (bif decide (((X.length + w : Nat) : Int) < ((X.length + A.length + (w - s) : Nat) : Int)) then (bif decide (((X.length + A.length + (w - s) : Nat) : Int) < ((X.length + A.length + B.length : Nat) : Int)) then (Ya.f k y ((X.length + w : Nat) : Int) ((X.length + A.length + (w - s) : Nat) : Int) ((X.length + A.length + B.length : Nat) : Int) (fun y' => Zd (y'.length = y.length) (some y'))) else (some y)) else (some y)) = some (upE e (X ++ R1 ++ Yax key (A2 ++ B2) ++ Y)) := by
  intro R1 hR1 y hy
  subst hy
  by_cases h3 : 0 < A2.length
  ·rw [ZY (by omega)]
   simp only [cond_true]
   by_cases h4 : 0 < B2.length
   ·rw [ZY (by omega)]
    simp only [cond_true]
    rw [ih (X := X ++ R1) (by omega) h3 h4 pA2 pB2 o22 (by simp only [List.length_append]; omega) (by rw [List.length_append]; omega) (by rw [List.length_append]; omega) (by rw [List.length_append]; omega),ZH (by rw [Yas,Yas]; simp only [List.length_append,Yau] <;> omega)]
   ·rw [ZZ (by omega)]
    simp only [cond_false]
    obtain rfl : B2 = [] := List.length_eq_zero_iff.mp (by omega)
    rw [List.append_nil,List.append_nil,srtK_self pA2]
  ·rw [ZZ (by omega)]
   simp only [cond_false]
   obtain rfl : A2 = [] := List.length_eq_zero_iff.mp (by omega)
   rw [List.append_nil,List.nil_append,srtK_self pB2]
 -- both halves
 have T1 : ∀ y,y = upE e (X ++ A1 ++ B1 ++ (A2 ++ B2 ++ Y)) → (bif decide ((X.length : Int) < ((X.length + s : Nat) : Int)) then (bif decide (((X.length + s : Nat) : Int) < ((X.length + w : Nat) : Int)) then (Ya.f k y (X.length : Int) ((X.length + s : Nat) : Int) ((X.length + w : Nat) : Int) (fun y1 => Zd (y1.length = y.length) (bif decide (((X.length + w : Nat) : Int) < ((X.length + A.length + (w - s) : Nat) : Int)) then (bif decide (((X.length + A.length + (w - s) : Nat) : Int) < ((X.length + A.length + B.length : Nat) : Int)) then (Ya.f k y1 ((X.length + w : Nat) : Int) ((X.length + A.length + (w - s) : Nat) : Int) ((X.length + A.length + B.length : Nat) : Int) (fun y' => Zd (y'.length = y1.length) (some y'))) else (some y1)) else (some y1)))) else (bif decide (((X.length + w : Nat) : Int) < ((X.length + A.length + (w - s) : Nat) : Int)) then (bif decide (((X.length + A.length + (w - s) : Nat) : Int) < ((X.length + A.length + B.length : Nat) : Int)) then (Ya.f k y ((X.length + w : Nat) : Int) ((X.length + A.length + (w - s) : Nat) : Int) ((X.length + A.length + B.length : Nat) : Int) (fun y' => Zd (y'.length = y.length) (some y'))) else (some y)) else (some y))) else (bif decide (((X.length + w : Nat) : Int) < ((X.length + A.length + (w - s) : Nat) : Int)) then (bif decide (((X.length + A.length + (w - s) : Nat) : Int) < ((X.length + A.length + B.length : Nat) : Int)) then (Ya.f k y ((X.length + w : Nat) : Int) ((X.length + A.length + (w - s) : Nat) : Int) ((X.length + A.length + B.length : Nat) : Int) (fun y' => Zd (y'.length = y.length) (some y'))) else (some y)) else (some y))) = some (upE e (X ++ Yax key (A ++ B) ++ Y)) := by
  intro y hy
  subst hy
  rw [← hfin,← List.append_assoc X]
  by_cases h3 : 0 < A1.length
  ·rw [ZY (show (X.length : Int) < ((X.length + s : Nat) : Int) by omega)]
   simp only [cond_true]
   by_cases h4 : 0 < B1.length
   ·rw [ZY (show ((X.length + s : Nat) : Int) < ((X.length + w : Nat) : Int) by omega)]
    simp only [cond_true]
    rw [ih (by omega) h3 h4 pA1 pB1 o11 (by simp only [List.length_append]; omega) rfl (by omega) (by omega),ZH (by rw [Yas,Yas]; simp only [List.length_append,Yau] <;> omega)]
    exact T2 _ lR1 _ (by simp)
   ·rw [ZZ (show ¬ ((X.length + s : Nat) : Int) < ((X.length + w : Nat) : Int) by omega)]
    simp only [cond_false]
    have hB1 : B1 = [] := List.length_eq_zero_iff.mp (by omega)
    have hs1 : Yax key (A1 ++ B1) = A1 := by rw [hB1,List.append_nil,srtK_self pA1]
    rw [hs1]
    exact T2 A1 (by omega) _ (by rw [hB1]; simp)
  ·rw [ZZ (show ¬ (X.length : Int) < ((X.length + s : Nat) : Int) by omega)]
   simp only [cond_false]
   have hA1 : A1 = [] := List.length_eq_zero_iff.mp (by omega)
   have hs1 : Yax key (A1 ++ B1) = B1 := by rw [hA1,List.nil_append,srtK_self pB1]
   rw [hs1]
   exact T2 B1 (by omega) _ (by rw [hA1]; simp)
 have hsw2 : (X ++ A1 ++ (B1 ++ A2) ++ (B2 ++ Y)) = X ++ A1 ++ B1 ++ (A2 ++ B2 ++ Y) := by simp
 by_cases h3 : 0 < A2.length
 ·rw [ZY (show ((X.length + s : Nat) : Int) < ((X.length + A.length : Nat) : Int) by omega)]
  simp only [cond_true]
  by_cases h4 : 0 < B1.length
  ·rw [ZY (show ((X.length + A.length : Nat) : Int) < ((X.length + A.length + (w - s) : Nat) : Int) by omega)]
   simp only [cond_true]
   have e0 : X ++ A ++ B ++ Y = (X ++ A1) ++ A2 ++ B1 ++ (B2 ++ Y) := by rw [eA,eB]; simp
   rw [e0,rotT_f (X := X ++ A1) h3 h4 (by simp only [List.length_append]; omega) hk (by rw [List.length_append]; omega) (by rw [List.length_append]; omega) (by rw [List.length_append]; omega),ZH (by rw [Yas,Yas]; simp only [List.length_append]; omega)]
   exact T1 _ (by simp)
  ·rw [ZZ (show ¬ ((X.length + A.length : Nat) : Int) < ((X.length + A.length + (w - s) : Nat) : Int) by omega)]
   simp only [cond_false]
   have hB1 : B1 = [] := List.length_eq_zero_iff.mp (by omega)
   exact T1 _ (by rw [eA,eB,hB1]; simp)
 ·rw [ZZ (show ¬ ((X.length + s : Nat) : Int) < ((X.length + A.length : Nat) : Int) by omega)]
  simp only [cond_false]
  have hA2 : A2 = [] := List.length_eq_zero_iff.mp (by omega)
  exact T1 _ (by rw [eA,eB,hA2]; simp)
theorem symT_loop {e : Nat → Int × Int} {key : Nat → Int} (hke : ∀ i,(e i).1 = key i) {k N : Nat} (hk : Fuel k) {X A B Y : List Nat} {w lo hi : Nat} (hA : A.Pairwise (ltK key)) (hB : B.Pairwise (ltK key)) (hAB : ∀ x ∈ A,∀ y ∈ B,x < y) (hl : (X ++ A ++ B ++ Y).length < 1099511627776)
  (hw : w = (A.length + B.length + X.length + X.length) / 2 - X.length) (hlh : lo ≤ hi) (hhA : hi ≤ A.length) (hhw : hi ≤ w) (hlB : w - lo ≤ B.length) (hlo : lo = 0 ∨ w - lo = B.length) (hhi : hi = A.length ∨ w - hi = 0)
  (ih : ∀ {X A B Y : List Nat} {a m b : Int},A.length + B.length ≤ N → 0 < A.length → 0 < B.length → A.Pairwise (ltK key) → B.Pairwise (ltK key) → (∀ x ∈ A,∀ y ∈ B,x < y) → (X ++ A ++ B ++ Y).length < 1099511627776 → a = (X.length : Int) → m = ((X.length + A.length : Nat) : Int) → b = ((X.length + A.length + B.length : Nat) : Int) → ∀ K : LC → Option LC,Ya.f k (upE e (X ++ A ++ B ++ Y)) a m b K = K (upE e (X ++ Yax key (A ++ B) ++ Y)))
  (hN : A.length + B.length ≤ N + 1) (hA0 : 0 < A.length) (hB0 : 0 < B.length) :
  ZA (Ya.l4 k (Ya.f k) (X.length : Int) ((X.length + A.length : Nat) : Int) ((X.length + A.length + B.length : Nat) : Int) ((X.length + w : Nat) : Int) ((X.length + w + (X.length + A.length) : Nat) : Int) ((X.length + w + (X.length + A.length) : Nat) - 1 : Int) (upE e (X ++ A ++ B ++ Y)) (fun z0 => some z0)) k (((X.length + lo : Nat) : Int),((X.length + hi : Nat) : Int)) = some (upE e (X ++ Yax key (A ++ B) ++ Y)) := by
 have hb' : big = 2 ^ 64 := rfl
 have hl' := hl
 simp only [List.length_append] at hl'
 refine iter_val (fun v : Int × Int => (v.2 - v.1).toNat) (fun v => ∃ s t : Nat,v.1 = ((X.length + s : Nat) : Int) ∧ v.2 = ((X.length + t : Nat) : Int) ∧ lo ≤ s ∧ s ≤ t ∧ t ≤ hi ∧ Hold (s = lo ∨ ∃ x y,A[s - 1]? = some x ∧ B[w - s]? = some y ∧ ¬ key y < key x) ∧ Hold (t = hi ∨ ∃ x y,A[t]? = some x ∧ B[w - t - 1]? = some y ∧ key y < key x)) (fun _ => some (upE e (X ++ Yax key (A ++ B) ++ Y))) ?_ k _ ⟨lo,hi,rfl,rfl,Nat.le_refl _,hlh,Nat.le_refl _,⟨.inl rfl⟩,⟨.inl rfl⟩⟩ (by unfold Fuel at hk; simp only []; omega)
 rintro ⟨i,j⟩ ⟨s,t,hi',hj',hls,hst,hth,hs,ht⟩ L hL
 simp only [] at hi' hj' hL
 subst hi' hj'
 by_cases hlt : s < t
 ·simp only [Ya.l4]
  rw [ZY (show ((X.length + s : Nat) : Int) < ((X.length + t : Nat) : Int) by omega)]
  simp only [cond_true]
  obtain ⟨u,hu⟩ : ∃ u,u = (s + t + X.length + X.length) / 2 - X.length := ⟨_,rfl⟩
  have hus : s ≤ u ∧ u < t := by omega
  have hua : u < A.length := by omega
  have hub : w - u - 1 < B.length := by omega
  have hJ : IntKind.wrap .i64 (((X.length + w + (X.length + A.length) : Nat) - 1 : Int) - ((X.length + u : Nat) : Int)) = ((X.length + A.length + (w - u - 1) : Nat) : Int) := by rw [Z9 (by omega) (by omega)]; omega
  rw [halfS (h := X.length + u) (by omega) (by omega),Z9 (x := ((X.length + u : Nat) : Int)) (by omega) (by omega),hJ,ZH (by decide)]
  have gA : (X ++ A ++ B ++ Y)[X.length + u]? = some A[u] := by
   rw [show X ++ A ++ B ++ Y = X ++ (A ++ (B ++ Y)) from by simp,List.getElem?_append_right (by omega),List.getElem?_append_left (by omega)]
   rw [show X.length + u - X.length = u from by omega,List.getElem?_eq_getElem hua]
  have gB : (X ++ A ++ B ++ Y)[X.length + A.length + (w - u - 1)]? = some B[w - u - 1] := by
   rw [show X ++ A ++ B ++ Y = (X ++ A) ++ (B ++ Y) from by simp,List.getElem?_append_right (by rw [List.length_append]; omega),List.getElem?_append_left (by rw [List.length_append]; omega)]
   rw [show X.length + A.length + (w - u - 1) - (X ++ A).length = w - u - 1 from by rw [List.length_append]; omega,List.getElem?_eq_getElem hub]
  rw [YaH rfl gB,YaH rfl gA,cmpT_fv,cmpTI_neg,hke,hke]
  have hwu : IntKind.wrap .i64 (((X.length + u : Nat) : Int) + 1) = ((X.length + (u + 1) : Nat) : Int) := by rw [Z9 (by omega) (by omega)]; omega
  by_cases hc : key B[w - u - 1] < key A[u]
  ·rw [ZY hc]
   simp only [Bool.not_true,cond_false]
   exact hL _ ⟨s,u,rfl,rfl,hls,by omega,by omega,hs,⟨.inr ⟨A[u],B[w - u - 1],List.getElem?_eq_getElem hua,List.getElem?_eq_getElem hub,hc⟩⟩⟩ (by simp only []; omega)
  ·rw [ZZ hc]
   simp only [Bool.not_false,cond_true,hwu]
   exact hL _ ⟨u + 1,t,rfl,rfl,by omega,by omega,hth,⟨.inr ⟨A[u],B[w - u - 1],by rw [Nat.add_sub_cancel]; exact List.getElem?_eq_getElem hua,by rw [← Nat.sub_sub]; exact List.getElem?_eq_getElem hub,hc⟩⟩,ht⟩ (by simp only []; omega)
 ·obtain rfl : s = t := by omega
  refine symT_tail hk hA hB hAB hl (by omega) (by omega) (by omega) hw (fun h0 h3 => ?_) (fun h0 h3 => ?_) ih hN hA0 hB0 L
  ·rcases hs.out with q | ⟨x,y,g1,g2,q⟩
   ·omega
   ·obtain ⟨p1,rfl⟩ := List.getElem?_eq_some_iff.mp g1
    obtain ⟨p2,rfl⟩ := List.getElem?_eq_some_iff.mp g2
    have := hAB _ (List.getElem_mem p1) _ (List.getElem_mem p2)
    unfold ltK
    rcases Int.lt_or_eq_of_le (Int.not_lt.mp q) with q | q
    ·exact .inl q
    ·exact .inr ⟨q,this⟩
  ·rcases ht.out with q | ⟨x,y,g1,g2,q⟩
   ·omega
   ·obtain ⟨p1,rfl⟩ := List.getElem?_eq_some_iff.mp g1
    obtain ⟨p2,rfl⟩ := List.getElem?_eq_some_iff.mp g2
    exact .inl q
theorem symT_f {e : Nat → Int × Int} {key : Nat → Int} (hke : ∀ i,(e i).1 = key i) : ∀ (N : Nat) {X A B Y : List Nat} {k : Nat} {a m b : Int},N + big ≤ k → A.length + B.length ≤ N → 0 < A.length → 0 < B.length → A.Pairwise (ltK key) → B.Pairwise (ltK key) → (∀ x ∈ A,∀ y ∈ B,x < y) → (X ++ A ++ B ++ Y).length < 1099511627776 → a = (X.length : Int) → m = ((X.length + A.length : Nat) : Int) → b = ((X.length + A.length + B.length : Nat) : Int) → ∀ {β : Type} (K : LC → Option β),Ya.f k (upE e (X ++ A ++ B ++ Y)) a m b K = K (upE e (X ++ Yax key (A ++ B) ++ Y))
 | 0,X,A,B,Y,k,a,m,b,hk,hN,hA0,hB0,hA,hB,hAB,hl,ha,hm,hb,β,K => by omega
 | N + 1,X,A,B,Y,k,a,m,b,hk,hN,hA0,hB0,hA,hB,hAB,hl,ha,hm,hb,β,K => Ya.f_of (by
  have hb' : big = 2 ^ 64 := rfl
  have hl' := hl
  simp only [List.length_append] at hl'
  obtain ⟨k,rfl⟩ : ∃ k',k = k' + 1 := ⟨k - 1,by omega⟩
  have hkf : Fuel k := by unfold Fuel; omega
  rw [Ya.t_succ]
  unfold Ya.g Ya.body Ya.m
  rw [Z9 (x := m - a) (by omega) (by omega),Z9 (x := b - m) (by omega) (by omega)]
  by_cases h1 : A.length = 1
  ·rw [show ((m - a : Int) == 1) = true from by simp; omega]
   simp only [cond_true]
   obtain ⟨x,rfl⟩ := List.length_eq_one_iff.mp h1
   exact symT_one hke hkf hB (fun y hy => hAB x (by simp) y hy) hl ha (by simpa using hm) (by simpa using hb)
  ·rw [show ((m - a : Int) == 1) = false from by simp; omega]
   simp only [cond_false]
   by_cases h2 : B.length = 1
   ·rw [show ((b - m : Int) == 1) = true from by simp; omega]
    simp only [cond_true]
    obtain ⟨y,rfl⟩ := List.length_eq_one_iff.mp h2
    exact symT_last hke hkf hA (fun x hx => hAB x hx y (by simp)) hl ha hm
   ·rw [show ((b - m : Int) == 1) = false from by simp; omega]
    simp only [cond_false]
    subst ha hm hb
    obtain ⟨w,hw⟩ : ∃ w,w = (A.length + B.length + X.length + X.length) / 2 - X.length := ⟨_,rfl⟩
    have hw1 : IntKind.wrap .i64 (((X.length + w : Nat) : Int) + ((X.length + A.length : Nat) : Int)) = ((X.length + w + (X.length + A.length) : Nat) : Int) := by rw [Z9 (by omega) (by omega)]; omega
    have hw2 : IntKind.wrap .i64 (((X.length + w + (X.length + A.length) : Nat) : Int) - 1) = ((X.length + w + (X.length + A.length) : Nat) - 1 : Int) := Z9 (by omega) (by omega)
    rw [halfS (i := X.length) (j := X.length + A.length + B.length) (h := X.length + w) (by omega) (by omega),Z9 (x := ((X.length + w : Nat) : Int)) (by omega) (by omega),hw1,hw2,ZH (by decide)]
    have ih : ∀ {X A B Y : List Nat} {a m b : Int},A.length + B.length ≤ N → 0 < A.length → 0 < B.length → A.Pairwise (ltK key) → B.Pairwise (ltK key) → (∀ x ∈ A,∀ y ∈ B,x < y) → (X ++ A ++ B ++ Y).length < 1099511627776 → a = (X.length : Int) → m = ((X.length + A.length : Nat) : Int) → b = ((X.length + A.length + B.length : Nat) : Int) → ∀ K : LC → Option LC,Ya.f k (upE e (X ++ A ++ B ++ Y)) a m b K = K (upE e (X ++ Yax key (A ++ B) ++ Y)) := fun g1 g2 g3 g4 g5 g6 g7 g8 g9 g10 K => symT_f hke N (by omega) g1 g2 g3 g4 g5 g6 g7 g8 g9 g10 K
    by_cases h3 : w < A.length
    ·rw [ZY (show ((X.length + A.length : Nat) : Int) > ((X.length + w : Nat) : Int) by omega)]
     simp only [cond_true]
     have hw3 : IntKind.wrap .i64 (((X.length + w + (X.length + A.length) : Nat) : Int) - ((X.length + A.length + B.length : Nat) : Int)) = ((X.length + (w - B.length) : Nat) : Int) := by rw [Z9 (by omega) (by omega)]; omega
     rw [hw3]
     exact symT_loop hke hkf hA hB hAB hl hw (by omega) (by omega) (Nat.le_refl _) (by omega) (by omega) (by omega) ih hN hA0 hB0
    ·rw [ZZ (show ¬ ((X.length + A.length : Nat) : Int) > ((X.length + w : Nat) : Int) by omega)]
     simp only [cond_false]
     have h45 : (Ya.l5 (β := LC) k (Ya.f k)) = Ya.l4 k (Ya.f k) := rfl
     rw [h45]
     exact symT_loop (lo := 0) hke hkf hA hB hAB hl hw (by omega) (Nat.le_refl _) (by omega) (by omega) (by omega) (by omega) ih hN hA0 hB0) K
theorem Yb.f_of {β : Type} {k a0 a1 z0} (h : Yb.t k a0 a1 = some z0) (K : LC → Option β) : Yb.f k a0 a1 K = K z0 := by unfold Yb.f; rw [h]; rfl
theorem Yn.f_of {β : Type} {k a0 z0} (h : Yn.t k a0 = some z0) (K : LC → Option β) : Yn.f k a0 K = K z0 := by unfold Yn.f; rw [h]; rfl
theorem srtK_perm {key : Nat → Int} {L M : List Nat} (h : M.Nodup) (hp : L.Perm M) : Yax key L = Yax key M := by
 have h2 := YaU (key := key) (hp.nodup_iff.mpr h)
 exact srtK_eq ⟨h2.1,h2.2.trans hp⟩
theorem srtK_two {key : Nat → Int} {o s l : Nat} : Yax key (Yax key (List.range' o s) ++ Yax key (List.range' (o + s) l)) = Yax key (List.range' o (s + l)) := by
 refine srtK_perm List.nodup_range' ?_
 have e : List.range' o (s + l) = List.range' o s ++ List.range' (o + s) l := by
  rw [show List.range' (o + s) l = List.range' (o + 1 * s) l by simp,List.range'_append]
 rw [e]
 exact (YaU List.nodup_range').2.append (YaU List.nodup_range').2
def sbK (key : Nat → Int) (s o l : Nat) : List Nat := if h : l = 0 ∨ s = 0 then [] else Yax key (List.range' o (min s l)) ++ sbK key s (o + s) (l - s)
termination_by l
decreasing_by omega
theorem sbK_full {key : Nat → Int} {s o l : Nat} (hs : 0 < s) (h : s ≤ l) : sbK key s o l = Yax key (List.range' o s) ++ sbK key s (o + s) (l - s) := by
 rw [sbK,dif_neg (by omega),Nat.min_eq_left h]
theorem YaQ {key : Nat → Int} {s o l : Nat} (hs : 0 < s) (h : l ≤ s) : sbK key s o l = Yax key (List.range' o l) := by
 by_cases h0 : l = 0
 ·subst h0
  rw [sbK,dif_pos (.inl rfl)]
  simp [Yax]
 ·rw [sbK,dif_neg (by omega),Nat.min_eq_right h,show l - s = 0 from by omega,sbK,dif_pos (.inl rfl),List.append_nil]
theorem sbK_len {key : Nat → Int} {s : Nat} (hs : 0 < s) : ∀ (n o l : Nat),l ≤ n → (sbK key s o l).length = l
 | 0,o,l,h => by rw [YaQ hs (by omega),Yau,List.length_range']
 | n + 1,o,l,h => by
  by_cases h1 : s ≤ l
  ·rw [sbK_full hs h1,List.length_append,Yau,List.length_range',sbK_len hs n _ _ (by omega)]
   omega
  ·rw [YaQ hs (by omega),Yau,List.length_range']
theorem rng_lt {key : Nat → Int} {o s l : Nat} : ∀ x ∈ Yax key (List.range' o s),∀ y ∈ Yax key (List.range' (o + s) l),x < y := fun x hx y hy => by
 have h1 := List.mem_range'_1.mp (srtK_mem.mp hx)
 have h2 := List.mem_range'_1.mp (srtK_mem.mp hy)
 omega
theorem insT_f {e : Nat → Int × Int} {X S Y : List Nat} (hS : S.Pairwise (· < ·)) (hl : (X ++ S ++ Y).length < 1099511627776) {k : Nat} (hk : Fuel k) {a b : Int} (ha : a = (X.length : Int)) (hb : b = ((X.length + S.length : Nat) : Int)) {β : Type} (K : LC → Option β) :
  Yc.f k (upE e (X ++ S ++ Y)) a b K = K (upE e (X ++ Yax (fun i => (e i).1) S ++ Y)) := Yc.f_of (insT_t hS hl hk ha hb) K
theorem stableT_t {e : Nat → Int × Int} {n : Nat} (hn : n < 549755813888) {k : Nat} (hk : Zai 1 k) : Yb.t k (upE e (List.range n)) (n : Int) = some (upE e (Yax (fun i => (e i).1) (List.range n))) := by
 have hb' : big = 2 ^ 64 := rfl
 have hlv : lv 1 = 2 ^ 65 := rfl
 have hk1 : Fuel k := by unfold Zai at hk; unfold Fuel; omega
 have hk2 : 4398046511104 + big ≤ k := by unfold Zai at hk; omega
 unfold Yb.t Yb.g
 generalize hkey : (fun i => (e i).1) = key
 have hke : ∀ i,(e i).1 = key i := fun i => by rw [← hkey]
 have hkf : 1099511627776 < k := by omega
 refine iter_val (fun v : Int × Int × LC => ((n : Int) - v.1).toNat) (fun v => ∃ (P : List Nat) (o : Nat),v.1 = (o : Int) ∧ v.2.1 = ((o + 20 : Nat) : Int) ∧ v.2.2 = upE e (P ++ List.range' o (n - o)) ∧ P.length = o ∧ o ≤ n ∧ P ++ sbK key 20 o (n - o) = sbK key 20 0 n) (fun _ => some (upE e (Yax key (List.range n)))) ?_ k _ ⟨[],0,rfl,rfl,by rw [List.nil_append,Nat.sub_zero,List.range_eq_range'],rfl,by omega,rfl⟩ (by simp only []; omega)
 rintro ⟨a,b,rows⟩ ⟨P,o,ha,hb,hrow,hP,hon,hT⟩ L hL
 simp only [] at ha hb hrow hL
 subst ha hb hrow
 simp only [Yb.l0,Yb.m0,Yb.m0]
 by_cases h1 : o + 20 ≤ n
 ·rw [ZY (show ((o + 20 : Nat) : Int) ≤ (n : Int) by omega)]
  simp only [cond_true]
  have e1 : P ++ List.range' o (n - o) = P ++ List.range' o 20 ++ List.range' (o + 20) (n - (o + 20)) := by
   rw [show n - o = 20 + (n - (o + 20)) from by omega,show List.range' (o + 20) (n - (o + 20)) = List.range' (o + 1 * 20) (n - (o + 20)) by simp,List.append_assoc,List.range'_append]
  rw [e1,insT_f List.pairwise_lt_range' (by simp only [List.length_append,List.length_range']; omega) hk1 (by omega) (by rw [List.length_range']; omega),hkey,ZH (by rw [Yas,Yas]; simp only [List.length_append,Yau]),Z9 (by omega) (by omega)]
  exact hL _ ⟨P ++ Yax key (List.range' o 20),o + 20,rfl,by simp only []; omega,rfl,by rw [List.length_append,Yau,List.length_range',hP],h1,by rw [← hT,sbK_full (l := n - o) (by decide) (by omega),List.append_assoc,Nat.sub_sub]⟩ (by simp only []; omega)
 ·rw [ZZ (show ¬ ((o + 20 : Nat) : Int) ≤ (n : Int) by omega)]
  simp only [cond_false]
  have e1 : P ++ List.range' o (n - o) = P ++ List.range' o (n - o) ++ [] := by simp
  rw [e1,insT_f List.pairwise_lt_range' (by simp only [List.length_append,List.length_range',List.length_nil]; omega) hk1 (by omega) (by rw [List.length_range']; omega),hkey,ZH (by rw [Yas,Yas]; simp only [List.length_append,Yau])]
  rw [List.append_nil,← YaQ (s := 20) (by decide) (by omega),hT]
  clear hT hP hon h1 e1 hL L
  refine iter_val (fun v : Int × Int × LC => ((n : Int) - v.2.1).toNat) (fun v => ∃ s : Nat,v.1 = (n : Int) ∧ v.2.1 = (s : Int) ∧ 0 < s ∧ s < 2199023255552 ∧ v.2.2 = upE e (sbK key s 0 n)) (fun _ => some (upE e (Yax key (List.range n)))) ?_ k _ ⟨20,rfl,rfl,by decide,by decide,rfl⟩ (by simp only []; omega)
  rintro ⟨a,b,rows⟩ ⟨s,ha,hb,hs0,hs1,hrow⟩ L hL
  simp only [] at ha hb hrow hL
  subst ha hb hrow
  simp only [Yb.l1,Yb.m1,Yb.m1]
  by_cases h2 : s < n
  ·rw [ZY (show (s : Int) < (n : Int) by omega)]
   simp only [cond_true]
   have hnext : L ((n : Int),((s * 2 : Nat) : Int),upE e (sbK key (2 * s) 0 n)) = some (upE e (Yax key (List.range n))) := hL _ ⟨2 * s,rfl,by simp only []; omega,by omega,by omega,rfl⟩ (by simp only []; omega)
   have hw0 : IntKind.wrap .i64 (2 * (s : Int)) = ((2 * s : Nat) : Int) := by rw [Z9 (by omega) (by omega)]; omega
   have hw1 : IntKind.wrap .i64 ((s : Int) * 2) = ((s * 2 : Nat) : Int) := by rw [Z9 (by omega) (by omega)]; omega
   rw [hw0]
   refine iter_val (fun v : Int × Int × LC => ((n : Int) - v.1).toNat) (fun v => ∃ (P : List Nat) (o : Nat),v.1 = (o : Int) ∧ v.2.1 = ((o + 2 * s : Nat) : Int) ∧ v.2.2 = upE e (P ++ sbK key s o (n - o)) ∧ P.length = o ∧ o ≤ n ∧ P ++ sbK key (2 * s) o (n - o) = sbK key (2 * s) 0 n) (fun _ => some (upE e (Yax key (List.range n)))) ?_ k _ ⟨[],0,rfl,by simp only []; omega,rfl,rfl,by omega,rfl⟩ (by simp only []; omega)
   rintro ⟨a,b,rows⟩ ⟨P,o,ha,hb,hrow,hP,hon,hT⟩ L2 hL2
   simp only [] at ha hb hrow hL2
   subst ha hb hrow
   simp only [Yb.l2,hw0,hw1]
   have hw2 : IntKind.wrap .i64 ((o : Int) + (s : Int)) = ((o + s : Nat) : Int) := by rw [Z9 (by omega) (by omega)]; omega
   have hsrt : ∀ o l,(Yax key (List.range' o l)).Pairwise (ltK key) := fun o l => (YaU List.nodup_range').1
   by_cases h3 : o + 2 * s ≤ n
   ·rw [ZY (show ((o + 2 * s : Nat) : Int) ≤ (n : Int) by omega)]
    simp only [cond_true,hw2]
    have hY := sbK_len (key := key) hs0 _ (o + s + s) (n - o - s - s) (Nat.le_refl _)
    have e1 : P ++ sbK key s o (n - o) = P ++ Yax key (List.range' o s) ++ Yax key (List.range' (o + s) s) ++ sbK key s (o + s + s) (n - o - s - s) := by
     rw [sbK_full hs0 (by omega),sbK_full (l := n - o - s) hs0 (by omega)]
     simp
    have hw3 : IntKind.wrap .i64 (((o + 2 * s : Nat) : Int) + ((2 * s : Nat) : Int)) = ((o + 2 * s + 2 * s : Nat) : Int) := by rw [Z9 (by omega) (by omega)]; omega
    rw [e1,symT_f hke 4398046511104 hk2 (by simp only [Yau,List.length_range']; omega) (by simp only [Yau,List.length_range']; omega) (by simp only [Yau,List.length_range']; omega) (hsrt _ _) (hsrt _ _) rng_lt (by simp only [List.length_append,Yau,List.length_range']; omega) (by omega) (by simp only [Yau,List.length_range']; omega) (by simp only [Yau,List.length_range']; omega),ZH (by rw [Yas,Yas]; simp only [List.length_append,Yau]; omega),hw3,srtK_two]
    exact hL2 _ ⟨P ++ Yax key (List.range' o (s + s)),o + 2 * s,rfl,rfl,by rw [show o + s + s = o + 2 * s from by omega,show n - o - s - s = n - (o + 2 * s) from by omega],by rw [List.length_append,Yau,List.length_range',hP]; omega,h3,by rw [← hT,sbK_full (l := n - o) (by omega) (by omega),List.append_assoc,Nat.sub_sub,show s + s = 2 * s from by omega]⟩ (by simp only []; omega)
   ·rw [ZZ (show ¬ ((o + 2 * s : Nat) : Int) ≤ (n : Int) by omega)]
    simp only [cond_false,hw2]
    by_cases h4 : o + s < n
    ·rw [ZY (show ((o + s : Nat) : Int) < (n : Int) by omega)]
     simp only [cond_true]
     have e1 : P ++ sbK key s o (n - o) = P ++ Yax key (List.range' o s) ++ Yax key (List.range' (o + s) (n - o - s)) ++ [] := by
      rw [sbK_full hs0 (by omega),YaQ (l := n - o - s) hs0 (by omega)]
      simp
     rw [e1,symT_f hke 4398046511104 hk2 (by simp only [Yau,List.length_range']; omega) (by simp only [Yau,List.length_range']; omega) (by simp only [Yau,List.length_range']; omega) (hsrt _ _) (hsrt _ _) rng_lt (by simp only [List.length_append,Yau,List.length_range',List.length_nil]; omega) (by omega) (by simp only [Yau,List.length_range']; omega) (by simp only [Yau,List.length_range']; omega),ZH (by rw [Yas,Yas]; simp only [List.length_append,Yau]; omega),srtK_two]
     rw [List.append_nil,show s + (n - o - s) = n - o from by omega,← YaQ (s := 2 * s) (by omega) (by omega),hT]
     exact hnext
    ·rw [ZZ (show ¬ ((o + s : Nat) : Int) < (n : Int) by omega)]
     simp only [cond_false]
     rw [YaQ hs0 (by omega),← YaQ (s := 2 * s) (by omega) (by omega),hT]
     exact hnext
  ·rw [ZZ (show ¬ (s : Int) < (n : Int) by omega)]
   simp only [cond_false]
   rw [YaQ hs0 (by omega),List.range_eq_range']
theorem sortT_f {e : Nat → Int × Int} {n : Nat} (hn : n < 549755813888) {k : Nat} (hk : Zai 1 k) {β : Type} (K : LC → Option β) : Yn.f k (upE e (List.range n)) K = K (upE e (Yax (fun i => (e i).1) (List.range n))) := Yn.f_of (by
 unfold Yn.t Yn.g
 have hl : ((upE e (List.range n)).length : Int) = (n : Int) := by rw [Yas,List.length_range]
 rw [hl,Yb.f_of (stableT_t hn hk),ZH (by rw [Yas,Yas,Yau])]) K
theorem Yaa.f_of {β : Type} {k aA aB aC aI aH z0} (h : Yaa.t k aA aB aC aI aH = some z0) (K : LC → Option β) : Yaa.f k aA aB aC aI aH K = K z0 := by unfold Yaa.f; rw [h]; rfl
def eP (all : List (Int × Int)) (i : Nat) : Int × Int := all.getD i (0,0)
theorem upE_map {e : Nat → Int × Int} {O : List Nat} : upE e O = upP (O.map e) := by
 unfold upE upP
 rw [List.map_map]
 rfl
theorem eP_range {all : List (Int × Int)} : (List.range all.length).map (eP all) = all := by
 apply List.ext_getElem (by simp)
 intro i h1 h2
 simp [eP,List.getD,List.getElem?_eq_getElem h2]
theorem upE_range {all : List (Int × Int)} : upE (eP all) (List.range all.length) = upP all := by rw [upE_map,eP_range]
theorem imm_upE {e : Nat → Int × Int} {O : List Nat} : C.immRows (upE e O) = ofP (O.map e) := by rw [upE_map,imm_upP]
def wksP (a : LD) : List (Int × Int) := (List.range a.length).map fun (i : Nat) => (gI a (i : Int) 0,(0 : Int))
theorem wksP_len {a : LD} : (wksP a).length = a.length := by simp [wksP]
theorem wksP_take {a : LD} {i : Nat} (h : i < a.length) : (wksP a).take (i + 1) = (wksP a).take i ++ [(gI a (i : Int) 0,0)] := by
 rw [List.take_add_one,List.getElem?_eq_getElem (by rw [wksP_len]; exact h)]
 simp [wksP]
def tellO (all : List (Int × Int)) : List Nat := cmpA (fun i => (eP all i).1) (Yax (fun i => (eP all i).1) (List.range all.length))
def tellV (all : List (Int × Int)) : List (Int × Int) := (tellO all).map (eP all)
theorem YaK {all : List (Int × Int)} : Firsts (fun i => (eP all i).1) all.length (tellO all) := firsts_cmpA
theorem tellV_len {all : List (Int × Int)} : (tellV all).length ≤ all.length := by
 unfold tellV
 rw [List.length_map]
 exact firsts_len YaK
theorem compact_t {e : Nat → Int × Int} {L : List Nat} (hl : L.length < 549755813888) {k : Nat} : Yl.t k (upE e L) = some (upE e (cmpA (fun i => (e i).1) L)) := by
 unfold Yl.t
 generalize hpr : (fun s u : List D => match s,u with | [.int .i64 x0,.int .i64 x1],[.int .i64 y0,.int .i64 y1] => YaB.t k x0 x1 y0 y1 | _,_ => none) = pr
 have hp : ∀ s x,pr (C.immCells (rowE e s)) (C.immCells (rowE e x)) = some ((e s).1 == (e x).1) := fun s x => by subst hpr; rfl
 have key : ∀ (r : List Nat) (x : Nat),compR pr (rowE e x) (upE e r) = some (upE e (cmpL (fun i => (e i).1) x r)) := by
  intro r
  induction r with
  | nil => intro x; rfl
  | cons s r ih =>
   intro x
   have hc : cmpL (fun i => (e i).1) x (s :: r) = bif (e s).1 == (e x).1 then cmpL (fun i => (e i).1) s r else s :: cmpL (fun i => (e i).1) s r := rfl
   have hu : compR pr (rowE e x) (upE e (s :: r)) = (match pr (C.immCells (rowE e s)) (C.immCells (rowE e x)),compR pr (rowE e s) (upE e r) with
    | some true,some ys => some ys
    | some false,some ys => some (rowE e s :: ys)
    | _,_ => none) := rfl
   rw [hu,hc,hp,ih]
   cases (e s).1 == (e x).1 <;> rfl
 cases L with
 | nil => rfl
 | cons x r =>
  have hu : compK pr (upE e (x :: r)) = Zd ((upE e r).length < 1099511627776) (match compR pr (rowE e x) (upE e r) with
   | some ys => some (rowE e x :: ys)
   | none => none) := rfl
  rw [hu,key,ZH (by rw [Yas]; simp at hl; omega)]
  rfl
set_option maxRecDepth 100000 in
theorem impl_Tell_t {a0 : BA} {a1 a2 : Int} {a3 : LD} {l : List (Int × Int)} (g3 : ZB Yg lim a3) (g4 : ZB RII lim (ofP l)) {k : Nat} (hk : Zai 1 k) : Yaa.t k a0 a1 a2 a3 (ofP l) = some (upP (tellV (l ++ wksP a3))) := by
 have hb : big = 2 ^ 64 := rfl
 have hlv : lv 1 = 2 ^ 65 := rfl
 have hlim : lim = 1048576 := rfl
 have hm : Z8 = 2 ^ 36 := rfl
 have hl3 := g3.1
 have hl4 := g4.1
 rw [YaC] at hl4
 unfold Yaa.t Yaa.g
 rw [clone_run_fv g4,ofP_up]
 have h0 : upP l = upP (l ++ (wksP a3).take 0) := by simp
 rw [h0]
 refine iter_seq (f := fun t => ((t : Int),upP (l ++ (wksP a3).take t))) (n := a3.length) (by unfold Zai at hk; omega) (fun L t ht => ?_) (fun L => ?_)
 ·simp (disch := omega) only [Yaa.l0,atR,rdQ,Q.ask,ZY (show (t : Int) < (a3.length : Int) by omega),cond_true,Yg.row g3,Z4,Z5,ZaQ,Zbl,Zan,Z9]
  have hlen : (upP (l ++ (wksP a3).take t)).length = l.length + t := by rw [YaT,List.length_append,List.length_take,wksP_len]; omega
  rw [ZH (by rw [hlen]; simp only [List.length_singleton]; omega),wksP_take ht,← List.append_assoc,← upP_app (l ++ (wksP a3).take t)]
  rfl
 ·simp only [Yaa.l0,atR,rdQ,Q.ask]
  rw [ZZ (by omega)]
  simp only [cond_false]
  rw [List.take_of_length_le (by rw [wksP_len]; omega),← upE_range,sortT_f (by rw [List.length_append,wksP_len]; omega) hk]
  have hfl : ∀ O : List Nat,flatC (upE (eP (l ++ wksP a3)) O) = true := fun O => by
   unfold upE flatC
   simp [rowE]
   exact fun x _ => ⟨rfl,rfl⟩
  rw [ZH ⟨by rw [Yas,Yas,Yau],hfl _⟩]
  unfold Yl.f
  rw [compact_t (by rw [Yau,List.length_range,List.length_append,wksP_len]; omega)]
  show some _ = _
  rw [upE_map]
  rfl
theorem firsts_has {key : Nat → Int} {n : Nat} {O : List Nat} (h : Firsts key n O) : ∀ (m z : Nat),z < m → z < n → ∃ y ∈ O,key y = key z
 | 0,z,hm,_ => by omega
 | m + 1,z,hm,hz => by
  by_cases hO : z ∈ O
  ·exact ⟨z,hO,rfl⟩
  ·have h2 : ¬ ∀ w,w < z → key w ≠ key z := fun h3 => hO ((h.mem z).mpr ⟨hz,h3⟩)
   have h4 : ∃ w,w < z ∧ key w = key z := Classical.byContradiction fun h5 => h2 fun w hw he => h5 ⟨w,hw,he⟩
   obtain ⟨w,hw,he⟩ := h4
   obtain ⟨y,hy,hye⟩ := firsts_has h m w (by omega) (by omega)
   exact ⟨y,hy,hye.trans he⟩
theorem Y1.f_of {β : Type} {k a0 a1 z0 z1} (h : Y1.t k a0 a1 = some (z0,z1)) (K : Int → Bool → Option β) : Y1.f k a0 a1 K = K z0 z1 := by unfold Y1.f; rw [h]; rfl
set_option maxRecDepth 100000 in
theorem runOf2_fv {l : List (Int × Int)} {uid : Int} (hl : l.length ≤ 4194304) {k : Nat} (hk : Fuel k) {β : Type} (K : Int → Bool → Option β) : Y1.f k (ofP l) uid K = K (YaE l uid) (l.any fun p => p.1 == uid) := by
 have hb : big = 2 ^ 64 := rfl
 refine Y1.f_of ?_ K
 unfold Y1.t Y1.g
 refine (iter_val (fun v : Int => ((l.length : Int) - v).toNat) (fun v => 0 ≤ v ∧ v ≤ (l.length : Int) ∧ ∀ p ∈ l.take v.toNat,(p.1 == uid) = false) (fun _ => some (YaE l uid,l.any fun p => p.1 == uid)) ?_ k 0 ⟨by omega,by omega,by simp⟩ (by unfold Fuel at hk; omega))
 rintro v ⟨v0,v1,hv⟩ L hL
 obtain ⟨i,rfl⟩ : ∃ i : Nat,v = (i : Int) := ⟨v.toNat,by omega⟩
 simp only [Int.toNat_natCast] at hv
 simp only [Y1.l0,atR,rdQ,Q.ask,YaC]
 have hs : l = l.take i ++ l.drop i := (List.take_append_drop i l).symm
 have hf : (l.take i).find? (fun p => p.1 == uid) = none := by rw [List.find?_eq_none]; intro p hp; rw [hv p hp]; simp
 have ha : (l.take i).any (fun p => p.1 == uid) = false := by rw [List.any_eq_false]; intro p hp; rw [hv p hp]; simp
 by_cases h : i < l.length
 ·rw [ZY (show (i : Int) < (l.length : Int) by omega)]
  simp only [cond_true,YaJ h,Z4,Z5,Zan]
  have hd : l.drop i = l[i] :: l.drop (i + 1) := (List.getElem_cons_drop h).symm
  cases hq : l[i].1 == uid with
  | true =>
   simp only [cond_true]
   congr 2
   ·unfold YaE
    conv => rhs; rw [hs,List.find?_append,hf,hd,List.find?_cons_of_pos (by simpa using hq)]
    rfl
   ·conv => rhs; rw [hs,List.any_append,ha,hd,List.any_cons,hq]
    rfl
  | false =>
   simp only [cond_false]
   rw [Z9 (by omega) (by omega)]
   refine hL _ ⟨by omega,by omega,fun p hp => ?_⟩ (by omega)
   rw [show ((i : Int) + 1).toNat = i + 1 by omega,List.take_add_one,List.getElem?_eq_getElem h] at hp
   rcases List.mem_append.mp hp with hp | hp
   ·exact hv p hp
   ·simp at hp; subst hp; exact hq
 ·rw [ZZ (show ¬ (i : Int) < (l.length : Int) by omega)]
  simp only [cond_false]
  have he : l.take i = l := List.take_of_length_le (by omega)
  rw [he] at hf ha
  unfold YaE
  rw [hf,ha]
theorem tell_asc {all : List (Int × Int)} : Asc (tellV all) := by
 unfold Asc tellV
 rw [List.pairwise_map]
 exact YaK.asc
theorem eP_get {all : List (Int × Int)} {i : Nat} (h : i < all.length) : eP all i = all[i] := by
 unfold eP
 rw [List.getD_eq_getElem?_getD,List.getElem?_eq_getElem h]; rfl
theorem tell_has {all : List (Int × Int)} {p : Int × Int} (hp : p ∈ all) : ((tellV all).any fun q => q.1 == p.1) = true := by
 obtain ⟨i,hi,rfl⟩ := List.mem_iff_getElem.mp hp
 obtain ⟨y,hy,he⟩ := firsts_has YaK (i + 1) i (by omega) hi
 refine List.any_eq_true.mpr ⟨eP all y,List.mem_map_of_mem hy,?_⟩
 have he : (eP all y).1 = (eP all i).1 := he
 rw [he,eP_get hi]
 simp
theorem tell_mem {l ws : List (Int × Int)} (ha : Asc l) {p : Int × Int} (hp : p ∈ l) : p ∈ tellV (l ++ ws) := by
 obtain ⟨i,hi,rfl⟩ := List.mem_iff_getElem.mp hp
 have hg : ∀ z (hz : z < l.length),eP (l ++ ws) z = l[z] := fun z hz => by
  rw [eP_get (by rw [List.length_append]; omega),List.getElem_append_left hz]
 refine List.mem_map.mpr ⟨i,(YaK.mem i).mpr ⟨by rw [List.length_append]; omega,fun z hz => ?_⟩,hg i hi⟩
 have h2 := List.pairwise_iff_getElem.mp ha z i (by omega) hi hz
 show (eP (l ++ ws) z).1 ≠ (eP (l ++ ws) i).1
 rw [hg i hi,hg z (by omega)]
 omega
theorem obeyI_f {a0 : BA} {a1 a2 n : Int} {a3 a4 b : LD} (g0 : a0.size ≤ lim) (g3 : ZB Yg lim a3) (g4 : ZB RII lim a4) (gb : ZB Yg lim b) {k : Nat} (hk : Zai 1 k) {β : Type} (K : BA → Int → Int → LC → LC → Bool → Option β) : Yaw.f k a0 a1 a2 a3 a4 n b K = bif obeyB a0 a1 a2 a3 a4 n b then K a0 a1 n (Zc b) (Zc a4) true else K a0 a1 a2 (Zc a3) (Zc a4) false := by
 unfold Yaw.f
 rw [impl_Obey_t g0 g3 g4 gb hk]
 unfold obeyV
 cases obeyB a0 a1 a2 a3 a4 n b <;> rfl
theorem obeyS_f {a0 : BA} {a1 a2 n : Int} {a3 a4 b : LD} (g0 : a0.size ≤ lim) (g3 : ZB Yg lim a3) (g4 : ZB RII lim a4) (gb : ZB Yg lim b) {k : Nat} (hk : Zai 1 k) {β : Type} (K : BA → Int → Int → LC → LC → Bool → Option β) : Yar.f k a0 a1 a2 a3 a4 n b K = bif obeyB a0 a1 a2 a3 a4 n b then K a0 a1 n (Zc b) (Zc a4) true else K a0 a1 a2 (Zc a3) (Zc a4) false := by
 unfold Yar.f
 rw [spec_Obey_t g0 g3 g4 gb hk]
 unfold obeyV
 cases obeyB a0 a1 a2 a3 a4 n b <;> rfl
theorem work_at {Y : LC} (hY : ∀ r ∈ C.immRows Y,WSm 1001 9 r) {j : Nat} (hj : j < Y.length) : ∃ (c : List C) (p : Int),Y[j]? = some (.d (.int .i64 p) :: c) ∧ gI (C.immRows Y) (j : Int) 0 = p := by
 have hlen : j < (C.immRows Y).length := by rw [C.immRows_length]; exact hj
 obtain ⟨p,q,c0,c1,c2,c3,c4,e,-⟩ := hY _ (List.getElem_mem hlen)
 have hg : gR (C.immRows Y) (j : Int) = (C.immRows Y)[j] := by
  have := gR_at (xs := C.immRows Y) (v := (j : Int)) (by omega) (by omega)
  rw [Int.toNat_natCast,List.getElem?_eq_getElem hlen] at this
  injection this with this
  exact this.symm
 have hgI : gI (C.immRows Y) (j : Int) 0 = p := by unfold gI; rw [hg,e]; rfl
 have h2 : (C.immRows Y)[j]? = (Y[j]?).map C.immCells := by rw [rows_map,List.getElem?_map]
 rw [List.getElem?_eq_getElem hlen,List.getElem?_eq_getElem hj,e] at h2
 injection h2 with h2
 rw [List.getElem?_eq_getElem hj]
 generalize Y[j] = y at h2
 cases y with
 | nil => simp [C.immCells] at h2
 | cons a r =>
  simp only [C.immCells,List.cons.injEq] at h2
  cases a with
  | d x => simp only [C.imm] at h2; rw [← h2.1]; exact ⟨r,p,rfl,hgI⟩
  | own xs => simp only [C.imm] at h2; cases h2.1
theorem obeyed_T {a0 : LD} (g0 : ZB RI8 maxLen a0) : Tm (Zai 1) (fun k => Ym.t k a0) (fun r => r = true) := by
 refine Tm.of (v := true) (fun k hk => ?_) rfl
 have hlim : lim = 1048576 := rfl
 have hk' : Zai 1 k := hk
 have hkb : 2 ^ 65 ≤ k := hk
 have hk0 : Fuel k := up0 hk
 have hbig : ∀ {β : Type} (K : Bool → Option β),Yaz.f k a0 K = K (decide ((a0.length : Int) > 1048576)) := fun K => Yaz.f_of rfl K
 unfold Ym.t Ym.g Ym.m
 rw [hbig]
 by_cases hl : (a0.length : Int) > 1048576
 ·rw [ZY hl]; rfl
 rw [ZZ hl]
 simp only [cond_false]
 have g : ZB RI8 lim a0 := ⟨by omega,fun r hr => let ⟨x,q⟩ := g0.2 r hr; ⟨x,q⟩⟩
 obtain ⟨b0,b1,b2,n,W,m,Y,hW,hn,hY,hYl,e2⟩ := drawObey_ex g hk'
 have gY := works_sl hY hYl
 have hm1 := hW.sm
 unfold Yap.f
 rw [e2]
 dsimp only
 simp only [imm_upP]
 rw [obeyI_f hW.gs hW.gw hW.gl gY hk']
 cases hB : obeyB b0 b1 b2 (C.immRows W) (ofP m) n (C.immRows Y) with
 | false =>
  simp only [cond_false]
  rw [obeyS_f hW.gs hW.gw hW.gl gY hk',hB]
  simp only [cond_false,BEq.rfl,Bool.not_true,Bool.not_false,cond_true,ZK]
  rw [YI.f_of (sameIsle_t hW.gw (by omega) hk')]
 | true =>
  simp only [cond_true]
  rw [obeyS_f hW.gs hW.gw hW.gl gY hk',hB]
  simp only [cond_true,BEq.rfl,Bool.not_true,cond_false,ZK]
  have hB2 : obeyB b0 b1 n (C.immRows Y) (ofP m) n (C.immRows Y) = false := by
   unfold obeyB
   simp
  rw [obeyI_f hW.gs gY hW.gl gY hk',hB2]
  simp only [cond_false]
  rw [Yaa.f_of (impl_Tell_t gY hW.gl hk'),deep_ofP]
  unfold obeyB at hB
  simp only [Bool.and_eq_true] at hB
  have hP := (isle_iff hW.gs hW.gw hW.gl).mp hB.1
  have hasc := hP.asc
  generalize hall : m ++ wksP (C.immRows Y) = all
  have hal : all.length ≤ 2000 := by
   rw [← hall,List.length_append,wksP_len,C.immRows_length]; omega
  have hTl : (tellV all).length ≤ 2000 := Nat.le_trans tellV_len hal
  have hOl : (tellO all).length ≤ 2000 := by
   have : (tellV all).length = (tellO all).length := List.length_map ..
   omega
  have hT : upP (tellV all) = upE (eP all) (tellO all) := upE_map.symm
  rw [hT]
  refine iter_seq (f := fun t => ((t + 1 : Nat) : Int)) (n := (tellO all).length - 1) (by omega) (fun L t ht => ?_) (fun L => ?_)
  ·simp only [Ym.l0,Ym.m0]
   rw [Yas,ZY (show ((t + 1 : Nat) : Int) < ((tellO all).length : Int) by omega)]
   simp only [cond_true]
   rw [← Yas (e := eP all)]
   have hw : IntKind.wrap .i64 (((t + 1 : Nat) : Int) - 1) = (t : Int) := by rw [Z9 (by omega) (by omega)]; omega
   have g1 : (tellO all)[t]? = some ((tellO all)[t]'(by omega)) := List.getElem?_eq_getElem _
   have g2 : (tellO all)[t + 1]? = some ((tellO all)[t + 1]'(by omega)) := List.getElem?_eq_getElem _
   have hlt : (eP all ((tellO all)[t]'(by omega))).1 < (eP all ((tellO all)[t + 1]'(by omega))).1 := List.pairwise_iff_getElem.mp YaK.asc t (t + 1) (by omega) (by omega) (by omega)
   rw [hw,rd1_get rfl g1,rd1_get rfl g2,ZZ (Int.not_le.mpr hlt)]
   simp only [cond_false]
   rw [Z9 (by omega) (by omega)]
   rfl
  ·simp only [Ym.l0,Ym.m0]
   rw [Yas,ZZ (by omega)]
   simp only [cond_false]
   refine iter_seq (f := fun t => (t : Int)) (n := Y.length) (by omega) (fun L t ht => ?_) (fun L => ?_)
   ·simp only [Ym.l1,Ym.m1]
    obtain ⟨c,p,hc,hp⟩ := work_at hY ht
    have hA : ∀ {β : Type} (F : List C → Option β),ZaR Y ((t : Int)).toNat F = F (.d (.int .i64 p) :: c) := fun F => by unfold ZaR; rw [Int.toNat_natCast,hc]
    rw [ZY (show (t : Int) < (Y.length : Int) by omega)]
    simp only [cond_true]
    rw [ZH ⟨by omega,by omega⟩,hA]
    simp only [List.drop_zero,Z4,cD_at,Z5,imm_upE]
    have hin : (gI (C.immRows Y) (t : Int) 0,(0 : Int)) ∈ all := by
     rw [← hall]
     refine List.mem_append.mpr (.inr ?_)
     unfold wksP
     exact List.mem_map.mpr ⟨t,List.mem_range.mpr (by rw [C.immRows_length]; exact ht),rfl⟩
    have hh := tell_has hin
    rw [hp] at hh
    have hh : ((tellV all).any fun q => q.1 == p) = true := hh
    show Y1.f k (ofP (tellV all)) p _ = _
    rw [runOf2_fv (by omega) hk0,hh]
    simp only [Bool.not_true,cond_false]
    rw [Z9 (by omega) (by omega)]
    rfl
   ·simp only [Ym.l1,Ym.m1]
    rw [ZZ (by omega)]
    simp only [cond_false]
    refine iter_seq (f := fun t => (t : Int)) (n := m.length) (by omega) (fun L t ht => ?_) (fun L => ?_)
    ·simp only [Ym.l2]
     have hA : ∀ {β : Type} (F : List C → Option β),ZaR (upP m) ((t : Int)).toNat F = F [.d (.int .i64 m[t].1),.d (.int .i64 m[t].2)] := fun F => by
      unfold ZaR upP
      rw [Int.toNat_natCast,List.getElem?_map,List.getElem?_eq_getElem ht]
      rfl
     rw [YaT,ZY (show (t : Int) < (m.length : Int) by omega)]
     simp only [cond_true]
     rw [ZH ⟨by omega,by omega⟩,hA]
     simp only [List.drop_zero,Z4,cD_at,Z5,imm_upE]
     have hmem := List.getElem_mem ht
     have hmt : m[t] ∈ tellV all := by rw [← hall]; exact tell_mem hasc hmem
     have hh := tell_has (all := all) (p := m[t]) (by rw [← hall]; exact List.mem_append.mpr (.inl hmem))
     show Y1.f k (ofP (tellV all)) m[t].1 _ = _
     rw [runOf2_fv (by omega) hk0,hh,runN_of tell_asc hmt]
     simp only [Bool.not_true,cond_false]
     rw [ZH ⟨by omega,by omega⟩,hA]
     simp only [List.drop_succ_cons,List.drop_zero,Z4,cD_at,Z5,bne_self_eq_false,cond_false]
     rw [Z9 (by omega) (by omega)]
     rfl
    ·simp only [Ym.l2]
     rw [YaT,ZZ (by omega)]
     simp only [cond_false,Bool.not_false,cond_true,BEq.rfl,imm_upP]
     rw [YE.f_of (sameRuns_t (by omega) hk0)]
theorem Ym.T {a0 : LD} (g0 : ZB RI8 maxLen a0) : Tm (Zai 2) (fun k => Ym.t k a0) (fun r => r = true) := by
 obtain ⟨v,h1,h2⟩ := obeyed_T g0
 exact ⟨v,h1,fun k hk => h2 k (Nat.le_trans (lv_le (by decide : 1 ≤ 2)) hk)⟩
end Go.Proofs.Ytpgplbalenfgfaa
