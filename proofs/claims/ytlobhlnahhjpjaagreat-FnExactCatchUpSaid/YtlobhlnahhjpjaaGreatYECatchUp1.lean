/- Printed,and by hand: the functions that FnExactCatchUp reaches come to their end; the program's answer as the reference's. -/
import Derived.Test.YtlobhlnahhjpjaaGreatYECatchUp0
import Derived.KernelRfl
set_option linter.unusedVariables false
set_option linter.unusedSimpArgs false
namespace Go.Proofs.YtlobhlnahhjpjaaGreat
open Go Go.T Go.Proofs
theorem with_step {l : LD} {o o' : List D} {i : Nat} (hi : i < l.length) {put : Bool} : YaV YaM YaZ o o' put (l.drop i) = (if !put && !YaM l[i] o then [o'] else []) ++ ((if YaZ l[i] o then [] else [l[i]]) ++ YaV YaM YaZ o o' (put || !YaM l[i] o) (l.drop (i + 1))) := by
 rw [List.drop_eq_getElem_cons hi]
 conv => lhs; unfold YaV
theorem withF_nil {α : Type} {less same : α → α → Bool} {o o' : α} {put : Bool} : YaV less same o o' put [] = if put then [] else [o'] := by unfold YaV; rfl
theorem gR_lt {l : LD} {i : Nat} (hi : i < l.length) : gR l (i : Int) = l[i] := by
 unfold gR
 rw [Int.toNat_natCast,List.getD_eq_getElem?_getD,List.getElem?_eq_getElem hi]
 rfl
theorem less_gR {l : LD} {i : Nat} (hi : i < l.length) (o : List D) : YaM l[i] o = lessV (gI l (i : Int) 0) (gS l (i : Int) 1) (rI o 0) (rS o 1) := by
 rw [← gR_lt hi]
 rfl
theorem same_gR {l : LD} {i : Nat} (hi : i < l.length) (o : List D) : YaZ l[i] o = ((gI l (i : Int) 0 == rI o 0) && Zae (gS l (i : Int) 1) (rS o 1)) := by
 rw [← gR_lt hi]
 rfl
set_option maxRecDepth 100000 in
set_option maxHeartbeats 8000000 in
theorem l7With_fv {l : LD} (g : ZB Ya lim l) {x0 : Int} {x1 : BA} {x2 x3 x4 : Int} {x5 : Bool} {x6 : LD} {x7 : Int} {x8 : BA} {x9 : Int} {x10 x11 : LD} {x12 : Int} {x13 : BA} {x14 : Int} {x15 x16 : LD} (g6 : ZB RS lim x6) (g10 : ZB RS lim x10) (g11 : ZB Yq lim x11) (g15 : ZB RS lim x15) (g16 : ZB Yq lim x16) {k : Nat} (hk : Zai 1 k) :
  ∃ ys,Y3.t k l x0 x1 x2 x3 x4 x5 x6 x7 x8 x9 x10 x11 x12 x13 x14 x15 x16 = some ys ∧ C.immRows ys = YaV YaM YaZ [.int .i64 x0,.str x1,.int .i64 x2,.int .i64 x3,.int .i64 x4,.bool x5,.sl x6,.int .i64 x7,.str x8,.int .i64 x9,.sl x10,.sl x11,.int .i64 x12,.str x13,.int .i64 x14,.sl x15,.sl x16] [.int .i64 x0,.str x1,.int .i64 x2,.int .i64 x3,.int .i64 x4,.bool x5,.sl x6,.int .i64 x7,.str x8,.int .i64 x9,.sl x10,.sl x11,.int .i64 x12,.str x13,.int .i64 x14,.sl x15,.sl x16] false l := by
 have hlim : lim = 1048576 := rfl
 have hm : Z8 = 2 ^ 36 := rfl
 have hb : big = 2 ^ 64 := rfl
 have hl := g.1
 have hk0 : Fuel k := up0 hk
 generalize ho : ([.int .i64 x0,.str x1,.int .i64 x2,.int .i64 x3,.int .i64 x4,.bool x5,.sl x6,.int .i64 x7,.str x8,.int .i64 x9,.sl x10,.sl x11,.int .i64 x12,.str x13,.int .i64 x14,.sl x15,.sl x16] : List D) = o
 have hcp : C.immRows ([[.d (.int .i64 x0),.d (.str x1),.d (.int .i64 x2),.d (.int .i64 x3),.d (.int .i64 x4),.d (.bool x5),.own (Zc x6),.d (.int .i64 x7),.d (.str x8),.d (.int .i64 x9),.own (Zc x10),.own (Zc x11),.d (.int .i64 x12),.d (.str x13),.d (.int .i64 x14),.own (Zc x15),.own (Zc x16)]] : LC) = [o] := by
  simp only [C.immRows,C.immCells,C.imm,ZK,ho]
 have hr0 : rI o 0 = x0 := by rw [← ho]; rfl
 have hr1 : rS o 1 = x1 := by rw [← ho]; rfl
 unfold Y3.t Y3.g
 refine iter_ex (fun v => (l.length : Int).toNat - v.2.1.toNat) (fun v => 0 ≤ v.2.1 ∧ v.2.1 ≤ (l.length : Int) ∧ (v.2.2.length : Int) ≤ v.2.1 + (bif v.1 then 1 else 0) ∧ C.immRows v.2.2 ++ YaV YaM YaZ o o v.1 (l.drop v.2.1.toNat) = YaV YaM YaZ o o false l) (fun z => ∃ ys,z = some ys ∧ C.immRows ys = YaV YaM YaZ o o false l) ?_ (v := (false,0,[])) ⟨by simp,by simp,by simp,by simp [C.immRows]⟩ (by unfold Fuel at hk0; show (l.length : Int).toNat - 0 < k; omega)
 rintro ⟨put,n,out⟩ ⟨n0,n1,hlen,heq⟩ L hL
 replace n0 : 0 ≤ n := n0
 obtain ⟨i,rfl⟩ : ∃ i : Nat,n = (i : Int) := ⟨n.toNat,by omega⟩
 replace n1 : (i : Int) ≤ (l.length : Int) := n1
 replace hlen : (out.length : Int) ≤ (i : Int) + (bif put then 1 else 0) := hlen
 have hput : (bif put then (1 : Int) else 0) ≤ 1 := by cases put <;> decide
 replace heq : C.immRows out ++ YaV YaM YaZ o o put (l.drop (i : Int).toNat) = YaV YaM YaZ o o false l := heq
 rw [Int.toNat_natCast] at heq
 have hw1 : IntKind.wrap .i64 ((i : Int) + 1) = (i : Int) + 1 := Z9 (by omega) (by omega)
 by_cases hi : i < l.length
 ·obtain ⟨hrow,-⟩ := Ya.gets g.2 (v := (i : Int)) (by omega) (by omega)
  rw [with_step hi,less_gR hi,same_gR hi,hr0,hr1] at heq
  rw [gR_lt hi] at hrow
  rw [hrow] at heq
  have next : ∀ (put' : Bool) (out' : LC),(out'.length : Int) ≤ (i : Int) + 1 + (bif put' then 1 else 0) → C.immRows out' ++ YaV YaM YaZ o o put' (l.drop (i + 1)) = YaV YaM YaZ o o false l → ∃ ys,L (put',(i : Int) + 1,out') = some ys ∧ C.immRows ys = YaV YaM YaZ o o false l := fun put' out' q1 q2 =>
   hL _ ⟨by show 0 ≤ (i : Int) + 1; omega,by show (i : Int) + 1 ≤ _; omega,q1,by show C.immRows out' ++ YaV YaM YaZ o o put' (l.drop ((i : Int) + 1).toNat) = _; rw [show ((i : Int) + 1).toNat = i + 1 by omega]; exact q2⟩ (by show (l.length : Int).toNat - ((i : Int) + 1).toNat < (l.length : Int).toNat - (i : Int).toNat; omega)
  simp (config := {maxSteps := 4000000}) (disch := omega) only [Y3.l0,atR,rdQ,Q.ask,ZY (show (i : Int) < (l.length : Int) by omega),cond_true,Ya.row g,Z4,Z5,ZaQ,ZaV,Zbl,Zan,l7Less_fv,l7Copy_fv g6 g10 g11 g15 g16 hk,hw1,List.length_append,List.length_singleton]
  have gd : ∀ {β : Type} (F : Option β),Zd (out.length + 1 ≤ Z8) F = F := fun F => ZH (by omega)
  have gd2 : ∀ {β : Type} (F : Option β),Zd (out.length + 1 + 1 ≤ Z8) F = F := fun F => ZH (by omega)
  simp only [gd,gd2]
  have hcl : C.immRows ([[.d (.int .i64 (gI l (i : Int) 0)),.d (.str (gS l (i : Int) 1)),.d (.int .i64 (gI l (i : Int) 2)),.d (.int .i64 (gI l (i : Int) 3)),.d (.int .i64 (gI l (i : Int) 4)),.d (.bool (gB l (i : Int) 5)),.d (.sl (gL l (i : Int) 6)),.d (.int .i64 (gI l (i : Int) 7)),.d (.str (gS l (i : Int) 8)),.d (.int .i64 (gI l (i : Int) 9)),.d (.sl (gL l (i : Int) 10)),.d (.sl (gL l (i : Int) 11)),.d (.int .i64 (gI l (i : Int) 12)),.d (.str (gS l (i : Int) 13)),.d (.int .i64 (gI l (i : Int) 14)),.d (.sl (gL l (i : Int) 15)),.d (.sl (gL l (i : Int) 16))]] : LC) = [l[i]] := by
   rw [hrow]
   simp only [C.immRows,C.immCells,C.imm]
  rw [← hrow] at heq
  generalize ([[.d (.int .i64 x0),.d (.str x1),.d (.int .i64 x2),.d (.int .i64 x3),.d (.int .i64 x4),.d (.bool x5),.own (Zc x6),.d (.int .i64 x7),.d (.str x8),.d (.int .i64 x9),.own (Zc x10),.own (Zc x11),.d (.int .i64 x12),.d (.str x13),.d (.int .i64 x14),.own (Zc x15),.own (Zc x16)]] : LC) = cp at hcp ⊢
  generalize ([[.d (.int .i64 (gI l (i : Int) 0)),.d (.str (gS l (i : Int) 1)),.d (.int .i64 (gI l (i : Int) 2)),.d (.int .i64 (gI l (i : Int) 3)),.d (.int .i64 (gI l (i : Int) 4)),.d (.bool (gB l (i : Int) 5)),.d (.sl (gL l (i : Int) 6)),.d (.int .i64 (gI l (i : Int) 7)),.d (.str (gS l (i : Int) 8)),.d (.int .i64 (gI l (i : Int) 9)),.d (.sl (gL l (i : Int) 10)),.d (.sl (gL l (i : Int) 11)),.d (.int .i64 (gI l (i : Int) 12)),.d (.str (gS l (i : Int) 13)),.d (.int .i64 (gI l (i : Int) 14)),.d (.sl (gL l (i : Int) 15)),.d (.sl (gL l (i : Int) 16))]] : LC) = cl at hcl ⊢
  have lcp : cp.length = 1 := by have := congrArg List.length hcp; rwa [Ybb,List.length_map] at this
  have lcl : cl.length = 1 := by have := congrArg List.length hcl; rwa [Ybb,List.length_map] at this
  generalize l[i] = li at *
  generalize lessV (gI l (i : Int) 0) (gS l (i : Int) 1) x0 x1 = bl at *
  generalize Zae (gS l (i : Int) 1) x1 = bs at *
  simp only [bne]
  generalize (gI l (i : Int) 0 == x0) = be at *
  cases put <;> cases bl <;> cases be <;> cases bs
  all_goals
   simp only [Bool.not_true,Bool.not_false,cond_true,cond_false,Bool.and_true,Bool.and_false,Bool.true_and,Bool.false_and,Bool.or_true,Bool.or_false,Bool.false_or,Bool.true_or,if_true,if_false,Bool.false_eq_true,List.nil_append] at heq ⊢
   simp only [cond_true,cond_false] at hlen
   first
   | exact next _ _ (by simp only [cond_true,cond_false]; omega) heq
   | exact next _ _ (by simp only [cond_true,cond_false,List.length_append]; omega) (by rw [Za3,hcl,List.append_assoc]; exact heq)
   | exact next _ _ (by simp only [cond_true,cond_false,List.length_append]; omega) (by rw [Za3,hcp,List.append_assoc]; exact heq)
   | exact next _ _ (by simp only [cond_true,cond_false,List.length_append]; omega) (by rw [Za3,Za3,hcp,hcl,List.append_assoc,List.append_assoc]; exact heq)
 ·have hle : l.length ≤ i := by omega
  rw [List.drop_eq_nil_of_le hle] at heq
  simp (config := {maxSteps := 4000000}) (disch := omega) only [Y3.l0,atR,rdQ,Q.ask,ZZ (show ¬ (i : Int) < (l.length : Int) by omega),cond_false,l7Copy_fv g6 g10 g11 g15 g16 hk,List.length_singleton]
  rw [withF_nil] at heq
  cases put with
  | true => exact ⟨out,rfl,by simpa using heq⟩
  | false =>
   rw [Bool.not_false,cond_true,ZH (by omega)]
   exact ⟨_,rfl,by rw [Za3,hcp]; simpa using heq⟩
theorem Y0.f_of {β : Type} {k a0 z0} (h : Y0.t k a0 = some z0) (K : LC → Option β) : Y0.f k a0 K = K z0 := by unfold Y0.f; rw [h]; rfl
set_option maxRecDepth 10000 in
theorem l7CopyLog_fv {a : LD} (g : ZB Yb lim a) {k : Nat} (hk : Zai 1 k) {β : Type} (K : LC → Option β) : YN.f k a K = K (Zc a) := YN.f_of (by
 have hm : Z8 = 2 ^ 36 := rfl
 have hlim : lim = 1048576 := rfl
 have hb : big = 2 ^ 64 := rfl
 have hk0 : big ≤ k := up0 hk
 have l := g.1
 unfold YN.t YN.g
 refine ZbT (xs := a) (by omega) (fun L i hi => ?_) (fun L => ?_)
 ·have hl : (Zc (a.take i)).length = i := by rw [ZS,List.length_take]; omega
  obtain ⟨e,-,-,-,-,-,-,k6,-,-,-,k10,k11,-,-,-,k15,k16,-⟩ := Yb.get g (v := (i : Int)) (by omega) (by omega)
  unfold YN.l0; simp only [atR,rdQ,Q.ask]
  simp (disch := omega) only [ZY (show (i : Int) < a.length by omega),cond_true,Zck (xs := a) (v := (i : Int)),e,Z4,Z5,ZaQ,ZaV,Zbl,Zan,l7Copy_fv k6 k10 k11 k15 k16 hk,Z9]
  rw [ZH (by rw [hl,List.length_singleton]; omega)]
  simp only [ZN,deepD]
 ·unfold YN.l0; simp only [atR,rdQ,Q.ask]
  simp only [ZZ (show ¬ (a.length : Int) < a.length by omega),cond_false]) K
set_option maxRecDepth 100000 in
theorem copyLog_fv {a : LD} (g : ZB Yb lim a) {k : Nat} (hk : Zai 1 k) {β : Type} (K : LC → Option β) : Y0.f k a K = K (Zc a) := Y0.f_of (by
 have hm : Z8 = 2 ^ 36 := rfl
 have hlim : lim = 1048576 := rfl
 have hb : big = 2 ^ 64 := rfl
 have hk0 : big ≤ k := up0 hk
 have l := g.1
 unfold Y0.t Y0.g
 refine ZbT (xs := a) (by omega) (fun L i hi => ?_) (fun L => ?_)
 ·have hl : (Zc (a.take i)).length = i := by rw [ZS,List.length_take]; omega
  obtain ⟨e,-,-,-,-,-,-,k6,-,-,-,k10,k11,-,-,-,k15,k16,-⟩ := Yb.get g (v := (i : Int)) (by omega) (by omega)
  simp (disch := omega) only [Y0.l0,atR,rdQ,Q.ask,ZY (show (i : Int) < a.length by omega),cond_true,Zck (xs := a) (v := (i : Int)),e,Z4,Z5,ZaQ,ZaV,Zbl,Zan,copyObj_fv k6 k10 k11 k15 k16 hk,Z9]
  rw [ZH (by rw [hl,List.length_singleton]; omega)]
  simp only [ZN,deepD]
 ·simp only [Y0.l0,atR,rdQ,Q.ask,ZZ (show ¬ (a.length : Int) < a.length by omega),cond_false]) K
theorem YaD.f_of {β : Type} {k aB aA aH aF aI bD aV bA aP bB aQ aW aY aR bC aT aX bZ cA f0_0 z0} (h : YaD.t k aB aA aH aF aI bD aV bA aP bB aQ aW aY aR bC aT aX bZ cA f0_0 = some z0) (K : Bool → Option β) : YaD.f k aB aA aH aF aI bD aV bA aP bB aQ aW aY aR bC aT aX bZ cA f0_0 K = K z0 := by unfold YaD.f; rw [h]; rfl
theorem Yh.f_of {β : Type} {k : Nat} {xs : LC} {c0_0 : Int} {z0 : LC} (h : Yh.t k xs c0_0 = some z0) (K : LC → Option β) : Yh.f k xs c0_0 K = K z0 := by
 unfold Yh.f
 rw [h]
theorem YaP.f_of {β : Type} {k aB aA aH aF a1 z0 z1} (h : YaP.t k aB aA aH aF a1 = some (z0,z1)) (K : LC → Bool → Option β) : YaP.f k aB aA aH aF a1 K = K z0 z1 := by unfold YaP.f; rw [h]; rfl
def Ya6 (d : LD) (n : Int) : LD := d.filter fun r => !decide (rI r 0 ≤ n)
set_option maxRecDepth 100000 in
theorem delSince_fv {d : LD} {n : Int} (g : ZB Yb lim d) {k : Nat} (hk : Zai 1 k) {β : Type} (K : LC → Option β) : Yh.f k (Zc d) n K = K (Zc (Ya6 d n)) := by
 have hl := g.1
 have hlim : lim = 1048576 := rfl
 have hb : big = 2 ^ 64 := rfl
 have hk0 : big ≤ k := up0 hk
 refine Yh.f_of ?_ K
 unfold Yh.t Ya6
 refine delK_deep (by omega) ?_ (fun r hr => ?_)
 ·unfold Yf.t Yf.g
  refine iter_findI (n := d.length) (fun i => decide (rI (gR d (i : Int)) 0 ≤ n)) some (by omega) (fun L i hi => ?_) (fun L => by simp [Yf.l0,atR,rdQ,Q.ask])
  obtain ⟨e,-⟩ := Yb.get g (v := (i : Int)) (by omega) (by omega)
  rw [show rI (gR d (i : Int)) 0 = gI d (i : Int) 0 from rfl]
  unfold Yf.l0; simp only [atR,rdQ,Q.ask]
  simp (disch := omega) only [ZY (show (i : Int) < d.length by omega),cond_true,Yb.row g,Z4,Z5,ZaQ,ZaV,Zbl,Zan,Z9]
  rw [YaD.f_of (by unfold YaD.t YaD.g; rfl)]
 ·obtain ⟨i,hi,rfl⟩ := List.mem_iff_getElem.mp hr
  have hg : gR d (i : Int) = d[i] := by
   have := gR_at (xs := d) (v := (i : Int)) (by omega) (by omega)
   rw [Int.toNat_natCast,List.getElem?_eq_getElem hi] at this
   injection this with this
   exact this.symm
  obtain ⟨e,-⟩ := Yb.get g (v := (i : Int)) (by omega) (by omega)
  rw [← hg,show rI (gR d (i : Int)) 0 = gI d (i : Int) 0 from rfl,e]
  simp only []
  unfold YaD.t YaD.g
  rfl
noncomputable def YaX (a : LD) (b c : Int) (d : LD) (n : Int) : LC × Bool :=
 bif Yv.v a b c d && inB n 0 b then (bif decide (((Ya6 d n).length : Int) < IntKind.wrap .i64 (b - n)) then ([],false) else (Zc (Ya6 d n),true)) else ([],false)
theorem sinceL_ok {d : LD} {n : Int} {B : Nat} (g : ZB Yb B d) : ZB Yb B (Ya6 d n) := ⟨Nat.le_trans (List.length_filter_le _ _) g.1,fun r hr => g.2 r (List.mem_filter.mp hr).1⟩
theorem impl_Since_t {a : LD} {b c n : Int} {d : LD} (g0 : ZB Ya lim a) (g3 : ZB Yb lim d) {k : Nat} (hk : Zai 1 k) : YaP.t k a b c d n = some (YaX a b c d n) := by
 unfold YaP.t YaP.g YaX
 rw [BaseOkI g0 g3 hk,copyLog_fv g3 hk]
 simp only [Ya5,delSince_fv g3 hk,ZS]
 cases Yv.v a b c d
 ·rfl
 cases inB n 0 b
 ·rfl
 simp only [Bool.not_true,cond_false,cond_true,Bool.true_and]
 cases decide (((Ya6 d n).length : Int) < IntKind.wrap .i64 (b - n)) <;> rfl
set_option maxRecDepth 100000 in
theorem spec_Since_t {a : LD} {b c n : Int} {d : LD} (g0 : ZB Ya lim a) (g3 : ZB Yb lim d) {k : Nat} (hk : Zai 1 k) : Yag.t k a b c d n = some (YaX a b c d n) := by
 have hm : Z8 = 2 ^ 36 := rfl
 have hlim : lim = 1048576 := rfl
 have hb : big = 2 ^ 64 := rfl
 have hk0 : big ≤ k := up0 hk
 have l := g3.1
 unfold Yag.t Yag.g YaX
 rw [Yv.fv g0 g3 hk]
 simp only [l1In_fv]
 cases Yv.v a b c d
 ·rfl
 cases inB n 0 b
 ·rfl
 simp only [Bool.not_true,cond_false,cond_true,Bool.true_and]
 refine iter_seq (f := fun j => ((j : Int),(Ya6 (d.take j) n).map (·.map C.d))) (n := d.length) (by omega) (fun L i hi => ?_) (fun L => ?_)
 ·obtain ⟨e,-⟩ := Yb.get g3 (v := (i : Int)) (by omega) (by omega)
  have ht : d.take (i + 1) = d.take i ++ [gR d (i : Int)] := by
   have := gR_at (xs := d) (v := (i : Int)) (by omega) (by omega)
   rw [Int.toNat_natCast] at this
   rw [List.take_add_one,this]; rfl
  have hdl : (Ya6 (d.take i) n).length ≤ i := Nat.le_trans (List.length_filter_le _ _) (by rw [List.length_take]; omega)
  have hdr : Ya6 (d.take (i + 1)) n = Ya6 (d.take i) n ++ (bif decide (gI d (i : Int) 0 ≤ n) then [] else [gR d (i : Int)]) := by
   unfold Ya6
   rw [ht,List.filter_append]
   congr 1
   rw [List.filter_cons]
   show (if (!decide (gI d (i : Int) 0 ≤ n)) = true then _ else _) = _
   cases decide (gI d (i : Int) 0 ≤ n) <;> rfl
  rw [hdr]
  simp (disch := omega) only [Yag.l0,atR,rdQ,Q.ask,ZY (show (i : Int) < d.length by omega),cond_true,Yb.row g3,Z4,Z5,ZaQ,ZaV,Zbl,Zan,Z9]
  by_cases h : gI d (i : Int) 0 ≤ n
  ·rw [ZY h,ZZ (show ¬ gI d (i : Int) 0 > n by omega)]
   simp
  ·rw [ZZ h,ZY (show gI d (i : Int) 0 > n by omega)]
   simp only [cond_true,cond_false]
   rw [ZH (by simp only [map_len,List.length_singleton]; omega),e]
   simp
 ·rw [List.take_length]
  simp only [Yag.l0,atR,rdQ,Q.ask,ZZ (show ¬ (d.length : Int) < d.length by omega),cond_false,map_len,imm_rows,l7CopyLog_fv (sinceL_ok g3) hk]
  cases decide (((Ya6 d n).length : Int) < IntKind.wrap .i64 (b - n)) <;> rfl
theorem wt_filter (p : List D → Bool) : ∀ (d : LD),Zu (d.filter p) ≤ Zu d
 | [] => Nat.le_refl _
 | r :: d => by
  have := wt_filter p d
  rw [List.filter_cons]
  split
  ·simp only [Zu]; omega
  ·simp only [Zu]; omega
theorem YO.f_of {β : Type} {k a0 z0} (h : YO.t k a0 = some z0) (K : LC → Option β) : YO.f k a0 K = K z0 := by unfold YO.f; rw [h]; rfl
set_option maxRecDepth 100000 in
theorem l7CopyObjs_fv {a : LD} (g : ZB Ya lim a) {k : Nat} (hk : Zai 1 k) {β : Type} (K : LC → Option β) : YE.f k a K = K (Zc a) := YE.f_of (by
 have hm : Z8 = 2 ^ 36 := rfl
 have hlim : lim = 1048576 := rfl
 have hb : big = 2 ^ 64 := rfl
 have hk0 : big ≤ k := up0 hk
 have l := g.1
 unfold YE.t YE.g
 refine ZbT (xs := a) (by omega) (fun L i hi => ?_) (fun L => ?_)
 ·have hl : (Zc (a.take i)).length = i := by rw [ZS,List.length_take]; omega
  obtain ⟨e,-,-,-,-,-,k6,-,-,-,k10,k11,-,-,-,k15,k16,-⟩ := Ya.get g (v := (i : Int)) (by omega) (by omega)
  simp (disch := omega) only [YE.l0,atR,rdQ,Q.ask,ZY (show (i : Int) < a.length by omega),cond_true,Zck (xs := a) (v := (i : Int)),e,Z4,Z5,ZaQ,ZaV,Zbl,Zan,l7Copy_fv k6 k10 k11 k15 k16 hk,Z9]
  rw [ZH (by rw [hl,List.length_singleton]; omega)]
  simp only [ZN,deepD]
 ·simp only [YE.l0,atR,rdQ,Q.ask,ZZ (show ¬ (a.length : Int) < a.length by omega),cond_false]) K
set_option maxRecDepth 100000 in
theorem copyObjs_fv {a : LD} (g : ZB Ya lim a) {k : Nat} (hk : Zai 1 k) {β : Type} (K : LC → Option β) : YO.f k a K = K (Zc a) := YO.f_of (by
 have hm : Z8 = 2 ^ 36 := rfl
 have hlim : lim = 1048576 := rfl
 have hb : big = 2 ^ 64 := rfl
 have hk0 : big ≤ k := up0 hk
 have l := g.1
 unfold YO.t YO.g
 refine ZbT (xs := a) (by omega) (fun L i hi => ?_) (fun L => ?_)
 ·have hl : (Zc (a.take i)).length = i := by rw [ZS,List.length_take]; omega
  obtain ⟨e,-,-,-,-,-,k6,-,-,-,k10,k11,-,-,-,k15,k16,-⟩ := Ya.get g (v := (i : Int)) (by omega) (by omega)
  simp (disch := omega) only [YO.l0,atR,rdQ,Q.ask,ZY (show (i : Int) < a.length by omega),cond_true,Zck (xs := a) (v := (i : Int)),e,Z4,Z5,ZaQ,ZaV,Zbl,Zan,copyObj_fv k6 k10 k11 k15 k16 hk,Z9]
  rw [ZH (by rw [hl,List.length_singleton]; omega)]
  simp only [ZN,deepD]
 ·simp only [YO.l0,atR,rdQ,Q.ask,ZZ (show ¬ (a.length : Int) < a.length by omega),cond_false]) K
theorem YaS.f_of {β : Type} {k aB aA aH aF z0 z1} (h : YaS.t k aB aA aH aF = some (z0,z1)) (K : Int → LC → Option β) : YaS.f k aB aA aH aF K = K z0 z1 := by unfold YaS.f; rw [h]; rfl
noncomputable def listV (a : LD) (b c : Int) (d : LD) : Int × LC := bif Yv.v a b c d then (b,Zc a) else (0,[])
theorem spec_List_t {a0 : LD} {a1 a2 : Int} {a3 : LD} (g0 : ZB Ya lim a0) (g3 : ZB Yb lim a3) {k : Nat} (hk : Zai 1 k) : YaR.t k a0 a1 a2 a3 = some (listV a0 a1 a2 a3) := by
 unfold YaR.t YaR.g listV
 rw [Yv.fv g0 g3 hk,l7CopyObjs_fv g0 hk]
 cases Yv.v a0 a1 a2 a3 <;> rfl
theorem impl_List_t {a0 : LD} {a1 a2 : Int} {a3 : LD} (g0 : ZB Ya lim a0) (g3 : ZB Yb lim a3) {k : Nat} (hk : Zai 1 k) : YaS.t k a0 a1 a2 a3 = some (listV a0 a1 a2 a3) := by
 unfold YaS.t YaS.g listV
 rw [BaseOkI g0 g3 hk,copyObjs_fv g0 hk]
 cases Yv.v a0 a1 a2 a3 <;> rfl
theorem Yap.f_of {β : Type} {k aB aA z0} (h : Yap.t k aB aA = some z0) (K : Bool → Option β) : Yap.f k aB aA K = K z0 := by unfold Yap.f; rw [h]; rfl
theorem Yap.same {aB : Int} {aA : LD} (g1 : ZB Ya lim aA) {k : Nat} (hk : Zai 1 k) : Yap.t k aB aA = Yx.t k aB aA := by
 unfold Yap.t Yx.t Yap.g Yx.g
 simp only [Ya5,l1In_fv,objsOk_fv g1 hk,l7Objs_fv g1 hk]
 rfl
theorem Yaf.f_of {β : Type} {k aB aA z0 z1} (h : Yaf.t k aB aA = some (z0,z1)) (K : Int → LC → Option β) : Yaf.f k aB aA K = K z0 z1 := by unfold Yaf.f; rw [h]; rfl
theorem Yc.f_of {β : Type} {k a0 aM aN aU aO bF bH bI bJ bK bL bM bN bO bP bQ bR bT z0 z1} (h : Yc.t k a0 aM aN aU aO bF bH bI bJ bK bL bM bN bO bP bQ bR bT = some (z0,z1)) (K : Int → Bool → Option β) : Yc.f k a0 aM aN aU aO bF bH bI bJ bK bL bM bN bO bP bQ bR bT K = K z0 z1 := by unfold Yc.f; rw [h]; rfl
theorem halfF {x : Int} (h0 : 0 ≤ x) (h1 : x < 4611686018427387904) : Int.fdiv (IntKind.wrap .u64 (IntKind.wrap .i64 x)) (2 ^ (min (1 : Int).toNat 64)) = x / 2 := by
 rw [Z9 (by omega) (by omega)]
 have : IntKind.wrap .u64 x = x := by simp only [IntKind.wrap,IntKind.signed,IntKind.bits]; simp; omega
 rw [this,show (min (1 : Int).toNat 64) = 1 from rfl,Int.pow_one,Int.fdiv_eq_ediv_of_nonneg _ (by decide)]
def AscO (l : LD) : Prop := l.Pairwise fun x y => YaM x y = true
set_option maxRecDepth 100000 in
set_option maxHeartbeats 4000000 in
theorem binObj_fv {l : LD} (g : ZB Ya lim l) (ha : AscO l) {x0 : Int} {x1 : BA} {x2 x3 x4 : Int} {x5 : Bool} {x6 : LD} {x7 : Int} {x8 : BA} {x9 : Int} {x10 x11 : LD} {x12 : Int} {x13 : BA} {x14 : Int} {x15 x16 : LD} {o : List D} (h0 : rI o 0 = x0) (h1 : rS o 1 = x1) {k : Nat} (hk : Fuel k) {β : Type} (K : Int → Bool → Option β) :
  Yc.f k l x0 x1 x2 x3 x4 x5 x6 x7 x8 x9 x10 x11 x12 x13 x14 x15 x16 K = K (lbF YaM o l : Int) (hitF YaM YaZ o l) := by
 have hlim : lim = 1048576 := rfl
 have hb : big = 2 ^ 64 := rfl
 have hl := g.1
 have hle : lbF YaM o l ≤ l.length := (List.takeWhile_sublist _).length_le
 refine Yc.f_of ?_ K
 unfold Yc.t Yc.g
 refine iter_val (fun v : Int × Int => (v.2 - v.1).toNat) (fun v => 0 ≤ v.1 ∧ v.1 ≤ (lbF YaM o l : Int) ∧ (lbF YaM o l : Int) ≤ v.2 ∧ v.2 ≤ (l.length : Int)) (fun _ => some ((lbF YaM o l : Int),hitF YaM YaZ o l)) ?_ k _ ⟨by simp,by simp,by simp; omega,by simp⟩ (by show ((l.length : Int) - 0).toNat < k; unfold Fuel at hk; omega)
 rintro ⟨i,j⟩ ⟨i0,i1,j0,j1⟩ L hL
 simp only [] at i0 i1 j0 j1 hL
 simp only [Yc.l0,atR,rdQ,Q.ask]
 by_cases h : i < j
 ·obtain ⟨m,hm⟩ : ∃ m : Nat,(i + j) / 2 = (m : Int) := ⟨((i + j) / 2).toNat,by omega⟩
  have hml : m < l.length := by omega
  obtain ⟨c,hc1,-,hc3⟩ := cmpObjs2 (x0 := gI l (m : Int) 0) (x1 := gS l (m : Int) 1) (x2 := gI l (m : Int) 2) (x3 := gI l (m : Int) 3) (x4 := gI l (m : Int) 4) (x5 := gB l (m : Int) 5) (x6 := gL l (m : Int) 6) (x7 := gI l (m : Int) 7) (x8 := gS l (m : Int) 8) (x9 := gI l (m : Int) 9) (x10 := gL l (m : Int) 10) (x11 := gL l (m : Int) 11) (x12 := gI l (m : Int) 12) (x13 := gS l (m : Int) 13) (x14 := gI l (m : Int) 14) (x15 := gL l (m : Int) 15) (x16 := gL l (m : Int) 16) (y0 := x0) (y1 := x1) (y2 := x2) (y3 := x3) (y4 := x4) (y5 := x5) (y6 := x6) (y7 := x7) (y8 := x8) (y9 := x9) (y10 := x10) (y11 := x11) (y12 := x12) (y13 := x13) (y14 := x14) (y15 := x15) (y16 := x16) (k := k)
  have hless : YaM l[m] o = decide (c < 0) := by rw [less_gR hml,h0,h1,hc1]
  rw [ZY h]
  simp only [cond_true]
  rw [halfF (by omega) (by omega),hm,Z9 (x := (m : Int)) (by omega) (by omega),ZH (by decide),Ya.row g (by omega) (by omega)]
  simp only [Z4,Z5,ZaQ,ZaV,Zbl,Zan,hc3]
  by_cases hq : c < 0
  ·rw [ZY hq] at hless
   have : m < lbF YaM o l := by
    rcases Nat.lt_or_ge m (lbF YaM o l) with z | z
    ·exact z
    ·rw [lbF_above orderR ha hml z] at hless; cases hless
   rw [ZY hq,cond_true,Z9 (by omega) (by omega)]
   exact hL _ ⟨by show 0 ≤ (m : Int) + 1; omega,by show (m : Int) + 1 ≤ _; omega,j0,j1⟩ (by simp only []; omega)
  ·rw [ZZ hq] at hless
   have : lbF YaM o l ≤ m := by
    rcases Nat.lt_or_ge m (lbF YaM o l) with z | z
    ·rw [lbF_below hml z] at hless; cases hless
    ·exact z
   rw [ZZ hq,cond_false]
   exact hL _ ⟨i0,i1,by show _ ≤ (m : Int); omega,by show (m : Int) ≤ _; omega⟩ (by simp only []; omega)
 ·rw [ZZ h]
  simp only [cond_false]
  obtain rfl : i = (lbF YaM o l : Int) := by omega
  unfold hitF
  by_cases hlt : lbF YaM o l < l.length
  ·obtain ⟨c,-,hc2,hc3⟩ := cmpObjs2 (x0 := gI l (lbF YaM o l : Int) 0) (x1 := gS l (lbF YaM o l : Int) 1) (x2 := gI l (lbF YaM o l : Int) 2) (x3 := gI l (lbF YaM o l : Int) 3) (x4 := gI l (lbF YaM o l : Int) 4) (x5 := gB l (lbF YaM o l : Int) 5) (x6 := gL l (lbF YaM o l : Int) 6) (x7 := gI l (lbF YaM o l : Int) 7) (x8 := gS l (lbF YaM o l : Int) 8) (x9 := gI l (lbF YaM o l : Int) 9) (x10 := gL l (lbF YaM o l : Int) 10) (x11 := gL l (lbF YaM o l : Int) 11) (x12 := gI l (lbF YaM o l : Int) 12) (x13 := gS l (lbF YaM o l : Int) 13) (x14 := gI l (lbF YaM o l : Int) 14) (x15 := gL l (lbF YaM o l : Int) 15) (x16 := gL l (lbF YaM o l : Int) 16) (y0 := x0) (y1 := x1) (y2 := x2) (y3 := x3) (y4 := x4) (y5 := x5) (y6 := x6) (y7 := x7) (y8 := x8) (y9 := x9) (y10 := x10) (y11 := x11) (y12 := x12) (y13 := x13) (y14 := x14) (y15 := x15) (y16 := x16) (k := k)
   rw [ZY (show (lbF YaM o l : Int) < (l.length : Int) by omega),cond_true,Ya.row g (by omega) (by omega),List.getElem?_eq_getElem hlt]
   simp only [Z4,Z5,ZaQ,ZaV,Zbl,Zan,hc3]
   rw [same_gR hlt,h0,h1,hc2]
  ·rw [ZZ (show ¬ (lbF YaM o l : Int) < (l.length : Int) by omega),cond_false,List.getElem?_eq_none (by omega)]
theorem YaN.f_of {β : Type} {k a0 aM aN aU aO bF bH bI bJ bK bL bM bN bO bP bQ bR bT z0} (h : YaN.t k a0 aM aN aU aO bF bH bI bJ bK bL bM bN bO bP bQ bR bT = some z0) (K : LC → Option β) : YaN.f k a0 aM aN aU aO bF bH bI bJ bK bL bM bN bO bP bQ bR bT K = K z0 := by unfold YaN.f; rw [h]; rfl
theorem Ybg : ∀ r : List D,(ZN r).length = r.length
 | [] => by simp only [ZN,List.length_nil]
 | d :: r => by simp only [ZN,List.length_cons,Ybg r]
theorem deepRows_mod {f : List C → List C} {o : List D} : ∀ {l : LD} {i : Nat},i < l.length → (∀ r,l[i]? = some r → f (ZN r) = ZN o) → (Zc l).modify i f = Zc (l.take i ++ o :: l.drop (i + 1))
 | [],i,h,_ => absurd h (by simp)
 | r :: xs,0,_,h2 => by
  simp only [Zc,List.modify_zero_cons,List.take_zero,List.nil_append,List.drop_succ_cons,List.drop_zero]
  rw [h2 r rfl]
 | r :: xs,i + 1,h1,h2 => by
  simp only [Zc,List.modify_succ_cons,List.take_succ_cons,List.cons_append,List.drop_succ_cons]
  rw [deepRows_mod (by simpa using h1) fun x hx => h2 x (by simpa using hx)]
theorem Ybe : ∀ {l : LD} {i : Nat},(Zc l).take i = Zc (l.take i)
 | [],i => by simp only [Zc,List.take_nil]
 | _ :: _,0 => by simp only [Zc,List.take_zero]
 | r :: xs,i + 1 => by simp only [Zc,List.take_succ_cons,Ybe]
theorem Ybf : ∀ {l : LD} {i : Nat},(Zc l).drop i = Zc (l.drop i)
 | [],i => by simp only [Zc,List.drop_nil]
 | _ :: _,0 => by simp only [Zc,List.drop_zero]
 | r :: xs,i + 1 => by simp only [Zc,List.drop_succ_cons,Ybf]
theorem splice_full {α : Type} {c n : List α} (h : c.length = n.length) : Zs c 0 n = n := by
 unfold Zs
 rw [List.take_zero,List.nil_append,Nat.zero_add,List.drop_eq_nil_of_le (by omega),List.append_nil]
set_option maxRecDepth 100000 in
set_option maxHeartbeats 4000000 in
theorem placed_fv {l : LD} (g : ZB Ya lim l) (ha : AscO l) {x0 : Int} {x1 : BA} {x2 x3 x4 : Int} {x5 : Bool} {x6 : LD} {x7 : Int} {x8 : BA} {x9 : Int} {x10 x11 : LD} {x12 : Int} {x13 : BA} {x14 : Int} {x15 x16 : LD} (g6 : ZB RS lim x6) (g10 : ZB RS lim x10) (g11 : ZB Yq lim x11) (g15 : ZB RS lim x15) (g16 : ZB Yq lim x16) {k : Nat} (hk : Zai 1 k) {β : Type} (K : LC → Option β) :
  YaN.f k (Zc l) x0 x1 x2 x3 x4 x5 x6 x7 x8 x9 x10 x11 x12 x13 x14 x15 x16 K = K (Zc (YaV YaM YaZ [.int .i64 x0,.str x1,.int .i64 x2,.int .i64 x3,.int .i64 x4,.bool x5,.sl x6,.int .i64 x7,.str x8,.int .i64 x9,.sl x10,.sl x11,.int .i64 x12,.str x13,.int .i64 x14,.sl x15,.sl x16] [.int .i64 x0,.str x1,.int .i64 x2,.int .i64 x3,.int .i64 x4,.bool x5,.sl x6,.int .i64 x7,.str x8,.int .i64 x9,.sl x10,.sl x11,.int .i64 x12,.str x13,.int .i64 x14,.sl x15,.sl x16] false l)) := YaN.f_of (by
 have hlim : lim = 1048576 := rfl
 have hm : Z8 = 2 ^ 36 := rfl
 have hl := g.1
 have hdl := ZS l
 generalize ho : ([.int .i64 x0,.str x1,.int .i64 x2,.int .i64 x3,.int .i64 x4,.bool x5,.sl x6,.int .i64 x7,.str x8,.int .i64 x9,.sl x10,.sl x11,.int .i64 x12,.str x13,.int .i64 x14,.sl x15,.sl x16] : List D) = o
 have hc : ([.d (.int .i64 x0),.d (.str x1),.d (.int .i64 x2),.d (.int .i64 x3),.d (.int .i64 x4),.d (.bool x5),.own (Zc x6),.d (.int .i64 x7),.d (.str x8),.d (.int .i64 x9),.own (Zc x10),.own (Zc x11),.d (.int .i64 x12),.d (.str x13),.d (.int .i64 x14),.own (Zc x15),.own (Zc x16)] : List C) = ZN o := by
  rw [← ho]; simp only [ZN,deepD]
 have hol : o.length = 17 := by rw [← ho]; rfl
 have hle : lbF YaM o l ≤ l.length := (List.takeWhile_sublist _).length_le
 unfold YaN.t YaN.g
 rw [ZK,binObj_fv g ha (o := o) (by rw [← ho]; rfl) (by rw [← ho]; rfl) (up0 hk),withF_eq orderR ha]
 cases hh : hitF YaM YaZ o l with
 | true =>
  have hlt : lbF YaM o l < l.length := by
   rcases Nat.lt_or_ge (lbF YaM o l) l.length with q | q
   ·exact q
   ·unfold hitF at hh
    rw [List.getElem?_eq_none q] at hh
    cases hh
  rw [cond_true,copyObj_fv g6 g10 g11 g15 g16 hk,ZH (by omega),ZH (by omega),hc,Int.toNat_natCast,if_pos rfl]
  refine congrArg some (deepRows_mod hlt fun r hr => splice_full ?_)
  obtain ⟨hrow,-⟩ := Ya.gets g.2 (v := (lbF YaM o l : Int)) (by omega) (by omega)
  rw [gR_lt hlt] at hrow
  rw [List.getElem?_eq_getElem hlt] at hr
  injection hr with hr
  rw [Ybg,Ybg,hol,← hr,hrow]
  rfl
 | false =>
  rw [cond_false,copyObj_fv g6 g10 g11 g15 g16 hk]
  unfold YG.f YG.t
  rw [ZH (by simp only [List.length_singleton]; omega),hc,Int.toNat_natCast,if_neg (by decide),Nat.add_zero,Ybe,Ybf]
  simp only [Zbb,Zc,List.append_assoc,List.cons_append,List.nil_append]) K
theorem YaI.f_of {β : Type} {k aB aA aH aF aI bD aV bA aP bB aQ aW aY aR bC aT aX f0_0 f1_0 z0} (h : YaI.t k aB aA aH aF aI bD aV bA aP bB aQ aW aY aR bC aT aX f0_0 f1_0 = some z0) (K : Bool → Option β) : YaI.f k aB aA aH aF aI bD aV bA aP bB aQ aW aY aR bC aT aX f0_0 f1_0 K = K z0 := by unfold YaI.f; rw [h]; rfl
theorem Ye.f_of {β : Type} {k a0 a1_0_0 a1_1_0 z0} (h : Ye.t k a0 a1_0_0 a1_1_0 = some z0) (K : Int → Option β) : Ye.f k a0 a1_0_0 a1_1_0 K = K z0 := by unfold Ye.f; rw [h]; rfl
theorem YaQ.f_of {β : Type} {k a0 a1 a2 z0} (h : YaQ.t k a0 a1 a2 = some z0) (K : Int → Option β) : YaQ.f k a0 a1 a2 K = K z0 := by unfold YaQ.f; rw [h]; rfl
noncomputable def Ya3 (l : LD) (x : Int) (y : BA) : Int := ZbV (fun i => (gI l (i : Int) 0 == x) && Zae (gS l (i : Int) 1) y) l.length
set_option maxRecDepth 100000 in
theorem l7Find_fv {l : LD} (g : ZB Ya lim l) {x : Int} {y : BA} {k : Nat} (hk : Fuel k) {β : Type} (K : Int → Option β) : Yaa.f k l x y K = K (Ya3 l x y) := Yaa.f_of (by
 have hb : big = 2 ^ 64 := rfl
 have hlim : lim = 1048576 := rfl
 have hl := g.1
 unfold Yaa.t Yaa.g
 refine iter_findI (n := l.length) _ some (by unfold Fuel at hk; omega) (fun L i hi => ?_) (fun L => by simp [Yaa.l0,atR,rdQ,Q.ask])
 simp (disch := omega) only [Yaa.l0,atR,rdQ,Q.ask,ZY (show (i : Int) < l.length by omega),cond_true,Ya.row g,Z4,Z5,ZaQ,ZaV,Zbl,Zan,Z9]
 cases (gI l (i : Int) 0 == x) <;> cases Zae (gS l (i : Int) 1) y <;> rfl) K
set_option maxRecDepth 100000 in
theorem objAt_fv {l : LD} (g : ZB Ya lim l) {x : Int} {y : BA} {k : Nat} (hk : Fuel k) {β : Type} (K : Int → Option β) : YaQ.f k l x y K = K (Ya3 l x y) := YaQ.f_of (by
 have hb : big = 2 ^ 64 := rfl
 have hlim : lim = 1048576 := rfl
 have hl := g.1
 unfold YaQ.t YaQ.g
 rw [Ye.f_of (z0 := Ya3 l x y)]
 unfold Ye.t Ye.g
 refine iter_findI (n := l.length) _ some (by unfold Fuel at hk; omega) (fun L i hi => ?_) (fun L => by simp [Ye.l0,atR,rdQ,Q.ask])
 have hs : ∀ {x0 : Int} {x1 : BA} {x2 : Int} {x3 : Int} {x4 : Int} {x5 : Bool} {x6 : LD} {x7 : Int} {x8 : BA} {x9 : Int} {x10 : LD} {x11 : LD} {x12 : Int} {x13 : BA} {x14 : Int} {x15 : LD} {x16 : LD} {β : Type} (K : Bool → Option β),YaI.f k x0 x1 x2 x3 x4 x5 x6 x7 x8 x9 x10 x11 x12 x13 x14 x15 x16 x y K = K ((x0 == x) && Zae x1 y) := fun K => YaI.f_of (by unfold YaI.t YaI.g; rename_i x0 x1 _ _ _ _ _ _ _ _ _ _ _ _ _ _ _ _; cases (x0 == x) <;> rfl) K
 simp (disch := omega) only [Ye.l0,atR,rdQ,Q.ask,ZY (show (i : Int) < l.length by omega),cond_true,Ya.row g,Z4,Z5,ZaQ,ZaV,Zbl,Zan,hs,Z9]) K
theorem findO_lt {l : LD} {x : Int} {y : BA} (h : ¬ Ya3 l x y < 0) : ∃ n : Nat,Ya3 l x y = (n : Int) ∧ n < l.length := by
 unfold Ya3 at h ⊢
 obtain ⟨h1,-,h3,-⟩ := findI_some (p := fun i => (gI l (i : Int) 0 == x) && Zae (gS l (i : Int) 1) y) (n := l.length) (by omega)
 exact ⟨_,h3.symm,h1⟩
theorem mirror_v {a : Int} {l : LD} (g : ZB Ya lim l) : Yx.v a l = (inB a 0 1000000 && objsB l 1000000 a) := by
 have hk : Zai 1 (lv 1) := by unfold Zai lv; omega
 have hv := Yx.tv (aB := a) g hk
 unfold Yx.t Yx.g at hv
 rw [l1In_fv,l7Objs_fv g hk,show IntKind.wrap .i64 (1000001 - 1) = 1000000 from rfl] at hv
 cases hb : inB a 0 1000000 <;> rw [hb] at hv <;> injection hv with hv <;> exact hv.symm
theorem asc_of {l : LD} (h : ∀ (i : Nat) (hi : i + 1 < l.length),YaM l[i] l[i + 1] = true) : AscO l := by
 unfold AscO
 rw [List.pairwise_iff_getElem]
 intro i j hi hj hij
 obtain ⟨d,rfl⟩ : ∃ d,j = i + 1 + d := ⟨j - (i + 1),by omega⟩
 induction d with
 | zero => exact h i hj
 | succ d ih => exact orderR.trans _ _ _ (ih (by omega) (by omega)) (h (i + 1 + d) (by omega))
theorem Ya7 {a : Int} {l : LD} (g : ZB Ya lim l) (h : Yx.v a l = true) : AscO l ∧ l.length ≤ 60 ∧ 0 ≤ a ∧ a ≤ 1000000 := by
 rw [mirror_v g,Bool.and_eq_true] at h
 obtain ⟨h1,h2⟩ := h
 unfold inB at h1
 unfold objsB at h2
 rw [Bool.and_eq_true] at h1 h2
 obtain ⟨h2,h3⟩ := h2
 refine ⟨asc_of fun i hi => ?_,by have := of_decide_eq_true h3; omega,by simpa using h1.1,by simpa using h1.2⟩
 have hq := List.all_eq_true.mp h2 (i + 1) (by simpa using hi)
 unfold objsP at hq
 rw [Bool.and_eq_true,Bool.and_eq_true] at hq
 have hq := hq.2.1
 rw [ZY (show ((i + 1 : Nat) : Int) > 0 by omega),Bool.not_true,Bool.false_or,show ((i + 1 : Nat) : Int) - 1 = (i : Int) by omega] at hq
 rw [less_gR (by omega),← gR_lt hi]
 exact hq
def rB (r : List D) (j : Nat) : Bool := dB (r.getD j (.bool false))
noncomputable def rO (r : List D) : List D := [.int .i64 (rI r 2),.str (rS r 3),.int .i64 (rI r 4),.int .i64 (rI r 5),.int .i64 (rI r 6),.bool (rB r 7),.sl (rL r 8),.int .i64 (rI r 9),.str (rS r 10),.int .i64 (rI r 11),.sl (rL r 12),.sl (rL r 13),.int .i64 (rI r 14),.str (rS r 15),.int .i64 (rI r 16),.sl (rL r 17),.sl (rL r 18)]
def dropO (l : LD) (i : Int) : LD := l.take i.toNat ++ l.drop (i.toNat + 1)
noncomputable def stepF (rev : Int) (l : LD) (r : List D) : Option (Int × LD) :=
 bif rI r 0 != IntKind.wrap .i64 (rev + 1) then none else
 bif rB r 1 then (bif decide (Ya3 l (rI r 2) (rS r 3) < 0) then none else bif gI l (Ya3 l (rI r 2) (rS r 3)) 2 != rI r 4 then none else some (rI r 0,dropO l (Ya3 l (rI r 2) (rS r 3))))
 else some (rI r 0,YaV YaM YaZ (rO r) (rO r) false l)
noncomputable def stepV (rev : Int) (l : LD) (r : List D) : Option (Int × LD) :=
 match stepF rev l r with
 | none => none
 | some v => bif Yx.v v.1 v.2 then some v else none
noncomputable def YaW : Int → LD → LD → Option (Int × LD)
 | rev,l,[] => some (rev,l)
 | rev,l,r :: rs => match stepV rev l r with | none => none | some v => YaW v.1 v.2 rs
noncomputable def followV (a : Int) (l xs : LD) : Int × LD × Bool :=
 bif Yx.v a l then (match YaW a l xs with | some v => (v.1,v.2,true) | none => (a,l,false)) else (a,l,false)
theorem withF_mem {α : Type} {less same : α → α → Bool} {o o' : α} : ∀ {l : List α} {put : Bool} {x : α},x ∈ YaV less same o o' put l → x ∈ l ∨ x = o'
 | [],put,x,h => by
  rw [withF_nil] at h
  cases put
  ·exact .inr (by simpa using h)
  ·cases h
 | y :: ys,put,x,h => by
  unfold YaV at h
  rw [List.mem_append,List.mem_append] at h
  rcases h with h | h | h
  ·split at h
   ·exact .inr (by simpa using h)
   ·cases h
  ·split at h
   ·cases h
   ·exact .inl (by rw [List.mem_singleton] at h; rw [h]; exact List.mem_cons_self ..)
  ·rcases withF_mem h with h | h
   ·exact .inl (List.mem_cons_of_mem _ h)
   ·exact .inr h
theorem withF_len {α : Type} {less same : α → α → Bool} {o o' : α} : ∀ {l : List α} {put : Bool},(YaV less same o o' put l).length ≤ l.length + (bif put then 0 else 1)
 | [],put => by rw [withF_nil]; cases put <;> simp
 | y :: ys,put => by
  unfold YaV
  have ih := withF_len (less := less) (same := same) (o := o) (o' := o') (l := ys) (put := put || !less y o)
  rw [List.length_append,List.length_append,List.length_cons]
  generalize YaV less same o o' (put || !less y o) ys = w at *
  generalize less y o = b1 at *
  generalize same y o = b2 at *
  cases put <;> cases b1 <;> cases b2 <;> simp at ih ⊢ <;> omega
theorem rO_ok {B : Nat} {r : List D} (h : Yb B r) : Ya B (rO r) := by
 obtain ⟨c0,c1,c2,c3,c4,c5,c6,c7,c8,c9,c10,c11,c12,c13,c14,c15,c16,c17,c18,rfl,k0,k2,k3,k4,k5,k6,k8,k9,k10,k11,k12,k13,k14,k15,k16,k17,k18,_⟩ := h
 exact ⟨c2,c3,c4,c5,c6,c7,c8,c9,c10,c11,c12,c13,c14,c15,c16,c17,c18,rfl,k2,k3,k4,k5,k6,k8,k9,k10,k11,k12,k13,k14,k15,k16,k17,k18,trivial⟩
theorem stepF_ok {rev : Int} {l : LD} {r : List D} {v : Int × LD} (g : ZB Ya lim l) (h60 : l.length ≤ 60) (hr : Yb lim r) (h : stepF rev l r = some v) : ZB Ya lim v.2 := by
 have hlim : lim = 1048576 := rfl
 unfold stepF at h
 cases hs : (rI r 0 != IntKind.wrap .i64 (rev + 1)) <;> rw [hs] at h
 ·simp only [cond_false] at h
  cases hb : rB r 1 <;> rw [hb] at h
  ·simp only [cond_false] at h
   injection h with h
   subst h
   have := withF_len (less := YaM) (same := YaZ) (o := rO r) (o' := rO r) (l := l) (put := false)
   simp only [cond_false] at this
   refine ⟨by show (YaV _ _ _ _ _ _).length ≤ _; omega,fun x hx => ?_⟩
   rcases withF_mem hx with hx | hx
   ·exact g.2 x hx
   ·rw [hx]; exact rO_ok hr
  ·simp only [cond_true] at h
   cases hf : decide (Ya3 l (rI r 2) (rS r 3) < 0) <;> rw [hf] at h
   ·simp only [cond_false] at h
    cases hq : (gI l (Ya3 l (rI r 2) (rS r 3)) 2 != rI r 4) <;> rw [hq] at h
    ·simp only [cond_false] at h
     injection h with h
     subst h
     unfold dropO
     refine ⟨by rw [List.length_append,List.length_take,List.length_drop]; omega,fun x hx => ?_⟩
     rcases List.mem_append.mp hx with hx | hx
     ·exact g.2 x (List.mem_of_mem_take hx)
     ·exact g.2 x (List.mem_of_mem_drop hx)
    ·cases h
   ·cases h
 ·cases h
theorem Y8.f_of {β : Type} {k aB aA aM aN aU aO bF bH bI bJ bK bL bM bN bO bP bQ bR bT a1_17 a1_18 z0 z1 z2} (h : Y8.t k aB aA aM aN aU aO bF bH bI bJ bK bL bM bN bO bP bQ bR bT a1_17 a1_18 = some (z0,z1,z2)) (K : Bool → Int → LC → Option β) : Y8.f k aB aA aM aN aU aO bF bH bI bJ bK bL bM bN bO bP bQ bR bT a1_17 a1_18 K = K z0 z1 z2 := by unfold Y8.f; rw [h]; rfl
theorem deepRows_at : ∀ {xs : LD} {i : Nat},(Zc xs)[i]? = (xs[i]?).map ZN
 | [],i => by simp only [Zc,List.getElem?_nil,Option.map_none]
 | r :: xs,0 => by simp only [Zc,List.getElem?_cons_zero,Option.map_some]
 | r :: xs,i + 1 => by simp only [Zc,List.getElem?_cons_succ,deepRows_at]
theorem atNat_deepF {β : Type} {xs : LD} {i : Nat} (hi : i < xs.length) (F : List C → Option β) : ZaR (Zc xs) i F = F (ZN xs[i]) := by
 unfold ZaR
 rw [deepRows_at,List.getElem?_eq_getElem hi]
 rfl
set_option maxRecDepth 100000 in
set_option maxHeartbeats 4000000 in
theorem follow_fv {rev : Int} {l : LD} (g : ZB Ya lim l) (ha : AscO l) {s : Int} {gone : Bool} {x0 : Int} {x1 : BA} {x2 x3 x4 : Int} {x5 : Bool} {x6 : LD} {x7 : Int} {x8 : BA} {x9 : Int} {x10 x11 : LD} {x12 : Int} {x13 : BA} {x14 : Int} {x15 x16 : LD} (g6 : ZB RS lim x6) (g10 : ZB RS lim x10) (g11 : ZB Yq lim x11) (g15 : ZB RS lim x15) (g16 : ZB Yq lim x16) {k : Nat} (hk : Zai 1 k) {r : List D} (hr : r = [.int .i64 s,.bool gone,.int .i64 x0,.str x1,.int .i64 x2,.int .i64 x3,.int .i64 x4,.bool x5,.sl x6,.int .i64 x7,.str x8,.int .i64 x9,.sl x10,.sl x11,.int .i64 x12,.str x13,.int .i64 x14,.sl x15,.sl x16]) :
  match stepF rev l r with
  | none => ∃ p q,Y8.t k rev (Zc l) s gone x0 x1 x2 x3 x4 x5 x6 x7 x8 x9 x10 x11 x12 x13 x14 x15 x16 = some (false,p,q)
  | some v => Y8.t k rev (Zc l) s gone x0 x1 x2 x3 x4 x5 x6 x7 x8 x9 x10 x11 x12 x13 x14 x15 x16 = some (true,v.1,Zc v.2) := by
 have hlim : lim = 1048576 := rfl
 have hl := g.1
 have hdl := ZS l
 have e0 : rI r 0 = s := by rw [hr]; rfl
 have e1 : rB r 1 = gone := by rw [hr]; rfl
 have e2 : rI r 2 = x0 := by rw [hr]; rfl
 have e3 : rS r 3 = x1 := by rw [hr]; rfl
 have e4 : rI r 4 = x2 := by rw [hr]; rfl
 have eo : rO r = [.int .i64 x0,.str x1,.int .i64 x2,.int .i64 x3,.int .i64 x4,.bool x5,.sl x6,.int .i64 x7,.str x8,.int .i64 x9,.sl x10,.sl x11,.int .i64 x12,.str x13,.int .i64 x14,.sl x15,.sl x16] := by rw [hr]; rfl
 unfold Y8.t Y8.g stepF
 rw [e0,e1,e2,e3,e4,eo]
 by_cases hs : s = IntKind.wrap .i64 (rev + 1)
 ·have hs2 : (s != IntKind.wrap .i64 (rev + 1)) = false := by simp [hs]
  rw [hs2]
  simp only [cond_false]
  rw [← hs]
  cases gone with
  | false =>
   simp only [Bool.not_false,cond_true,cond_false]
   rw [placed_fv g ha g6 g10 g11 g15 g16 hk]
  | true =>
   simp only [Bool.not_true,cond_true,cond_false]
   rw [ZK,objAt_fv g (up0 hk)]
   by_cases hf : Ya3 l x0 x1 < 0
   ·simp only [ZY hf,cond_true]
    exact ⟨_,_,rfl⟩
   ·obtain ⟨n,hn,hnl⟩ := findO_lt hf
    rw [ZZ hf]
    simp only [cond_false]
    rw [hn]
    obtain ⟨hrow,-⟩ := Ya.gets g.2 (v := (n : Int)) (by omega) (by omega)
    rw [gR_lt hnl] at hrow
    rw [ZH (by omega),Int.toNat_natCast,atNat_deepF hnl,hrow]
    simp only [ZN,deepD,List.drop_succ_cons,List.drop_zero,Z4,cD,Z5]
    cases hq : (gI l (n : Int) 2 != x2)
    ·simp only [cond_false]
     unfold YP.f YP.t dropO
     rw [Z9 (x := (n : Int) + 1) (by omega) (by omega),ZH (by omega),Int.toNat_natCast,show ((n : Int) + 1).toNat = n + 1 by omega,Ybe,Ybf,← Zbb]
    ·simp only [cond_true]
     exact ⟨_,_,rfl⟩
 ·have hs2 : (s != IntKind.wrap .i64 (rev + 1)) = true := by simp [hs]
  rw [hs2]
  simp only [cond_true]
  exact ⟨_,_,rfl⟩
theorem Y7.f_of {β : Type} {k aB aA a1 z0 z1 z2} (h : Y7.t k aB aA a1 = some (z0,z1,z2)) (K : Int → LC → Bool → Option β) : Y7.f k aB aA a1 K = K z0 z1 z2 := by unfold Y7.f; rw [h]; rfl
theorem drop_cons_g {xs : LD} {i : Nat} (hi : i < xs.length) : xs.drop i = gR xs (i : Int) :: xs.drop (i + 1) := by
 rw [gR_lt hi]
 exact List.drop_eq_getElem_cons hi
theorem mirrorI_fv {a : Int} {l : LD} (g : ZB Ya lim l) {k : Nat} (hk : Zai 1 k) {β : Type} (K : Bool → Option β) : Yap.f k a l K = K (Yx.v a l) := Yap.f_of (by rw [Yap.same g hk]; exact Yx.tv g hk) K
theorem Ya9 {a : Int} {l : LD} (g : ZB Ya lim l) {k : Nat} (hk : Zai 1 k) {β : Type} (K : Int → LC → Option β) : Yaf.f k a l K = K a (Zc l) := Yaf.f_of (by unfold Yaf.t Yaf.g; rw [copyObjs_fv g hk]) K
theorem l8Mirror_fv {a : Int} {l : LD} (g : ZB Ya lim l) {k : Nat} (hk : Zai 1 k) {β : Type} (K : Int → LC → Option β) : Yah.f k a l K = K a (Zc l) := Yah.f_of (by unfold Yah.t Yah.g; rw [l7CopyObjs_fv g hk]) K
noncomputable def endV (a : Int) (l : LD) (o : Option (Int × LD)) : Int × LC × Bool := match o with | some v => (v.1,Zc v.2,true) | none => (a,Zc l,false)
noncomputable def endD (a : Int) (l : LD) (o : Option (Int × LD)) : Int × LD × Bool := match o with | some v => (v.1,v.2,true) | none => (a,l,false)
set_option maxRecDepth 100000 in
set_option maxHeartbeats 4000000 in
theorem impl_Follow_t {a : Int} {l xs : LD} (g : ZB Ya lim l) (gx : ZB Yb lim xs) {k : Nat} (hk : Zai 1 k) :
  Y7.t k a l xs = some (bif Yx.v a l then endV a l (YaW a l xs) else (a,Zc l,false)) := by
 have hlim : lim = 1048576 := rfl
 have hb : big = 2 ^ 64 := rfl
 have hk0 : Fuel k := up0 hk
 have hx := gx.1
 unfold Y7.t Y7.g
 rw [mirrorI_fv g hk]
 cases hm : Yx.v a l
 ·simp only [Bool.not_false,cond_true,cond_false]
  rw [Ya9 g hk]
 simp only [Bool.not_true,cond_true,cond_false]
 rw [Ya9 g hk]
 obtain ⟨asc,l60,-,-⟩ := Ya7 g hm
 refine Eq.trans (iter_val (fun v : Int × Int × LC => xs.length - v.1.toNat) (fun v => 0 ≤ v.1 ∧ v.1 ≤ (xs.length : Int) ∧ ∃ l',v.2.2 = Zc l' ∧ ZB Ya lim l' ∧ AscO l' ∧ l'.length ≤ 60) (fun v => some (endV a l (YaW v.2.1 (C.immRows v.2.2) (xs.drop v.1.toNat)))) ?_ k (0,a,Zc l) ⟨by simp,by simp,l,rfl,g,asc,l60⟩ (by unfold Fuel at hk0; show xs.length - (0 : Int).toNat < k; omega)) (by
  show some (endV a l (YaW a (C.immRows (Zc l)) (xs.drop 0))) = _
  rw [ZK,List.drop_zero])
 rintro ⟨n,rev,cl⟩ ⟨n0,n1,l',e,gl,al,ll⟩ L hL
 replace n0 : 0 ≤ n := n0
 obtain ⟨i,rfl⟩ : ∃ i : Nat,n = (i : Int) := ⟨n.toNat,by omega⟩
 replace n1 : (i : Int) ≤ (xs.length : Int) := n1
 replace e : cl = Zc l' := e
 subst e
 simp only [ZK,Int.toNat_natCast]
 by_cases hi : i < xs.length
 ·obtain ⟨hrow,k0,k2,k3,k4,k5,k6,k8,k9,k10,k11,k12,k13,k14,k15,k16,k17,k18,-⟩ := Yb.get gx (v := (i : Int)) (by omega) (by omega)
  have hmem : Yb lim (gR xs (i : Int)) := gx.2 _ (gR_mem (by omega) (by omega))
  have hf := follow_fv (rev := rev) gl al k8 k12 k13 k17 k18 hk hrow
  rw [drop_cons_g hi]
  unfold YaW stepV
  simp (disch := omega) only [Y7.l0,atR,rdQ,Q.ask,ZY (show (i : Int) < (xs.length : Int) by omega),cond_true,Yb.row gx,Z4,Z5,ZaQ,ZaV,Zbl,Zan]
  cases hs : stepF rev l' (gR xs (i : Int)) with
  | none =>
   rw [hs] at hf
   obtain ⟨p,q,hf⟩ := hf
   rw [Y8.f_of hf]
   simp only [Bool.not_false,cond_true]
   rw [Ya9 g hk]
   rfl
  | some v =>
   rw [hs] at hf
   have g2 := stepF_ok gl ll hmem hs
   rw [Y8.f_of hf]
   simp only [Bool.not_true,cond_false,ZK]
   rw [mirrorI_fv g2 hk]
   cases hv : Yx.v v.1 v.2 with
   | false =>
    simp only [Bool.not_false,cond_true,cond_false]
    rw [Ya9 g hk]
    rfl
   | true =>
    obtain ⟨a2,l2,-,-⟩ := Ya7 g2 hv
    simp only [Bool.not_true,cond_false,cond_true]
    rw [Z9 (x := (i : Int) + 1) (by omega) (by omega)]
    rw [hL ((i : Int) + 1,v.1,Zc v.2) ⟨by show 0 ≤ (i : Int) + 1; omega,by show (i : Int) + 1 ≤ _; omega,v.2,rfl,g2,a2,l2⟩ (by show xs.length - ((i : Int) + 1).toNat < xs.length - (i : Int).toNat; omega)]
    simp only [ZK,show ((i : Int) + 1).toNat = i + 1 by omega]
 ·rw [List.drop_eq_nil_of_le (by omega)]
  simp only [Y7.l0,atR,rdQ,Q.ask,ZZ (show ¬ (i : Int) < (xs.length : Int) by omega),cond_false]
  unfold YaW endV
  rfl
theorem rows17 {B : Nat} {l : LD} (g : ∀ r ∈ l,Ya B r) : Zbk 17 l := fun r hr => by
 obtain ⟨c0,c1,c2,c3,c4,c5,c6,c7,c8,c9,c10,c11,c12,c13,c14,c15,c16,rfl,-⟩ := (g r hr).open
 rfl
set_option maxRecDepth 100000 in
set_option maxHeartbeats 8000000 in
theorem spec_Follow_t {a : Int} {l xs : LD} (g : ZB Ya lim l) (gx : ZB Yb lim xs) {k : Nat} (hk : Zai 1 k) :
  Y5.t k a l xs = some (bif Yx.v a l then endD a l (YaW a l xs) else (a,l,false)) := by
 have hlim : lim = 1048576 := rfl
 have hb : big = 2 ^ 64 := rfl
 have hmost : Z8 = 2 ^ 36 := rfl
 have hk0 : Fuel k := up0 hk
 have hx := gx.1
 unfold Y5.t Y5.g
 rw [l8Mirror_fv g hk,Yx.fv g hk]
 cases hm : Yx.v a l
 ·simp only [Bool.not_false,cond_true,cond_false,ZK]
 simp only [Bool.not_true,cond_true,cond_false,ZK]
 obtain ⟨asc,l60,-,-⟩ := Ya7 g hm
 refine iter_val (fun v : Int × Int × LD => xs.length - v.1.toNat) (fun v => 0 ≤ v.1 ∧ v.1 ≤ (xs.length : Int) ∧ ZB Ya lim v.2.2 ∧ AscO v.2.2 ∧ v.2.2.length ≤ 60) (fun v => some (endD a l (YaW v.2.1 v.2.2 (xs.drop v.1.toNat)))) ?_ k (0,a,l) ⟨by simp,by simp,g,asc,l60⟩ (by unfold Fuel at hk0; show xs.length - (0 : Int).toNat < k; omega)
 rintro ⟨n,rev,l'⟩ ⟨n0,n1,gl,al,ll⟩ L hL
 replace n0 : 0 ≤ n := n0
 obtain ⟨i,rfl⟩ : ∃ i : Nat,n = (i : Int) := ⟨n.toNat,by omega⟩
 replace n1 : (i : Int) ≤ (xs.length : Int) := n1
 replace gl : ZB Ya lim l' := gl
 replace al : AscO l' := al
 replace ll : l'.length ≤ 60 := ll
 simp only [Int.toNat_natCast]
 by_cases hi : i < xs.length
 ·obtain ⟨hrow,k0,k2,k3,k4,k5,k6,k8,k9,k10,k11,k12,k13,k14,k15,k16,k17,k18,-⟩ := Yb.get gx (v := (i : Int)) (by omega) (by omega)
  have hmem : Yb lim (gR xs (i : Int)) := gx.2 _ (gR_mem (by omega) (by omega))
  have fail : Yah.f k a l (fun y600 y601 => some (y600,C.immRows y601,false)) = some (a,l,false) := by rw [l8Mirror_fv g hk,ZK]
  have tail : ∀ (o : LD) (F : Option (Int × LD × Bool)),stepF rev l' (gR xs (i : Int)) = some (gI xs (i : Int) 0,o) → F = some (a,l,false) → Yx.f k (gI xs (i : Int) 0) o (fun y => bif !y then F else L ((i : Int) + 1,gI xs (i : Int) 0,o)) = some (endD a l (YaW rev l' (gR xs (i : Int) :: xs.drop (i + 1)))) := fun o F hs hF => by
   have g2 := stepF_ok gl ll hmem hs
   replace g2 : ZB Ya lim o := g2
   rw [Yx.fv g2 hk]
   unfold YaW stepV
   rw [hs]
   simp only []
   cases hv : Yx.v (gI xs (i : Int) 0) o with
   | false => simp only [Bool.not_false,cond_true,cond_false]; rw [hF]; rfl
   | true =>
    obtain ⟨a2,l2,-,-⟩ := Ya7 g2 hv
    simp only [Bool.not_true,cond_true,cond_false]
    rw [hL ((i : Int) + 1,gI xs (i : Int) 0,o) ⟨by show 0 ≤ (i : Int) + 1; omega,by show (i : Int) + 1 ≤ _; omega,g2,a2,l2⟩ (by show xs.length - ((i : Int) + 1).toNat < xs.length - (i : Int).toNat; omega)]
    simp only [show ((i : Int) + 1).toNat = i + 1 by omega]
  have none' : stepF rev l' (gR xs (i : Int)) = none → some (a,l,false) = some (endD a l (YaW rev l' (gR xs (i : Int) :: xs.drop (i + 1)))) := fun hs => by
   unfold YaW stepV
   rw [hs]
   rfl
  have hst : stepF rev l' (gR xs (i : Int)) = bif gI xs (i : Int) 0 != IntKind.wrap .i64 (rev + 1) then none else
   bif gB xs (i : Int) 1 then (bif decide (Ya3 l' (gI xs (i : Int) 2) (gS xs (i : Int) 3) < 0) then none else bif gI l' (Ya3 l' (gI xs (i : Int) 2) (gS xs (i : Int) 3)) 2 != gI xs (i : Int) 4 then none else some (gI xs (i : Int) 0,dropO l' (Ya3 l' (gI xs (i : Int) 2) (gS xs (i : Int) 3))))
   else some (gI xs (i : Int) 0,YaV YaM YaZ (rO (gR xs (i : Int))) (rO (gR xs (i : Int))) false l') := rfl
  have hw1 : IntKind.wrap .i64 ((i : Int) + 1) = (i : Int) + 1 := Z9 (by omega) (by omega)
  rw [drop_cons_g hi]
  simp (config := {maxSteps := 4000000}) (disch := omega) only [Y5.l0,atR,rdQ,Q.ask,ZY (show (i : Int) < (xs.length : Int) by omega),cond_true,Yb.row gx,Z4,Z5,ZaQ,ZaV,Zbl,Zan,l7Find_fv gl hk0,hw1,fail]
  cases hs : (gI xs (i : Int) 0 != IntKind.wrap .i64 (rev + 1)) with
  | true =>
   rw [hs] at hst
   exact none' hst
  | false =>
   rw [hs] at hst
   cases hg : gB xs (i : Int) 1 with
   | false =>
    rw [hg] at hst
    simp only [cond_false] at hst ⊢
    obtain ⟨ys,hy1,hy2⟩ := l7With_fv gl (x0 := gI xs (i : Int) 2) (x1 := gS xs (i : Int) 3) (x2 := gI xs (i : Int) 4) (x3 := gI xs (i : Int) 5) (x4 := gI xs (i : Int) 6) (x5 := gB xs (i : Int) 7) (x7 := gI xs (i : Int) 9) (x8 := gS xs (i : Int) 10) (x9 := gI xs (i : Int) 11) (x12 := gI xs (i : Int) 14) (x13 := gS xs (i : Int) 15) (x14 := gI xs (i : Int) 16) k8 k12 k13 k17 k18 hk
    rw [Y3.f_of hy1,hy2]
    exact tail _ _ hst rfl
   | true =>
    rw [hg] at hst
    simp only [cond_true,cond_false] at hst ⊢
    by_cases hf : Ya3 l' (gI xs (i : Int) 2) (gS xs (i : Int) 3) < 0
    ·rw [ZY hf] at hst ⊢
     exact none' hst
    ·obtain ⟨n,hn,hnl⟩ := findO_lt hf
     rw [ZZ hf] at hst ⊢
     simp only [cond_false] at hst ⊢
     rw [hn] at hst ⊢
     simp (config := {maxSteps := 4000000}) (disch := omega) only [Ya.row gl,Z4,Z5,ZaQ,ZaV,Zbl,Zan]
     cases hq : (gI l' (n : Int) 2 != gI xs (i : Int) 4) with
     | true =>
      rw [hq] at hst
      exact none' hst
     | false =>
      rw [hq] at hst
      simp only [cond_false] at hst ⊢
      have w : IntKind.wrap .i64 ((n : Int) + 1) = (n : Int) + 1 := Z9 (by omega) (by omega)
      have t1 : (l'.drop (Int.toNat ((n : Int) + 1))).take (Int.toNat (l'.length : Int) - Int.toNat ((n : Int) + 1)) = l'.drop (n + 1) := by
       rw [show Int.toNat ((n : Int) + 1) = n + 1 by omega,Int.toNat_natCast,List.take_of_length_le (by rw [List.length_drop]; omega)]
      have t2 : (l'.drop (Int.toNat 0)).take (Int.toNat (n : Int) - Int.toNat 0) = l'.take n := by
       simp only [Int.toNat_natCast,Int.toNat_zero,List.drop_zero,Nat.sub_zero]
      have r1 : Zbk 17 l' := rows17 gl.2
      have r2 : Zbk 17 (l'.take n) := fun r hr => r1 r (List.mem_of_mem_take hr)
      have r3 : Zbk 17 (l'.drop (n + 1)) := fun r hr => r1 r (List.mem_of_mem_drop hr)
      have im : C.immRows (([] ++ (l'.take n).map (·.map C.d)) ++ (l'.drop (n + 1)).map (·.map C.d)) = dropO l' (n : Int) := by
       rw [List.nil_append,← List.map_append,imm_rows]
       rfl
      rw [w,t1,t2,im]
      have m1 : (l'.take n).length ≤ 60 := by rw [List.length_take]; omega
      have m2 : (l'.drop (n + 1)).length ≤ 60 := by rw [List.length_drop]; omega
      rw [ZH ⟨by omega,by omega,by omega,r1⟩,ZH r2,ZH (by rw [List.length_nil,List.length_map]; omega),ZH ⟨by omega,by omega,by omega,r1⟩,ZH r3,ZH (by rw [List.nil_append,List.length_map,List.length_map]; omega)]
      exact tail _ _ hst rfl
 ·rw [List.drop_eq_nil_of_le (by omega)]
  simp only [Y5.l0,atR,rdQ,Q.ask,ZZ (show ¬ (i : Int) < (xs.length : Int) by omega),cond_false]
  unfold YaW endD
  rfl
theorem wt_with {less same : List D → List D → Bool} {o o' : List D} : ∀ {l : LD} {put : Bool},Zu (YaV less same o o' put l) ≤ Zu l + (bif put then 0 else ZbY o')
 | [],put => by rw [withF_nil]; cases put <;> simp [Zu]
 | y :: ys,put => by
  unfold YaV
  have ih := wt_with (less := less) (same := same) (o := o) (o' := o') (l := ys) (put := put || !less y o)
  rw [Zbe,Zbe]
  generalize YaV less same o o' (put || !less y o) ys = w at *
  generalize less y o = b1 at *
  generalize same y o = b2 at *
  cases put <;> cases b1 <;> cases b2 <;> simp [Zu] at ih ⊢ <;> omega
theorem wt_cut : ∀ {l : LD} {n : Nat},Zu (l.take n) + Zu (l.drop (n + 1)) ≤ Zu l
 | [],n => by simp [Zu]
 | r :: xs,0 => by simp only [List.take_zero,List.drop_succ_cons,List.drop_zero,Zu]; omega
 | r :: xs,n + 1 => by
  have := wt_cut (l := xs) (n := n)
  simp only [List.take_succ_cons,List.drop_succ_cons,Zu]; omega
theorem wt_rO {B : Nat} {r : List D} (h : Yb B r) : ZbY (rO r) ≤ ZbY r := by
 obtain ⟨c0,c1,c2,c3,c4,c5,c6,c7,c8,c9,c10,c11,c12,c13,c14,c15,c16,c17,c18,rfl,-⟩ := h
 show ZbY [.int .i64 c2,.str c3,.int .i64 c4,.int .i64 c5,.int .i64 c6,.bool c7,.sl c8,.int .i64 c9,.str c10,.int .i64 c11,.sl c12,.sl c13,.int .i64 c14,.str c15,.int .i64 c16,.sl c17,.sl c18] ≤ ZbY (.int .i64 c0 :: .bool c1 :: [.int .i64 c2,.str c3,.int .i64 c4,.int .i64 c5,.int .i64 c6,.bool c7,.sl c8,.int .i64 c9,.str c10,.int .i64 c11,.sl c12,.sl c13,.int .i64 c14,.str c15,.int .i64 c16,.sl c17,.sl c18])
 generalize ([.int .i64 c2,.str c3,.int .i64 c4,.int .i64 c5,.int .i64 c6,.bool c7,.sl c8,.int .i64 c9,.str c10,.int .i64 c11,.sl c12,.sl c13,.int .i64 c14,.str c15,.int .i64 c16,.sl c17,.sl c18] : List D) = q
 simp only [ZbY]
 omega
theorem stepF_wt {rev : Int} {l : LD} {r : List D} {v : Int × LD} (hr : Yb lim r) (h : stepF rev l r = some v) : Zu v.2 ≤ Zu l + ZbY r := by
 unfold stepF at h
 cases hs : (rI r 0 != IntKind.wrap .i64 (rev + 1)) <;> rw [hs] at h
 ·simp only [cond_false] at h
  cases hb : rB r 1 <;> rw [hb] at h
  ·simp only [cond_false] at h
   injection h with h
   subst h
   have := wt_with (less := YaM) (same := YaZ) (o := rO r) (o' := rO r) (l := l) (put := false)
   have := wt_rO hr
   simp only [cond_false] at *
   omega
  ·simp only [cond_true] at h
   cases hf : decide (Ya3 l (rI r 2) (rS r 3) < 0) <;> rw [hf] at h
   ·simp only [cond_false] at h
    cases hq : (gI l (Ya3 l (rI r 2) (rS r 3)) 2 != rI r 4) <;> rw [hq] at h
    ·simp only [cond_false] at h
     injection h with h
     subst h
     unfold dropO
     have := wt_cut (l := l) (n := (Ya3 l (rI r 2) (rS r 3)).toNat)
     rw [Zbe]
     omega
    ·cases h
   ·cases h
 ·cases h
theorem followL_ok : ∀ {xs : LD} {rev : Int} {l : LD} {v : Int × LD},ZB Ya lim l → l.length ≤ 60 → (∀ r ∈ xs,Yb lim r) → YaW rev l xs = some v → ZB Ya lim v.2 ∧ Zu v.2 ≤ Zu l + Zu xs
 | [],rev,l,v,g,_,_,h => by
  unfold YaW at h
  injection h with h
  subst h
  exact ⟨g,by simp [Zu]⟩
 | r :: xs,rev,l,v,g,h60,gx,h => by
  unfold YaW stepV at h
  cases hs : stepF rev l r with
  | none => rw [hs] at h; cases h
  | some u =>
   have g2 := stepF_ok g h60 (gx r (List.mem_cons_self ..)) hs
   have w2 := stepF_wt (gx r (List.mem_cons_self ..)) hs
   rw [hs] at h
   simp only [] at h
   cases hm : Yx.v u.1 u.2 <;> rw [hm] at h
   ·cases h
   ·obtain ⟨-,l2,-,-⟩ := Ya7 g2 hm
    obtain ⟨q1,q2⟩ := followL_ok g2 l2 (fun r hr => gx r (List.mem_cons_of_mem _ hr)) h
    exact ⟨q1,by simp only [Zu]; omega⟩
theorem Yau.tm {ι α : Type} {ok : ι → Prop} {ψ : α → Prop} {p : ι → Nat} {B : Nat} (hp : ∀ i,ok i → B ≤ p i) {aB aA aM aN aU aO φ} (h : Tm (fun k => B ≤ k) (fun k => Yau.t k aB aA aM aN aU aO) φ) {G : ι → Int → LC → Bool → Option α} (hG : ∀ z0 z1 z2,φ (z0,z1,z2) → Tm ok (fun i => G i z0 z1 z2) ψ) : Tm ok (fun i => Yau.f (p i) aB aA aM aN aU aO (G i)) ψ := bd3_tm (t := fun k => Yau.t k aB aA aM aN aU aO) hp h hG
noncomputable def folV (a : Int) (l xs : LD) : Int × LD × Bool := bif Yx.v a l then endD a l (YaW a l xs) else (a,l,false)
theorem impl_Follow_v {a : Int} {l xs : LD} (g : ZB Ya lim l) (gx : ZB Yb lim xs) {k : Nat} (hk : Zai 1 k) : Y7.t k a l xs = some ((folV a l xs).1,Zc (folV a l xs).2.1,(folV a l xs).2.2) := by
 rw [impl_Follow_t g gx hk]
 unfold folV endV endD
 cases Yx.v a l
 ·rfl
 ·cases YaW a l xs <;> rfl
theorem folV_ok {a : Int} {l xs : LD} (g : ZB Ya lim l) (gx : ZB Yb lim xs) : ZB Ya lim (folV a l xs).2.1 ∧ Zu (folV a l xs).2.1 ≤ Zu l + Zu xs := by
 have hn : ZB Ya lim l ∧ Zu l ≤ Zu l + Zu xs := ⟨g,by omega⟩
 unfold folV
 cases hm : Yx.v a l
 ·exact hn
 ·obtain ⟨-,l60,-,-⟩ := Ya7 g hm
  unfold endD
  cases hf : YaW a l xs with
  | none => exact hn
  | some v => exact followL_ok g l60 gx.2 hf
theorem sinceV_ok {a : LD} {b c n : Int} {d : LD} (g : ZB Yb lim d) : ZB Yb lim (C.immRows (YaX a b c d n).1) ∧ Zu (C.immRows (YaX a b c d n).1) ≤ Zu d := by
 have hn : ZB Yb lim (C.immRows ([] : LC)) ∧ Zu (C.immRows ([] : LC)) ≤ Zu d := ⟨⟨Nat.zero_le _,fun r hr => by cases hr⟩,Nat.zero_le _⟩
 unfold YaX
 cases Yv.v a b c d && inB n 0 b
 ·exact hn
 simp only [cond_true]
 cases decide (((Ya6 d n).length : Int) < IntKind.wrap .i64 (b - n))
 ·simp only [cond_false,ZK]
  exact ⟨sinceL_ok g,wt_filter _ _⟩
 ·exact hn
theorem listV_deep {a : LD} {b c : Int} {d : LD} : Zc (C.immRows (listV a b c d).2) = (listV a b c d).2 := by
 unfold listV
 cases Yv.v a b c d
 ·rfl
 ·simp only [cond_true,ZK]
theorem listV_ok {a : LD} {b c : Int} {d : LD} (g : ZB Ya lim a) : ZB Ya lim (C.immRows (listV a b c d).2) ∧ Zu (C.immRows (listV a b c d).2) ≤ Zu a := by
 unfold listV
 cases Yv.v a b c d
 ·exact ⟨⟨Nat.zero_le _,fun r hr => by cases hr⟩,Nat.zero_le _⟩
 ·simp only [cond_true,ZK]
  exact ⟨g,Nat.le_refl _⟩
noncomputable def catchV (a : Int) (l b0 : LD) (b1 b2 : Int) (d : LD) : Int × LD × Bool :=
 bif (YaX b0 b1 b2 d a).2 && (folV a l (C.immRows (YaX b0 b1 b2 d a).1)).2.2 then ((folV a l (C.immRows (YaX b0 b1 b2 d a).1)).1,(folV a l (C.immRows (YaX b0 b1 b2 d a).1)).2.1,true) else ((listV b0 b1 b2 d).1,C.immRows (listV b0 b1 b2 d).2,false)
theorem spec_CatchUp_t {a : Int} {l b0 : LD} {b1 b2 : Int} {d : LD} (g : ZB Ya lim l) (g0 : ZB Ya lim b0) (gd : ZB Yb lim d) {k : Nat} (hk : Zai 1 k) : YaC.t k a l b0 b1 b2 d = some (catchV a l b0 b1 b2 d) := by
 have ft : Y5.t k a l (C.immRows (YaX b0 b1 b2 d a).1) = some ((folV a l (C.immRows (YaX b0 b1 b2 d a).1)).1,(folV a l (C.immRows (YaX b0 b1 b2 d a).1)).2.1,(folV a l (C.immRows (YaX b0 b1 b2 d a).1)).2.2) := spec_Follow_t (a := a) g (sinceV_ok (a := b0) (b := b1) (c := b2) (n := a) gd).1 hk
 have st : Yag.t k b0 b1 b2 d a = some ((YaX b0 b1 b2 d a).1,(YaX b0 b1 b2 d a).2) := spec_Since_t g0 gd hk
 have lt : YaR.t k b0 b1 b2 d = some ((listV b0 b1 b2 d).1,(listV b0 b1 b2 d).2) := spec_List_t g0 gd hk
 unfold YaC.t YaC.g catchV
 simp only [Yag.f_of st,Y5.f_of ft,YaR.f_of lt]
 cases (YaX b0 b1 b2 d a).2
 ·rfl
 ·cases (folV a l (C.immRows (YaX b0 b1 b2 d a).1)).2.2 <;> rfl
theorem impl_CatchUp_t {a : Int} {l b0 : LD} {b1 b2 : Int} {d : LD} (g : ZB Ya lim l) (g0 : ZB Ya lim b0) (gd : ZB Yb lim d) {k : Nat} (hk : Zai 1 k) : Yau.t k a l b0 b1 b2 d = some ((catchV a l b0 b1 b2 d).1,Zc (catchV a l b0 b1 b2 d).2.1,(catchV a l b0 b1 b2 d).2.2) := by
 have ft := impl_Follow_v (a := a) g (sinceV_ok (a := b0) (b := b1) (c := b2) (n := a) gd).1 hk
 have hl := listV_deep (a := b0) (b := b1) (c := b2) (d := d)
 have st : YaP.t k b0 b1 b2 d a = some ((YaX b0 b1 b2 d a).1,(YaX b0 b1 b2 d a).2) := impl_Since_t g0 gd hk
 have lt : YaS.t k b0 b1 b2 d = some ((listV b0 b1 b2 d).1,(listV b0 b1 b2 d).2) := impl_List_t g0 gd hk
 unfold Yau.t Yau.g catchV
 simp only [YaP.f_of st,Y7.f_of ft,YaS.f_of lt]
 cases (YaX b0 b1 b2 d a).2
 ·simp only [Bool.not_false,cond_true,cond_false,Bool.false_and,hl]
 ·cases (folV a l (C.immRows (YaX b0 b1 b2 d a).1)).2.2
  ·simp only [Bool.not_false,Bool.not_true,cond_true,cond_false,Bool.and_false,hl]
  ·simp only [Bool.not_true,cond_true,cond_false,Bool.and_true]
theorem YaC.T {aB : Int} {aA aM : LD} {aN aU : Int} {aO : LD} (_ : (Lit.int .i64 aB).wf = true) (g : ZB Ya lim aA) (g0 : ZB Ya lim aM) (_ : (Lit.int .i64 aN).wf = true) (_ : (Lit.int .i64 aU).wf = true) (gd : ZB Yb lim aO) (w : Zu aA ≤ 67108864) (w0 : Zu aM ≤ 67108864) (wd : Zu aO ≤ 67108864) :
  Tm (Zai 1) (fun k => YaC.t k aB aA aM aN aU aO) (fun z => ZB Ya 2097152 z.2.1 ∧ Zu z.2.1 ≤ 1125899906842624 ∧ True) := by
 refine Tm.of (fun k hk => spec_CatchUp_t g g0 gd hk) ?_
 obtain ⟨s1,s2⟩ := sinceV_ok (a := aM) (b := aN) (c := aU) (n := aB) gd
 obtain ⟨f1,f2⟩ := folV_ok (a := aB) g s1
 obtain ⟨q1,q2⟩ := listV_ok (b := aN) (c := aU) (d := aO) g0
 unfold catchV
 cases (YaX aM aN aU aO aB).2 && (folV aB aA (C.immRows (YaX aM aN aU aO aB).1)).2.2
 ·exact ⟨Ya.wide q1,by show Zu (C.immRows _) ≤ _; omega,trivial⟩
 ·exact ⟨Ya.wide f1,by show Zu (folV _ _ _).2.1 ≤ _; omega,trivial⟩
theorem Yau.same {aB : Int} {aA aM : LD} {aN aU : Int} {aO : LD} (_ : (Lit.int .i64 aB).wf = true) (g : ZB Ya lim aA) (g0 : ZB Ya lim aM) (_ : (Lit.int .i64 aN).wf = true) (_ : (Lit.int .i64 aU).wf = true) (gd : ZB Yb lim aO) (w : Zu aA ≤ 67108864) (w0 : Zu aM ≤ 67108864) (wd : Zu aO ≤ 67108864) {k : Nat} (hk : Zai 1 k) {z0 : Int} {z1 : LD} {z2 : Bool}
  (hz : YaC.t k aB aA aM aN aU aO = some (z0,z1,z2)) : Yau.t k aB aA aM aN aU aO = some (z0,Zc z1,z2) := by
 rw [spec_CatchUp_t g g0 gd hk] at hz
 rw [impl_CatchUp_t g g0 gd hk]
 injection hz with hz
 rw [hz]
theorem YD.tm {ι α : Type} {ok : ι → Prop} {ψ : α → Prop} {p : ι → Nat} {B : Nat} (hp : ∀ i,ok i → B ≤ p i) {a0 a1 φ} (h : Tm (fun k => B ≤ k) (fun k => YD.t k a0 a1) φ) {G : ι → Bool → Option α} (hG : ∀ z0,φ z0 → Tm ok (fun i => G i z0) ψ) : Tm ok (fun i => YD.f (p i) a0 a1 (G i)) ψ := bd1_tm (t := fun k => YD.t k a0 a1) hp h hG
set_option maxRecDepth 100000 in
theorem YD.T {B : Nat} {a0 : LD} (ga0 : ZB RS B a0) (hB : B ≤ 1099511627776) : Tm Fuel (fun k => YD.t k a0 a0) (fun r => r = true) := by
 unfold YD.t YD.g
 have hm := maxLen_eq
 have hlim : lim = 1048576 := rfl
 have hlen := ga0.1
 refine Tm.ite (fun h1 => ?_) (fun h1 => ?_)
 ·try simp only [bz0,bz1,bz2,bz3,bz4,bz5,bz6,bz7,bz8,bz9,bza] at h1
  exact Tm.ret (by first | rfl | (exfalso; simp [strEq_self] at *))
 ·try simp only [bz0,bz1,bz2,bz3,bz4,bz5,bz6,bz7,bz8,bz9,bza] at h1
  refine Tm.loop (okk := Fuel) (p := fun k => k) (fun i hi => hi) (b := fun k => YD.l0 k a0 a0 (fun z0 => some z0)) (fun i => (((a0.length : Int)) - i).toNat) (fun i => 0 ≤ i ∧ i ≤ (a0.length : Int)) ?_ ?_ ?_
  ·rintro i hI
   try simp only [] at hI ⊢
   have : big = 2 ^ 64 := rfl
   have := ga0.1
   omega
  ·((try simp only []); omega)
  ·rintro i hI L hL
   try simp only [] at hI
   obtain ⟨i0,i1⟩ := hI
   simp only [YD.l0,atR,rdQ,Q.ask]
   refine Tm.ite (fun h2 => ?_) (fun h2 => ?_)
   ·try simp only [bz0,bz1,bz2,bz3,bz4,bz5,bz6,bz7,bz8,bz9,bza] at h2
    refine Tm.atRow (by first | assumption | omega) (by first | assumption | omega) (fun x3 hx4 hm5 => ?_)
    obtain ⟨c6,rfl,g7,_⟩ := (ga0.2 x3 hm5).open
    refine Tm.uncons ?_
    refine Tm.dStr ?_
    refine Tm.atEnd ?_
    refine Tm.atRow (by first | assumption | omega) (by first | assumption | omega) (fun x8 hx9 hm10 => ?_)
    rw [hx4] at hx9
    injection hx9 with hx9
    subst hx9
    refine Tm.uncons ?_
    refine Tm.dStr ?_
    refine Tm.atEnd ?_
    refine Tm.ite (fun h12 => ?_) (fun h12 => ?_)
    ·try simp only [bz0,bz1,bz2,bz3,bz4,bz5,bz6,bz7,bz8,bz9,bza] at h12
     exact Tm.ret (by first | rfl | (exfalso; simp [strEq_self] at *))
    ·try simp only [bz0,bz1,bz2,bz3,bz4,bz5,bz6,bz7,bz8,bz9,bza] at h12
     try rw [Z9 (x := i + 1) (by omega) (by omega)]
     exact hL _ (by (try simp only []); omega) (by (try simp only []); omega)
   ·try simp only [bz0,bz1,bz2,bz3,bz4,bz5,bz6,bz7,bz8,bz9,bza] at h2
    exact Tm.ret (by first | rfl | (exfalso; simp [strEq_self] at *))
theorem Yu.tm {ι α : Type} {ok : ι → Prop} {ψ : α → Prop} {p : ι → Nat} {B : Nat} (hp : ∀ i,ok i → B ≤ p i) {a0 a1 φ} (h : Tm (fun k => B ≤ k) (fun k => Yu.t k a0 a1) φ) {G : ι → Bool → Option α} (hG : ∀ z0,φ z0 → Tm ok (fun i => G i z0) ψ) : Tm ok (fun i => Yu.f (p i) a0 a1 (G i)) ψ := bd1_tm (t := fun k => Yu.t k a0 a1) hp h hG
theorem YS.tm {ι α : Type} {ok : ι → Prop} {ψ : α → Prop} {p : ι → Nat} {B : Nat} (hp : ∀ i,ok i → B ≤ p i) {aB aA aH aF aI aM aN aU aO bF φ} (h : Tm (fun k => B ≤ k) (fun k => YS.t k aB aA aH aF aI aM aN aU aO bF) φ) {G : ι → Bool → Option α} (hG : ∀ z0,φ z0 → Tm ok (fun i => G i z0) ψ) : Tm ok (fun i => YS.f (p i) aB aA aH aF aI aM aN aU aO bF (G i)) ψ := bd1_tm (t := fun k => YS.t k aB aA aH aF aI aM aN aU aO bF) hp h hG
set_option maxRecDepth 100000 in
theorem eqVal {B : Nat} (hB : B ≤ 1099511627776) (n : Nat) : (∀ (a : LD),a.length ≤ B → (∀ x ∈ a,Y9 B n x) → Tm (fun k => big + 2 * n + 1 ≤ k) (fun k => Yu.t k a a) (fun r => r = true)) ∧
  (∀ (c0 : Int) (c1 : BA) (c2 : Int) (c3 c4 : LD),c1.size ≤ B → ZB RS B c3 → c4.length ≤ B → (∀ x ∈ c4,Y9 B n x) → Tm (fun k => big + 2 * n + 2 ≤ k) (fun k => YS.t k c0 c1 c2 c3 c4 c0 c1 c2 c3 c4) (fun r => r = true)) := by
 have hb : big = 2 ^ 64 := rfl
 induction n using Nat.strongRecOn with
 | ind n ih =>
 have S : ∀ (a : LD),a.length ≤ B → (∀ x ∈ a,Y9 B n x) → Tm (fun k => big + 2 * n + 1 ≤ k) (fun k => Yu.t k a a) (fun r => r = true) := by
  intro a hlen g
  refine Tm.succ (g := fun k => Yu.g k a a (fun z0 => some z0)) (fun k => Yu.t_succ k a a) ?_
  unfold Yu.g Yu.body
  refine Tm.ite (fun h3 => by simp at h3) (fun h3 => ?_)
  refine Tm.loop (okk := fun k => big + 2 * n ≤ k) (p := fun k => k) (fun i hi => by omega) (b := fun k => Yu.l0 k (Yu.f k) (YS.f k) a a (fun z0 => some z0)) (fun i => (((a.length : Int)) - i).toNat) (fun i => 0 ≤ i ∧ i ≤ (a.length : Int)) ?_ ?_ ?_
  ·rintro i hI
   omega
  ·omega
  ·rintro i hI L hL
   obtain ⟨i0,i1⟩ := hI
   simp only [Yu.l0,atR,rdQ,Q.ask]
   refine Tm.ite (fun h4 => ?_) (fun h4 => ?_)
   ·simp only [decide_eq_true_eq] at h4
    refine Tm.atRow (by omega) (by omega) (fun x5 hx6 hm7 => ?_)
    obtain ⟨n',hn',c0,c1,c2,c3,c4,rfl,w0,g1,w2,g3,l4,g4⟩ : ∃ n',n = n' + 1 ∧ ∃ c0 c1 c2 c3 c4,x5 = [.int .i64 c0,.str c1,.int .i64 c2,.sl c3,.sl c4] ∧ (Lit.int .i64 c0).wf = true ∧ c1.size ≤ B ∧ (Lit.int .i64 c2).wf = true ∧ ZB RS B c3 ∧ c4.length ≤ B ∧ ∀ x ∈ c4,Y9 B n' x := by
     have := g x5 hm7
     cases this with
     | mk c0 c1 c2 c3 c4 w0 g1 w2 g3 l4 g4 => exact ⟨_,rfl,_,_,_,_,_,rfl,w0,g1,w2,g3,l4,g4⟩
    refine Tm.uncons (Tm.dInt (Tm.uncons (Tm.dStr (Tm.uncons (Tm.dInt (Tm.uncons (Tm.dSl (Tm.uncons (Tm.dSl (Tm.atEnd ?_))))))))))
    refine Tm.atRow (by omega) (by omega) (fun x8 hx8 _ => ?_)
    rw [hx6] at hx8
    injection hx8 with hx8
    subst hx8
    refine Tm.uncons (Tm.dInt (Tm.uncons (Tm.dStr (Tm.uncons (Tm.dInt (Tm.uncons (Tm.dSl (Tm.uncons (Tm.dSl (Tm.atEnd ?_))))))))))
    refine YS.tm (B := big + 2 * n' + 2) (fun i hi => by have := hi.1; omega) ((ih n' (by omega)).2 c0 c1 c2 c3 c4 g1 g3 l4 g4) (fun y hy => ?_)
    subst hy
    refine Tm.ite (fun h => by simp at h) (fun _ => ?_)
    rw [Z9 (x := i + 1) (by omega) (by omega)]
    exact hL (i + 1) ⟨by omega,by omega⟩ (by omega)
   ·exact Tm.ret rfl
 refine ⟨S,?_⟩
 intro c0 c1 c2 c3 c4 g1 g3 l4 g4
 refine Tm.succ (g := fun k => YS.g k c0 c1 c2 c3 c4 c0 c1 c2 c3 c4 (fun z0 => some z0)) (fun k => YS.t_succ k c0 c1 c2 c3 c4 c0 c1 c2 c3 c4) ?_
 unfold YS.g YS.body
 refine Tm.ite (fun h => by simp at h) (fun _ => ?_)
 refine Tm.ite (fun h => by simp [strEq_self] at h) (fun _ => ?_)
 refine Tm.ite (fun h => by simp at h) (fun _ => ?_)
 refine YD.tm (B := big) (fun i hi => by omega) (YD.T g3 hB) (fun y hy => ?_)
 subst hy
 refine Tm.ite (fun h => by simp at h) (fun _ => ?_)
 refine Yu.tm (B := big + 2 * n + 1) (fun i hi => hi) (S c4 l4 g4) (fun y' hy' => ?_)
 subst hy'
 exact Tm.ite (fun h => by simp at h) (fun _ => Tm.ret rfl)
theorem big_lv1e {n : Nat} (h : n ≤ 4398046511104) : big + n ≤ lv 1 := by
 have hb : big = 2 ^ 64 := rfl
 have : lv 1 = 2 ^ 65 := rfl
 omega
theorem YS.T {B : Nat} {aB : Int} {aA : BA} {aH : Int} {aF aI : LD} (g1 : aA.size ≤ B) (g3 : ZB RS B aF) (g4 : ZB Yq B aI) (hB : B ≤ 1099511627776) : Tm (Zai 1) (fun k => YS.t k aB aA aH aF aI aB aA aH aF aI) (fun r => r = true) := by
 have g' : ∀ x ∈ aI,Y9 B 1099511627776 x := fun x hx => by
  obtain ⟨h,hh,hx⟩ := g4.2 x hx
  exact hx.mono (hh hB)
 exact ((eqVal hB 1099511627776).2 aB aA aH aF aI g1 g3 g4.1 g').up (big_lv1e (n := 2 * 1099511627776 + 2) (by omega))
theorem YaG.tm {ι α : Type} {ok : ι → Prop} {ψ : α → Prop} {p : ι → Nat} {B : Nat} (hp : ∀ i,ok i → B ≤ p i) {aB aA aH aF aI bD aV bA aP bB aQ aW aY aR bC aT aX aM aN aU aO bF bH bI bJ bK bL bM bN bO bP bQ bR bT φ} (h : Tm (fun k => B ≤ k) (fun k => YaG.t k aB aA aH aF aI bD aV bA aP bB aQ aW aY aR bC aT aX aM aN aU aO bF bH bI bJ bK bL bM bN bO bP bQ bR bT) φ) {G : ι → Bool → Option α} (hG : ∀ z0,φ z0 → Tm ok (fun i => G i z0) ψ) : Tm ok (fun i => YaG.f (p i) aB aA aH aF aI bD aV bA aP bB aQ aW aY aR bC aT aX aM aN aU aO bF bH bI bJ bK bL bM bN bO bP bQ bR bT (G i)) ψ := bd1_tm (t := fun k => YaG.t k aB aA aH aF aI bD aV bA aP bB aQ aW aY aR bC aT aX aM aN aU aO bF bH bI bJ bK bL bM bN bO bP bQ bR bT) hp h hG
theorem YaG.T {B : Nat} {aB : Int} {aA : BA} {aH aF aI : Int} {bD : Bool} {aV : LD} {bA : Int} {aP : BA} {bB : Int} {aQ aW : LD} {aY : Int} {aR : BA} {bC : Int} {aT aX : LD} (ga0_1 : aA.size ≤ B) (ga0_6 : ZB RS B aV) (ga0_8 : aP.size ≤ B) (ga0_10 : ZB RS B aQ) (ga0_11 : ZB Yq B aW) (ga0_13 : aR.size ≤ B) (ga0_15 : ZB RS B aT) (ga0_16 : ZB Yq B aX) (hB : B ≤ 1099511627776) : Tm (Zai 1) (fun k => YaG.t k aB aA aH aF aI bD aV bA aP bB aQ aW aY aR bC aT aX aB aA aH aF aI bD aV bA aP bB aQ aW aY aR bC aT aX) (fun r => r = true) := by
 unfold YaG.t YaG.g
 have hm := maxLen_eq
 have hlim : lim = 1048576 := rfl
 refine Tm.ite (fun h1 => ?_) (fun h1 => ?_)
 ·try simp only [bz0,bz1,bz2,bz3,bz4,bz5,bz6,bz7,bz8,bz9,bza] at h1
  exact Tm.ret (by first | rfl | (exfalso; simp [strEq_self] at *))
 ·try simp only [bz0,bz1,bz2,bz3,bz4,bz5,bz6,bz7,bz8,bz9,bza] at h1
  refine Tm.ite (fun h2 => ?_) (fun h2 => ?_)
  ·try simp only [bz0,bz1,bz2,bz3,bz4,bz5,bz6,bz7,bz8,bz9,bza] at h2
   exact Tm.ret (by first | rfl | (exfalso; simp [strEq_self] at *))
  ·try simp only [bz0,bz1,bz2,bz3,bz4,bz5,bz6,bz7,bz8,bz9,bza] at h2
   refine Tm.ite (fun h3 => ?_) (fun h3 => ?_)
   ·try simp only [bz0,bz1,bz2,bz3,bz4,bz5,bz6,bz7,bz8,bz9,bza] at h3
    exact Tm.ret (by first | rfl | (exfalso; simp [strEq_self] at *))
   ·try simp only [bz0,bz1,bz2,bz3,bz4,bz5,bz6,bz7,bz8,bz9,bza] at h3
    refine Tm.ite (fun h4 => ?_) (fun h4 => ?_)
    ·try simp only [bz0,bz1,bz2,bz3,bz4,bz5,bz6,bz7,bz8,bz9,bza] at h4
     exact Tm.ret (by first | rfl | (exfalso; simp [strEq_self] at *))
    ·try simp only [bz0,bz1,bz2,bz3,bz4,bz5,bz6,bz7,bz8,bz9,bza] at h4
     refine Tm.ite (fun h5 => ?_) (fun h5 => ?_)
     ·try simp only [bz0,bz1,bz2,bz3,bz4,bz5,bz6,bz7,bz8,bz9,bza] at h5
      exact Tm.ret (by first | rfl | (exfalso; simp [strEq_self] at *))
     ·try simp only [bz0,bz1,bz2,bz3,bz4,bz5,bz6,bz7,bz8,bz9,bza] at h5
      refine Tm.ite (fun h6 => ?_) (fun h6 => ?_)
      ·try simp only [bz0,bz1,bz2,bz3,bz4,bz5,bz6,bz7,bz8,bz9,bza] at h6
       exact Tm.ret (by first | rfl | (exfalso; simp [strEq_self] at *))
      ·try simp only [bz0,bz1,bz2,bz3,bz4,bz5,bz6,bz7,bz8,bz9,bza] at h6
       refine YD.tm (fun i hi => up0 hi) (YD.T (by first | assumption | omega) (by first | assumption | omega)) (fun y8 hy7 => ?_)
       subst hy7
       refine Tm.ite (fun h9 => ?_) (fun h9 => ?_)
       ·try simp only [bz0,bz1,bz2,bz3,bz4,bz5,bz6,bz7,bz8,bz9,bza] at h9
        exact Tm.ret (by first | rfl | (exfalso; simp [strEq_self] at *))
       ·try simp only [bz0,bz1,bz2,bz3,bz4,bz5,bz6,bz7,bz8,bz9,bza] at h9
        refine YS.tm (fun i hi => hi) (YS.T (by first | assumption | omega) (by first | assumption | omega) (by first | assumption | omega) (by first | assumption | omega)) (fun y11 hy10 => ?_)
        subst hy10
        refine Tm.ite (fun h12 => ?_) (fun h12 => ?_)
        ·try simp only [bz0,bz1,bz2,bz3,bz4,bz5,bz6,bz7,bz8,bz9,bza] at h12
         exact Tm.ret (by first | rfl | (exfalso; simp [strEq_self] at *))
        ·try simp only [bz0,bz1,bz2,bz3,bz4,bz5,bz6,bz7,bz8,bz9,bza] at h12
         refine YS.tm (fun i hi => hi) (YS.T (by first | assumption | omega) (by first | assumption | omega) (by first | assumption | omega) (by first | assumption | omega)) (fun y14 hy13 => ?_)
         subst hy13
         refine Tm.ite (fun h15 => ?_) (fun h15 => ?_)
         ·try simp only [bz0,bz1,bz2,bz3,bz4,bz5,bz6,bz7,bz8,bz9,bza] at h15
          exact Tm.ret (by first | rfl | (exfalso; simp [strEq_self] at *))
         ·try simp only [bz0,bz1,bz2,bz3,bz4,bz5,bz6,bz7,bz8,bz9,bza] at h15
          exact Tm.ret (by first | rfl | (exfalso; simp [strEq_self] at *))
theorem YZ.tm {ι α : Type} {ok : ι → Prop} {ψ : α → Prop} {p : ι → Nat} {B : Nat} (hp : ∀ i,ok i → B ≤ p i) {a0 a1 φ} (h : Tm (fun k => B ≤ k) (fun k => YZ.t k a0 a1) φ) {G : ι → Bool → Option α} (hG : ∀ z0,φ z0 → Tm ok (fun i => G i z0) ψ) : Tm ok (fun i => YZ.f (p i) a0 a1 (G i)) ψ := bd1_tm (t := fun k => YZ.t k a0 a1) hp h hG
set_option maxRecDepth 100000 in
theorem YZ.T {B : Nat} {a0 : LD} (ga0 : ZB Ya B a0) (hB : B ≤ 1099511627776) : Tm (Zai 1) (fun k => YZ.t k a0 a0) (fun r => r = true) := by
 unfold YZ.t YZ.g
 have hm := maxLen_eq
 have hlim : lim = 1048576 := rfl
 have hlen := ga0.1
 refine Tm.ite (fun h1 => ?_) (fun h1 => ?_)
 ·try simp only [bz0,bz1,bz2,bz3,bz4,bz5,bz6,bz7,bz8,bz9,bza] at h1
  exact Tm.ret (by first | rfl | (exfalso; simp [strEq_self] at *))
 ·try simp only [bz0,bz1,bz2,bz3,bz4,bz5,bz6,bz7,bz8,bz9,bza] at h1
  refine Tm.loop (okk := (Zai 1)) (p := fun k => k) (fun i hi => up0 hi) (b := fun k => YZ.l0 k a0 a0 (fun z0 => some z0)) (fun i => (((a0.length : Int)) - i).toNat) (fun i => 0 ≤ i ∧ i ≤ (a0.length : Int)) ?_ ?_ ?_
  ·rintro i hI
   try simp only [] at hI ⊢
   have : big = 2 ^ 64 := rfl
   have := ga0.1
   omega
  ·((try simp only []); omega)
  ·rintro i hI L hL
   try simp only [] at hI
   obtain ⟨i0,i1⟩ := hI
   simp only [YZ.l0,atR,rdQ,Q.ask]
   refine Tm.ite (fun h2 => ?_) (fun h2 => ?_)
   ·try simp only [bz0,bz1,bz2,bz3,bz4,bz5,bz6,bz7,bz8,bz9,bza] at h2
    refine Tm.atRow (by first | assumption | omega) (by first | assumption | omega) (fun x3 hx4 hm5 => ?_)
    obtain ⟨c6,c7,c8,c9,c10,c11,c12,c13,c14,c15,c16,c17,c18,c19,c20,c21,c22,rfl,g23,g24,g25,g26,g27,g28,g29,g30,g31,g32,g33,g34,g35,g36,g37,g38,_⟩ := (ga0.2 x3 hm5).open
    refine Tm.uncons ?_
    refine Tm.dInt ?_
    refine Tm.uncons ?_
    refine Tm.dStr ?_
    refine Tm.uncons ?_
    refine Tm.dInt ?_
    refine Tm.uncons ?_
    refine Tm.dInt ?_
    refine Tm.uncons ?_
    refine Tm.dInt ?_
    refine Tm.uncons ?_
    refine Tm.dBool ?_
    refine Tm.uncons ?_
    refine Tm.dSl ?_
    refine Tm.uncons ?_
    refine Tm.dInt ?_
    refine Tm.uncons ?_
    refine Tm.dStr ?_
    refine Tm.uncons ?_
    refine Tm.dInt ?_
    refine Tm.uncons ?_
    refine Tm.dSl ?_
    refine Tm.uncons ?_
    refine Tm.dSl ?_
    refine Tm.uncons ?_
    refine Tm.dInt ?_
    refine Tm.uncons ?_
    refine Tm.dStr ?_
    refine Tm.uncons ?_
    refine Tm.dInt ?_
    refine Tm.uncons ?_
    refine Tm.dSl ?_
    refine Tm.uncons ?_
    refine Tm.dSl ?_
    refine Tm.atEnd ?_
    refine Tm.atRow (by first | assumption | omega) (by first | assumption | omega) (fun x39 hx40 hm41 => ?_)
    rw [hx4] at hx40
    injection hx40 with hx40
    subst hx40
    refine Tm.uncons ?_
    refine Tm.dInt ?_
    refine Tm.uncons ?_
    refine Tm.dStr ?_
    refine Tm.uncons ?_
    refine Tm.dInt ?_
    refine Tm.uncons ?_
    refine Tm.dInt ?_
    refine Tm.uncons ?_
    refine Tm.dInt ?_
    refine Tm.uncons ?_
    refine Tm.dBool ?_
    refine Tm.uncons ?_
    refine Tm.dSl ?_
    refine Tm.uncons ?_
    refine Tm.dInt ?_
    refine Tm.uncons ?_
    refine Tm.dStr ?_
    refine Tm.uncons ?_
    refine Tm.dInt ?_
    refine Tm.uncons ?_
    refine Tm.dSl ?_
    refine Tm.uncons ?_
    refine Tm.dSl ?_
    refine Tm.uncons ?_
    refine Tm.dInt ?_
    refine Tm.uncons ?_
    refine Tm.dStr ?_
    refine Tm.uncons ?_
    refine Tm.dInt ?_
    refine Tm.uncons ?_
    refine Tm.dSl ?_
    refine Tm.uncons ?_
    refine Tm.dSl ?_
    refine Tm.atEnd ?_
    refine YaG.tm (fun i hi => hi.1) (YaG.T (by first | assumption | omega) (by first | assumption | omega) (by first | assumption | omega) (by first | assumption | omega) (by first | assumption | omega) (by first | assumption | omega) (by first | assumption | omega) (by first | assumption | omega) (by first | assumption | omega)) (fun y60 hy59 => ?_)
    subst hy59
    refine Tm.ite (fun h61 => ?_) (fun h61 => ?_)
    ·try simp only [bz0,bz1,bz2,bz3,bz4,bz5,bz6,bz7,bz8,bz9,bza] at h61
     exact Tm.ret (by first | rfl | (exfalso; simp [strEq_self] at *))
    ·try simp only [bz0,bz1,bz2,bz3,bz4,bz5,bz6,bz7,bz8,bz9,bza] at h61
     try rw [Z9 (x := i + 1) (by omega) (by omega)]
     exact hL _ (by (try simp only []); omega) (by (try simp only []); omega)
   ·try simp only [bz0,bz1,bz2,bz3,bz4,bz5,bz6,bz7,bz8,bz9,bza] at h2
    exact Tm.ret (by first | rfl | (exfalso; simp [strEq_self] at *))
theorem Yad.tm {ι α : Type} {ok : ι → Prop} {ψ : α → Prop} {p : ι → Nat} {B : Nat} (hp : ∀ i,ok i → B ≤ p i) {aB aA aM aN φ} (h : Tm (fun k => B ≤ k) (fun k => Yad.t k aB aA aM aN) φ) {G : ι → Bool → Option α} (hG : ∀ z0,φ z0 → Tm ok (fun i => G i z0) ψ) : Tm ok (fun i => Yad.f (p i) aB aA aM aN (G i)) ψ := bd1_tm (t := fun k => Yad.t k aB aA aM aN) hp h hG
theorem Yad.T {B : Nat} {aB : Int} {aA : LD} (ga0_1 : ZB Ya B aA) (hB : B ≤ 1099511627776) : Tm (Zai 1) (fun k => Yad.t k aB aA aB aA) (fun r => r = true) := by
 unfold Yad.t Yad.g
 have hm := maxLen_eq
 have hlim : lim = 1048576 := rfl
 refine Tm.ite (fun h1 => ?_) (fun h1 => ?_)
 ·try simp only [bz0,bz1,bz2,bz3,bz4,bz5,bz6,bz7,bz8,bz9,bza] at h1
  exact Tm.ret (by first | rfl | (exfalso; simp [strEq_self] at *))
 ·try simp only [bz0,bz1,bz2,bz3,bz4,bz5,bz6,bz7,bz8,bz9,bza] at h1
  refine YZ.tm (fun i hi => hi) (YZ.T (by first | assumption | omega) (by first | assumption | omega)) (fun y3 hy2 => ?_)
  subst hy2
  refine Tm.ite (fun h4 => ?_) (fun h4 => ?_)
  ·try simp only [bz0,bz1,bz2,bz3,bz4,bz5,bz6,bz7,bz8,bz9,bza] at h4
   exact Tm.ret (by first | rfl | (exfalso; simp [strEq_self] at *))
  ·try simp only [bz0,bz1,bz2,bz3,bz4,bz5,bz6,bz7,bz8,bz9,bza] at h4
   exact Tm.ret (by first | rfl | (exfalso; simp [strEq_self] at *))
theorem YaA.tm {ι α : Type} {ok : ι → Prop} {ψ : α → Prop} {p : ι → Nat} {B : Nat} (hp : ∀ i,ok i → B ≤ p i) {aB aA aH aF aI bD aV bA aP bB aQ aW aY aR bC aT aX bZ cA aM aN aU aO bF bH bI bJ bK bL bM bN bO bP bQ bR bT a1_17 a1_18 φ} (h : Tm (fun k => B ≤ k) (fun k => YaA.t k aB aA aH aF aI bD aV bA aP bB aQ aW aY aR bC aT aX bZ cA aM aN aU aO bF bH bI bJ bK bL bM bN bO bP bQ bR bT a1_17 a1_18) φ) {G : ι → Bool → Option α} (hG : ∀ z0,φ z0 → Tm ok (fun i => G i z0) ψ) : Tm ok (fun i => YaA.f (p i) aB aA aH aF aI bD aV bA aP bB aQ aW aY aR bC aT aX bZ cA aM aN aU aO bF bH bI bJ bK bL bM bN bO bP bQ bR bT a1_17 a1_18 (G i)) ψ := bd1_tm (t := fun k => YaA.t k aB aA aH aF aI bD aV bA aP bB aQ aW aY aR bC aT aX bZ cA aM aN aU aO bF bH bI bJ bK bL bM bN bO bP bQ bR bT a1_17 a1_18) hp h hG
theorem YaA.T {B : Nat} {aB : Int} {aA : Bool} {aH : Int} {aF : BA} {aI bD aV : Int} {bA : Bool} {aP : LD} {bB : Int} {aQ : BA} {aW : Int} {aY aR : LD} {bC : Int} {aT : BA} {aX : Int} {bZ cA : LD} (ga0_3 : aF.size ≤ B) (ga0_8 : ZB RS B aP) (ga0_10 : aQ.size ≤ B) (ga0_12 : ZB RS B aY) (ga0_13 : ZB Yq B aR) (ga0_15 : aT.size ≤ B) (ga0_17 : ZB RS B bZ) (ga0_18 : ZB Yq B cA) (hB : B ≤ 1099511627776) : Tm (Zai 1) (fun k => YaA.t k aB aA aH aF aI bD aV bA aP bB aQ aW aY aR bC aT aX bZ cA aB aA aH aF aI bD aV bA aP bB aQ aW aY aR bC aT aX bZ cA) (fun r => r = true) := by
 unfold YaA.t YaA.g
 have hm := maxLen_eq
 have hlim : lim = 1048576 := rfl
 refine Tm.ite (fun h1 => ?_) (fun h1 => ?_)
 ·try simp only [bz0,bz1,bz2,bz3,bz4,bz5,bz6,bz7,bz8,bz9,bza] at h1
  exact Tm.ret (by first | rfl | (exfalso; simp [strEq_self] at *))
 ·try simp only [bz0,bz1,bz2,bz3,bz4,bz5,bz6,bz7,bz8,bz9,bza] at h1
  refine Tm.ite (fun h2 => ?_) (fun h2 => ?_)
  ·try simp only [bz0,bz1,bz2,bz3,bz4,bz5,bz6,bz7,bz8,bz9,bza] at h2
   exact Tm.ret (by first | rfl | (exfalso; simp [strEq_self] at *))
  ·try simp only [bz0,bz1,bz2,bz3,bz4,bz5,bz6,bz7,bz8,bz9,bza] at h2
   refine YaG.tm (fun i hi => hi) (YaG.T (by first | assumption | omega) (by first | assumption | omega) (by first | assumption | omega) (by first | assumption | omega) (by first | assumption | omega) (by first | assumption | omega) (by first | assumption | omega) (by first | assumption | omega) (by first | assumption | omega)) (fun y4 hy3 => ?_)
   subst hy3
   refine Tm.ite (fun h5 => ?_) (fun h5 => ?_)
   ·try simp only [bz0,bz1,bz2,bz3,bz4,bz5,bz6,bz7,bz8,bz9,bza] at h5
    exact Tm.ret (by first | rfl | (exfalso; simp [strEq_self] at *))
   ·try simp only [bz0,bz1,bz2,bz3,bz4,bz5,bz6,bz7,bz8,bz9,bza] at h5
    exact Tm.ret (by first | rfl | (exfalso; simp [strEq_self] at *))
theorem YM.tm {ι α : Type} {ok : ι → Prop} {ψ : α → Prop} {p : ι → Nat} {B : Nat} (hp : ∀ i,ok i → B ≤ p i) {a0 a1 φ} (h : Tm (fun k => B ≤ k) (fun k => YM.t k a0 a1) φ) {G : ι → Bool → Option α} (hG : ∀ z0,φ z0 → Tm ok (fun i => G i z0) ψ) : Tm ok (fun i => YM.f (p i) a0 a1 (G i)) ψ := bd1_tm (t := fun k => YM.t k a0 a1) hp h hG
set_option maxRecDepth 100000 in
theorem YM.T {B : Nat} {a0 : LD} (ga0 : ZB Yb B a0) (hB : B ≤ 1099511627776) : Tm (Zai 1) (fun k => YM.t k a0 a0) (fun r => r = true) := by
 unfold YM.t YM.g
 have hm := maxLen_eq
 have hlim : lim = 1048576 := rfl
 have hlen := ga0.1
 refine Tm.ite (fun h1 => ?_) (fun h1 => ?_)
 ·try simp only [bz0,bz1,bz2,bz3,bz4,bz5,bz6,bz7,bz8,bz9,bza] at h1
  exact Tm.ret (by first | rfl | (exfalso; simp [strEq_self] at *))
 ·try simp only [bz0,bz1,bz2,bz3,bz4,bz5,bz6,bz7,bz8,bz9,bza] at h1
  refine Tm.loop (okk := (Zai 1)) (p := fun k => k) (fun i hi => up0 hi) (b := fun k => YM.l0 k a0 a0 (fun z0 => some z0)) (fun i => (((a0.length : Int)) - i).toNat) (fun i => 0 ≤ i ∧ i ≤ (a0.length : Int)) ?_ ?_ ?_
  ·rintro i hI
   try simp only [] at hI ⊢
   have : big = 2 ^ 64 := rfl
   have := ga0.1
   omega
  ·((try simp only []); omega)
  ·rintro i hI L hL
   try simp only [] at hI
   obtain ⟨i0,i1⟩ := hI
   simp only [YM.l0,atR,rdQ,Q.ask]
   refine Tm.ite (fun h2 => ?_) (fun h2 => ?_)
   ·try simp only [bz0,bz1,bz2,bz3,bz4,bz5,bz6,bz7,bz8,bz9,bza] at h2
    refine Tm.atRow (by first | assumption | omega) (by first | assumption | omega) (fun x3 hx4 hm5 => ?_)
    obtain ⟨c6,c7,c8,c9,c10,c11,c12,c13,c14,c15,c16,c17,c18,c19,c20,c21,c22,c23,c24,rfl,g25,g26,g27,g28,g29,g30,g31,g32,g33,g34,g35,g36,g37,g38,g39,g40,g41,_⟩ := (ga0.2 x3 hm5).open
    refine Tm.uncons ?_
    refine Tm.dInt ?_
    refine Tm.uncons ?_
    refine Tm.dBool ?_
    refine Tm.uncons ?_
    refine Tm.dInt ?_
    refine Tm.uncons ?_
    refine Tm.dStr ?_
    refine Tm.uncons ?_
    refine Tm.dInt ?_
    refine Tm.uncons ?_
    refine Tm.dInt ?_
    refine Tm.uncons ?_
    refine Tm.dInt ?_
    refine Tm.uncons ?_
    refine Tm.dBool ?_
    refine Tm.uncons ?_
    refine Tm.dSl ?_
    refine Tm.uncons ?_
    refine Tm.dInt ?_
    refine Tm.uncons ?_
    refine Tm.dStr ?_
    refine Tm.uncons ?_
    refine Tm.dInt ?_
    refine Tm.uncons ?_
    refine Tm.dSl ?_
    refine Tm.uncons ?_
    refine Tm.dSl ?_
    refine Tm.uncons ?_
    refine Tm.dInt ?_
    refine Tm.uncons ?_
    refine Tm.dStr ?_
    refine Tm.uncons ?_
    refine Tm.dInt ?_
    refine Tm.uncons ?_
    refine Tm.dSl ?_
    refine Tm.uncons ?_
    refine Tm.dSl ?_
    refine Tm.atEnd ?_
    refine Tm.atRow (by first | assumption | omega) (by first | assumption | omega) (fun x42 hx43 hm44 => ?_)
    rw [hx4] at hx43
    injection hx43 with hx43
    subst hx43
    refine Tm.uncons ?_
    refine Tm.dInt ?_
    refine Tm.uncons ?_
    refine Tm.dBool ?_
    refine Tm.uncons ?_
    refine Tm.dInt ?_
    refine Tm.uncons ?_
    refine Tm.dStr ?_
    refine Tm.uncons ?_
    refine Tm.dInt ?_
    refine Tm.uncons ?_
    refine Tm.dInt ?_
    refine Tm.uncons ?_
    refine Tm.dInt ?_
    refine Tm.uncons ?_
    refine Tm.dBool ?_
    refine Tm.uncons ?_
    refine Tm.dSl ?_
    refine Tm.uncons ?_
    refine Tm.dInt ?_
    refine Tm.uncons ?_
    refine Tm.dStr ?_
    refine Tm.uncons ?_
    refine Tm.dInt ?_
    refine Tm.uncons ?_
    refine Tm.dSl ?_
    refine Tm.uncons ?_
    refine Tm.dSl ?_
    refine Tm.uncons ?_
    refine Tm.dInt ?_
    refine Tm.uncons ?_
    refine Tm.dStr ?_
    refine Tm.uncons ?_
    refine Tm.dInt ?_
    refine Tm.uncons ?_
    refine Tm.dSl ?_
    refine Tm.uncons ?_
    refine Tm.dSl ?_
    refine Tm.atEnd ?_
    refine YaA.tm (fun i hi => hi.1) (YaA.T (by first | assumption | omega) (by first | assumption | omega) (by first | assumption | omega) (by first | assumption | omega) (by first | assumption | omega) (by first | assumption | omega) (by first | assumption | omega) (by first | assumption | omega) (by first | assumption | omega)) (fun y65 hy64 => ?_)
    subst hy64
    refine Tm.ite (fun h66 => ?_) (fun h66 => ?_)
    ·try simp only [bz0,bz1,bz2,bz3,bz4,bz5,bz6,bz7,bz8,bz9,bza] at h66
     exact Tm.ret (by first | rfl | (exfalso; simp [strEq_self] at *))
    ·try simp only [bz0,bz1,bz2,bz3,bz4,bz5,bz6,bz7,bz8,bz9,bza] at h66
     try rw [Z9 (x := i + 1) (by omega) (by omega)]
     exact hL _ (by (try simp only []); omega) (by (try simp only []); omega)
   ·try simp only [bz0,bz1,bz2,bz3,bz4,bz5,bz6,bz7,bz8,bz9,bza] at h2
    exact Tm.ret (by first | rfl | (exfalso; simp [strEq_self] at *))
theorem YaK.tm {ι α : Type} {ok : ι → Prop} {ψ : α → Prop} {p : ι → Nat} {B : Nat} (hp : ∀ i,ok i → B ≤ p i) {aB aA aH aF aM aN aU aO φ} (h : Tm (fun k => B ≤ k) (fun k => YaK.t k aB aA aH aF aM aN aU aO) φ) {G : ι → Bool → Option α} (hG : ∀ z0,φ z0 → Tm ok (fun i => G i z0) ψ) : Tm ok (fun i => YaK.f (p i) aB aA aH aF aM aN aU aO (G i)) ψ := bd1_tm (t := fun k => YaK.t k aB aA aH aF aM aN aU aO) hp h hG
theorem YaK.T {B : Nat} {aB : LD} {aA aH : Int} {aF : LD} (ga0_0 : ZB Ya B aB) (ga0_3 : ZB Yb B aF) (hB : B ≤ 1099511627776) : Tm (Zai 1) (fun k => YaK.t k aB aA aH aF aB aA aH aF) (fun r => r = true) := by
 unfold YaK.t YaK.g
 have hm := maxLen_eq
 have hlim : lim = 1048576 := rfl
 refine YZ.tm (fun i hi => hi) (YZ.T (by first | assumption | omega) (by first | assumption | omega)) (fun y2 hy1 => ?_)
 subst hy1
 refine Tm.ite (fun h3 => ?_) (fun h3 => ?_)
 ·try simp only [bz0,bz1,bz2,bz3,bz4,bz5,bz6,bz7,bz8,bz9,bza] at h3
  exact Tm.ret (by first | rfl | (exfalso; simp [strEq_self] at *))
 ·try simp only [bz0,bz1,bz2,bz3,bz4,bz5,bz6,bz7,bz8,bz9,bza] at h3
  refine Tm.ite (fun h4 => ?_) (fun h4 => ?_)
  ·try simp only [bz0,bz1,bz2,bz3,bz4,bz5,bz6,bz7,bz8,bz9,bza] at h4
   exact Tm.ret (by first | rfl | (exfalso; simp [strEq_self] at *))
  ·try simp only [bz0,bz1,bz2,bz3,bz4,bz5,bz6,bz7,bz8,bz9,bza] at h4
   refine Tm.ite (fun h5 => ?_) (fun h5 => ?_)
   ·try simp only [bz0,bz1,bz2,bz3,bz4,bz5,bz6,bz7,bz8,bz9,bza] at h5
    exact Tm.ret (by first | rfl | (exfalso; simp [strEq_self] at *))
   ·try simp only [bz0,bz1,bz2,bz3,bz4,bz5,bz6,bz7,bz8,bz9,bza] at h5
    refine YM.tm (fun i hi => hi) (YM.T (by first | assumption | omega) (by first | assumption | omega)) (fun y7 hy6 => ?_)
    subst hy6
    refine Tm.ite (fun h8 => ?_) (fun h8 => ?_)
    ·try simp only [bz0,bz1,bz2,bz3,bz4,bz5,bz6,bz7,bz8,bz9,bza] at h8
     exact Tm.ret (by first | rfl | (exfalso; simp [strEq_self] at *))
    ·try simp only [bz0,bz1,bz2,bz3,bz4,bz5,bz6,bz7,bz8,bz9,bza] at h8
     exact Tm.ret (by first | rfl | (exfalso; simp [strEq_self] at *))
theorem Yg.f_of {β : Type} {k a0 z0} (h : Yg.t k a0 = some z0) (K : BA → Option β) : Yg.f k a0 K = K z0 := by unfold Yg.f; rw [h]; rfl
theorem Yg.tm {ι α : Type} {ok : ι → Prop} {ψ : α → Prop} {p : ι → Nat} {B : Nat} (hp : ∀ i,ok i → B ≤ p i) {a0 φ} (h : Tm (fun k => B ≤ k) (fun k => Yg.t k a0) φ) {G : ι → BA → Option α} (hG : ∀ z0,φ z0 → Tm ok (fun i => G i z0) ψ) : Tm ok (fun i => Yg.f (p i) a0 (G i)) ψ := bd1_tm (t := fun k => Yg.t k a0) hp h hG
theorem Yg.T {a0 : Int} (h1 : a0 ≤ 4611686018427387904) : Tm Fuel (fun k => Yg.t k a0) (fun _ => True) := by
 unfold Yg.t Yg.g
 have hb : big = 2 ^ 64 := rfl
 refine Tm.ite (fun _ => Tm.ret trivial) (fun h => ?_)
 simp only [decide_eq_false_iff_not,Int.not_le] at h
 refine Tm.loop (okk := Fuel) (p := fun k => k) (fun i hi => hi) (b := fun k => Yg.l0 k (fun z0 => some z0)) (fun v => match v with | (u,s) => u.toNat) (fun v => match v with | (u,s) => 0 ≤ u ∧ u + s.size ≤ a0) ?_ ?_ ?_
 ·rintro ⟨u,s⟩ hI
  simp only [] at hI ⊢
  omega
 ·simp only []
  have : (⟨#[]⟩ : BA).size = 0 := rfl
  omega
 ·rintro ⟨u,s⟩ hI L hL
  simp only [] at hI
  obtain ⟨u0,u1⟩ := hI
  simp only [Yg.l0]
  refine Tm.ite (fun h4 => ?_) (fun h4 => ?_)
  ·simp only [decide_eq_true_eq] at h4
   have e1 : ∀ x : UInt8,(⟨#[x]⟩ : BA).size = 1 := fun _ => rfl
   have ed : Int.tdiv u 10 = u / 10 := Int.tdiv_eq_ediv_of_nonneg (by omega)
   refine Tm.guard (by decide) (Tm.guard (by rw [e1]; omega) (Tm.guard (by decide) ?_))
   rw [ed,Z9 (x := u / 10) (by omega) (by omega)]
   refine hL (_,_) ⟨by omega,?_⟩ (by simp only []; omega)
   rw [ByteArray.size_append,e1]
   omega
  ·have e1 : (⟨#[109]⟩ : BA).size = 1 := rfl
   exact Tm.guard (by rw [e1]; omega) (Tm.ret trivial)
noncomputable def Yg.v (a0 : Int) : BA := (Yg.t big a0).getD default
theorem Yg.tv {a0 : Int} (h1 : a0 ≤ 4611686018427387904) {k : Nat} (hk : Fuel k) : Yg.t k a0 = some (Yg.v a0) := (Yg.T h1).val hk
theorem Yg.fv {a0 : Int} (h1 : a0 ≤ 4611686018427387904) {k : Nat} (hk : Fuel k) {β : Type} (K : BA → Option β) : Yg.f k a0 K = K (Yg.v a0) := Yg.f_of (Yg.tv h1 hk) K
theorem Yl.tm {ι α : Type} {ok : ι → Prop} {ψ : α → Prop} {p : ι → Nat} {B : Nat} (hp : ∀ i,ok i → B ≤ p i) {a0 a1 φ} (h : Tm (fun k => B ≤ k) (fun k => Yl.t k a0 a1) φ) {G : ι → Int → LC → Option α} (hG : ∀ z0 z1,φ (z0,z1) → Tm ok (fun i => G i z0 z1) ψ) : Tm ok (fun i => Yl.f (p i) a0 a1 (G i)) ψ := bd2_tm (t := fun k => Yl.t k a0 a1) hp h hG
theorem Yi.tm {ι α : Type} {ok : ι → Prop} {ψ : α → Prop} {p : ι → Nat} {B : Nat} (hp : ∀ i,ok i → B ≤ p i) {a0 a1 φ} (h : Tm (fun k => B ≤ k) (fun k => Yi.t k a0 a1) φ) {G : ι → Int → LC → Option α} (hG : ∀ z0 z1,φ (z0,z1) → Tm ok (fun i => G i z0 z1) ψ) : Tm ok (fun i => Yi.f (p i) a0 a1 (G i)) ψ := bd2_tm (t := fun k => Yi.t k a0 a1) hp h hG
theorem YI.tm {ι α : Type} {ok : ι → Prop} {ψ : α → Prop} {p : ι → Nat} {B : Nat} (hp : ∀ i,ok i → B ≤ p i) {a0 a1 φ} (h : Tm (fun k => B ≤ k) (fun k => YI.t k a0 a1) φ) {G : ι → Int → LC → Option α} (hG : ∀ z0 z1,φ (z0,z1) → Tm ok (fun i => G i z0 z1) ψ) : Tm ok (fun i => YI.f (p i) a0 a1 (G i)) ψ := bd2_tm (t := fun k => YI.t k a0 a1) hp h hG
theorem Yae.tm {ι α : Type} {ok : ι → Prop} {ψ : α → Prop} {p : ι → Nat} {B : Nat} (hp : ∀ i,ok i → B ≤ p i) {aB aA a1 φ} (h : Tm (fun k => B ≤ k) (fun k => Yae.t k aB aA a1) φ) {G : ι → Int → LC → Option α} (hG : ∀ z0 z1,φ (z0,z1) → Tm ok (fun i => G i z0 z1) ψ) : Tm ok (fun i => Yae.f (p i) aB aA a1 (G i)) ψ := bd2_tm (t := fun k => Yae.t k aB aA a1) hp h hG
theorem Yz.tm {ι α : Type} {ok : ι → Prop} {ψ : α → Prop} {p : ι → Nat} {B : Nat} (hp : ∀ i,ok i → B ≤ p i) {a0 a1 φ} (h : Tm (fun k => B ≤ k) (fun k => Yz.t k a0 a1) φ) {G : ι → Int → LC → Option α} (hG : ∀ z0 z1,φ (z0,z1) → Tm ok (fun i => G i z0 z1) ψ) : Tm ok (fun i => Yz.f (p i) a0 a1 (G i)) ψ := bd2_tm (t := fun k => Yz.t k a0 a1) hp h hG
theorem Yaz.tm {ι α : Type} {ok : ι → Prop} {ψ : α → Prop} {p : ι → Nat} {B : Nat} (hp : ∀ i,ok i → B ≤ p i) {aB aA aH aF a1 φ} (h : Tm (fun k => B ≤ k) (fun k => Yaz.t k aB aA aH aF a1) φ) {G : ι → Int → LC → LC → Option α} (hG : ∀ z0 z1 z2,φ (z0,z1,z2) → Tm ok (fun i => G i z0 z1 z2) ψ) : Tm ok (fun i => Yaz.f (p i) aB aA aH aF a1 (G i)) ψ := bd3_tm (t := fun k => Yaz.t k aB aA aH aF a1) hp h hG
theorem Yn.f_of {β : Type} {k a0 a1 z0} (h : Yn.t k a0 a1 = some z0) (K : Int → Option β) : Yn.f k a0 a1 K = K z0 := by unfold Yn.f; rw [h]; rfl
set_option maxRecDepth 100000 in
set_option maxHeartbeats 8000000 in
theorem Yn.step {u : Int}  (h0 : 0 ≤ u)  (h1 : u + 1 ≤ 4611686018427387904) {k : Nat} (hk : Fuel k) : HStep (fun xs L v => Yn.l0 k xs (fun z0 => some z0) L v) u [.str (Yg.v (u))] (u + 1) := by
 have hk0 : Fuel k := hk
 intro xs i i0 i1 hl hr L
 simp (maxSteps := 4000000) (disch := first | assumption | omega) only [Yn.l0,atR,rdQ,Q.ask,ZY i1,cond_true,cond_false,Zck i0 i1,hr,Z4,Z5,ZaQ,ZaV,Zbl,Zan,Z9,Yg.fv,strEq_self,bne_self_eq_false,beq_self_eq_true,Bool.not_true]
set_option maxRecDepth 100000 in
set_option maxHeartbeats 8000000 in
theorem Yl.T {B : Nat} (hB : B ≤ 1099511627776) {xs : LD} {n : Int} (g : ZB RS B xs) (h0 : 0 ≤ n) (h1 : n + Zu xs ≤ 4611686018427387904) : Tm Fuel (fun k => Yl.t k (Zc xs) n) (fun z => ∃ ys,z.2 = Zc ys ∧ ys.length = xs.length ∧ z.1 = n + Zu xs ∧ ∀ k,Fuel k → Yn.t k ys n = some z.1) := by
 have hb : big = 2 ^ 64 := rfl
 have hl := g.1
 have key : Tm Fuel (fun k => Yl.t k (Zc xs) n) (fun z => ∃ ys,z.2 = Zc ys ∧ ys.length = xs.length ∧ z.1 = n + Zu xs ∧ HeldL (fun u r u' => ∀ k,Fuel k → HStep (fun xs L v => Yn.l0 k xs (fun z0 => some z0) L v) u r u') n ys z.1) := by
  unfold Yl.t Yl.g
  refine Tm.loop (okk := Fuel) (p := fun k => k) (fun i hi => hi) (b := fun k => Yl.l0 k (fun z0 z1 => some (z0,z1))) (fun v => match v with | (u,i,tab) => ((xs.length : Int) - i).toNat) (fun v => match v with | (u,i,tab) => 0 ≤ i ∧ i ≤ xs.length ∧ ∃ done : LD,done.length = i.toNat ∧ tab = Zc done ++ Zc (xs.drop i.toNat) ∧ u = n + Zu (xs.take i.toNat) ∧ HeldL (fun u r u' => ∀ k,Fuel k → HStep (fun xs L v => Yn.l0 k xs (fun z0 => some z0) L v) u r u') n done u) ?_ ?_ ?_
  ·rintro ⟨u,i,tab⟩ hI
   simp only [] at hI ⊢
   omega
  ·exact ⟨by omega,by omega,[],rfl,by simp [Zc],by simp [Zu],.nil⟩
  ·rintro ⟨u,i,tab⟩ hI L hL
   simp only [] at hI
   obtain ⟨i0,i1,done,hd,rfl,hu,hH⟩ := hI
   have hA : (Zc done).length = i.toNat := by rw [ZS,hd]
   have hT : (Zc done ++ Zc (xs.drop i.toNat)).length = xs.length := by rw [List.length_append,hA,ZS,List.length_drop]; omega
   simp only [Yl.l0]
   refine Tm.ite (fun h4 => ?_) (fun h4 => ?_)
   ·simp only [decide_eq_true_eq,hT] at h4
    have hx := gR_at i0 h4
    obtain ⟨c0,e,k0,_⟩ := (g.2 _ (gR_mem i0 h4)).open
    rw [e] at hx
    have hdr := drop_at i0 hx
    have hw := wt_take i0 hx
    simp only [ZbY,wtD] at hw
    have hs := wt_split xs (i + 1).toNat
    rw [hdr] at hT ⊢
    simp only [Zc,ZN,deepD] at hT ⊢
    have hT2 := hT
    simp only [List.length_append,List.length_cons] at hT2
    try simp (disch := omega) only [Z9]
    refine Yg.tm (fun i hi => hi.1) (Tm.at (ok := Fuel) (v := Yg.v _) (fun k hk => Yg.tv (by omega) hk)) (fun y hy => ?_)
    subst hy
    refine Tm.guard (by first | decide | (simp only [List.length_modify,List.length_append,List.length_cons]; omega)) ?_
    refine Tm.guard (by first | decide | (simp only [List.length_modify,List.length_append,List.length_cons]; omega)) ?_
    try simp (disch := omega) only [Z9]
    try simp only [modify_mid hA,Zs,List.take_zero,List.take_succ_cons,List.drop_succ_cons,List.drop_zero,List.nil_append,List.cons_append,List.length_cons,List.length_nil,Nat.zero_add,Nat.reduceAdd,List.set_cons_succ,List.set_cons_zero]
    refine hL (_,_,_) ⟨by omega,by omega,done ++ [[.str (Yg.v (u))]],by simp only [List.length_append,List.length_cons,List.length_nil]; omega,?_,by omega,HeldL.snoc hH (fun k hk => Yn.step (by omega) (by omega) hk)⟩ (by simp only []; omega)
    rw [Zbb]
    simp only [Zc,ZN,deepD,List.append_assoc,List.cons_append,List.nil_append]
   ·simp only [decide_eq_false_iff_not,hT] at h4
    refine Tm.ret ⟨done,?_,by omega,?_,hH⟩
    ·rw [List.drop_eq_nil_of_le (by omega)]
     simp only [Zc,List.append_nil]
    ·rw [List.take_of_length_le (by omega)] at hu
     exact hu
 obtain ⟨v,⟨ys,e1,e2,e3,hH⟩,h2⟩ := key
 exact ⟨v,⟨ys,e1,e2,e3,fun k hk => by
  have hk0 : Fuel k := hk
  unfold Yn.t Yn.g
  exact held_run (b := fun xs L v => Yn.l0 k xs (fun z0 => some z0) L v) (by omega) (hH.mono fun _ _ _ h => h k hk) (by omega) (fun L => by simp [Yn.l0,atR,rdQ,Q.ask])⟩,h2⟩
theorem Yj.f_of {β : Type} {k a0 a1 z0} (h : Yj.t k a0 a1 = some z0) (K : Int → Option β) : Yj.f k a0 a1 K = K z0 := by unfold Yj.f Yj.w; rw [h]; rfl
set_option maxRecDepth 100000 in
theorem Yj.step {N : Nat} {u : Int} {ys3 : LD} {n3 : Int} {ys4 : LD} {n4 : Int} (h0 : 0 ≤ u) (hn3 : u + 1 + 1 + 1 ≤ n3) (hh3 : ∀ k,Fuel k → Yn.t k ys3 (u + 1 + 1 + 1) = some n3) (hn4 : n3 ≤ n4) (hh4 : ∀ k,N ≤ k → Yj.t k ys4 (n3) = some n4) (h1 : n4 ≤ 4611686018427387904) {k : Nat} (hk : N ≤ k) (hk0 : Fuel k) : HStep (fun xs L v => Yj.l0 k (Yj.f k) xs (fun z0 => some z0) L v) u [.int .i64 (u),.str (Yg.v (u + 1)),.int .i64 (u + 1 + 1),.sl ys3,.sl ys4] (n4) := by
 intro xs i i0 i1 hl hr L
 simp (disch := first | assumption | omega) only [Yj.l0,atR,rdQ,Q.ask,ZY i1,cond_true,cond_false,Zck i0 i1,hr,Z4,Z5,ZaQ,ZaV,Zbl,Zan,Z9,Yg.fv,strEq_self,bne_self_eq_false,beq_self_eq_true,Bool.not_true,Yn.f_of (hh3 k hk0),ZZ (show ¬ n3 < 0 by omega),Yj.f_of (hh4 k hk),ZZ (show ¬ n4 < 0 by omega)]
set_option maxRecDepth 100000 in
theorem markVal {B : Nat} (hB : B ≤ 1099511627776) (h : Nat) : ∀ {xs : LD} {n : Int},xs.length ≤ B → (∀ r ∈ xs,Y9 B h r) → 0 ≤ n → n + Zu xs ≤ 4611686018427387904 → Tm (fun k => big + h + 1 ≤ k) (fun k => Yi.t k (Zc xs) n) (fun z => ∃ ys,z.2 = Zc ys ∧ ys.length = xs.length ∧ z.1 = n + Zu xs ∧ ∀ k,big + h + 1 ≤ k → Yj.t k ys n = some z.1) := by
 have hb : big = 2 ^ 64 := rfl
 induction h using Nat.strongRecOn with
 | ind h ih =>
 intro xs n hl g h0 h1
 have key : Tm (fun k => big + h ≤ k) (fun k => Yi.g k (Zc xs) n (fun z0 z1 => some (z0,z1))) (fun z => ∃ ys,z.2 = Zc ys ∧ ys.length = xs.length ∧ z.1 = n + Zu xs ∧ HeldL (fun u r u' => ∀ k,big + h ≤ k → HStep (fun xs L v => Yj.l0 k (Yj.f k) xs (fun z0 => some z0) L v) u r u') n ys z.1) := by
  unfold Yi.g Yi.body
  refine Tm.loop (okk := fun k => big + h ≤ k) (p := fun k => k) (fun i hi => by omega) (b := fun k => Yi.l0 k (Yi.f k) (fun z0 z1 => some (z0,z1))) (fun v => match v with | (u,i,tab) => ((xs.length : Int) - i).toNat) (fun v => match v with | (u,i,tab) => 0 ≤ i ∧ i ≤ xs.length ∧ ∃ done : LD,done.length = i.toNat ∧ tab = Zc done ++ Zc (xs.drop i.toNat) ∧ u = n + Zu (xs.take i.toNat) ∧ HeldL (fun u r u' => ∀ k,big + h ≤ k → HStep (fun xs L v => Yj.l0 k (Yj.f k) xs (fun z0 => some z0) L v) u r u') n done u) ?_ ?_ ?_
  ·rintro ⟨u,i,tab⟩ hI
   simp only [] at hI ⊢
   omega
  ·exact ⟨by omega,by omega,[],rfl,by simp [Zc],by simp [Zu],.nil⟩
  ·rintro ⟨u,i,tab⟩ hI L hL
   simp only [] at hI
   obtain ⟨i0,i1,done,hd,rfl,hu,hH⟩ := hI
   have hA : (Zc done).length = i.toNat := by rw [ZS,hd]
   have hT : (Zc done ++ Zc (xs.drop i.toNat)).length = xs.length := by rw [List.length_append,hA,ZS,List.length_drop]; omega
   simp only [Yi.l0]
   refine Tm.ite (fun h4 => ?_) (fun h4 => ?_)
   ·simp only [decide_eq_true_eq,hT] at h4
    have hx := gR_at i0 h4
    obtain ⟨h',hh',c0,c1,c2,c3,c4,e,k3,l4,k4⟩ : ∃ h',h = h' + 1 ∧ ∃ c0 c1 c2 c3 c4,gR xs i = [.int .i64 c0,.str c1,.int .i64 c2,.sl c3,.sl c4] ∧ ZB RS B c3 ∧ c4.length ≤ B ∧ ∀ r ∈ c4,Y9 B h' r := by
     have := g _ (gR_mem i0 h4)
     generalize gR xs i = r at this
     cases this with
     | mk c0 c1 c2 c3 c4 w0 g1 w2 g3 l4 g4 => exact ⟨_,rfl,_,_,_,_,_,rfl,g3,l4,g4⟩
    rw [e] at hx
    have hdr := drop_at i0 hx
    have hw := wt_take i0 hx
    simp only [ZbY,wtD] at hw
    have hs := wt_split xs (i + 1).toNat
    rw [hdr] at hT ⊢
    simp only [Zc,ZN,deepD] at hT ⊢
    have hT2 := hT
    simp only [List.length_append,List.length_cons] at hT2
    refine Tm.guard (by first | decide | (simp only [List.length_modify,List.length_append,List.length_cons]; omega)) ?_
    refine Tm.guard (by first | decide | (simp only [List.length_modify,List.length_append,List.length_cons]; omega)) ?_
    try simp (disch := omega) only [Z9]
    refine Yg.tm (B := big) (fun i hi => by have := hi.1; omega) (Tm.at (ok := Fuel) (v := Yg.v _) (fun k hk => Yg.tv (by omega) hk)) (fun y hy => ?_)
    subst hy
    refine Tm.guard (by first | decide | (simp only [List.length_modify,List.length_append,List.length_cons]; omega)) ?_
    refine Tm.guard (by first | decide | (simp only [List.length_modify,List.length_append,List.length_cons]; omega)) ?_
    refine Tm.guard (by first | decide | (simp only [List.length_modify,List.length_append,List.length_cons]; omega)) ?_
    refine Tm.guard (by first | decide | (simp only [List.length_modify,List.length_append,List.length_cons]; omega)) ?_
    refine Tm.guard (by first | decide | (simp only [List.length_modify,List.length_append,List.length_cons]; omega)) ?_
    try simp only [modify_mid hA,atNat_mid hA,Zs,List.take_zero,List.take_succ_cons,List.drop_succ_cons,List.drop_zero,List.nil_append,List.cons_append,List.length_cons,List.length_nil,Nat.zero_add,Nat.reduceAdd,List.set_cons_succ,List.set_cons_zero]
    refine Tm.uncons ?_
    refine Tm.cOwn ?_
    try simp (disch := omega) only [Z9]
    refine Yl.tm (B := big) (fun i hi => by have := hi.1; omega) (Yl.T hB k3 (by omega) (by omega)) (fun y3 t3 hy => ?_)
    obtain ⟨ys3,et3,el3,en3,hh3⟩ := hy
    simp only [] at et3 en3 hh3
    subst et3 en3
    refine Tm.guard (by first | decide | (simp only [List.length_modify,List.length_append,List.length_cons]; omega)) ?_
    try simp only [modify_mid hA,atNat_mid hA,Zs,List.take_zero,List.take_succ_cons,List.drop_succ_cons,List.drop_zero,List.nil_append,List.cons_append,List.length_cons,List.length_nil,Nat.zero_add,Nat.reduceAdd,List.set_cons_succ,List.set_cons_zero]
    refine Tm.uncons ?_
    refine Tm.cOwn ?_
    try simp (disch := omega) only [Z9]
    refine Yi.tm (B := big + h' + 1) (fun i hi => by have := hi.1; omega) (ih h' (by omega) l4 k4 (by omega) (by omega)) (fun y4 t4 hy => ?_)
    obtain ⟨ys4,et4,el4,en4,hh4⟩ := hy
    simp only [] at et4 en4 hh4
    subst et4 en4
    try simp (disch := omega) only [Z9]
    try simp only [modify_mid hA,Zs,List.take_zero,List.take_succ_cons,List.drop_succ_cons,List.drop_zero,List.nil_append,List.cons_append,List.length_cons,List.length_nil,Nat.zero_add,Nat.reduceAdd,List.set_cons_succ,List.set_cons_zero]
    refine hL (_,_,_) ⟨by omega,by omega,done ++ [[.int .i64 (u),.str (Yg.v (u + 1)),.int .i64 (u + 1 + 1),.sl ys3,.sl ys4]],by simp only [List.length_append,List.length_cons,List.length_nil]; omega,?_,by omega,HeldL.snoc hH (fun k hk => Yj.step (by omega) (by omega) hh3 (by omega) hh4 (by omega) (by omega) (by unfold Fuel; omega))⟩ (by simp only []; omega)
    rw [Zbb]
    simp only [Zc,ZN,deepD,List.append_assoc,List.cons_append,List.nil_append]
   ·simp only [decide_eq_false_iff_not,hT] at h4
    refine Tm.ret ⟨done,?_,by omega,?_,hH⟩
    ·rw [List.drop_eq_nil_of_le (by omega)]
     simp only [Zc,List.append_nil]
    ·rw [List.take_of_length_le (by omega)] at hu
     exact hu
 refine Tm.succ (g := fun k => Yi.g k (Zc xs) n (fun z0 z1 => some (z0,z1))) (fun k => Yi.t_succ k (Zc xs) n) ?_
 refine key.mono fun z hz => ?_
 obtain ⟨ys,e1,e2,e3,hH⟩ := hz
 refine ⟨ys,e1,e2,e3,fun k hk => ?_⟩
 cases k with
 | zero => omega
 | succ k =>
  rw [Yj.t_succ]
  unfold Yj.g Yj.body
  exact held_run (b := fun xs L v => Yj.l0 k (Yj.f k) xs (fun z0 => some z0) L v) (by omega) (hH.mono fun _ _ _ h => h k (by omega)) (by omega) (fun L => by simp [Yj.l0,atR,rdQ,Q.ask])
theorem Yi.T {B : Nat} (hB : B ≤ 1099511627776) {xs : LD} {n : Int} (g : ZB Yq B xs) (h0 : 0 ≤ n) (h1 : n + Zu xs ≤ 4611686018427387904) : Tm (Zai 1) (fun k => Yi.t k (Zc xs) n) (fun z => ∃ ys,z.2 = Zc ys ∧ ys.length = xs.length ∧ z.1 = n + Zu xs ∧ ∀ k,(Zai 1) k → Yj.t k ys n = some z.1) := by
 have hb : big = 2 ^ 64 := rfl
 have h2 : lv 1 = 2 ^ 65 := rfl
 obtain ⟨H,hH⟩ : ∃ H : Nat,H = 1099511627776 := ⟨_,rfl⟩
 have g' : ∀ x ∈ xs,Y9 B H x := fun x hx => by
  obtain ⟨h,hh,hx⟩ := g.2 x hx
  exact hx.mono (by have := hh hB; omega)
 have hN : big + H + 1 ≤ lv 1 := by omega
 refine ((markVal hB H g.1 g' h0 h1).up hN).mono fun z hz => ?_
 obtain ⟨ys,e1,e2,e3,hh⟩ := hz
 exact ⟨ys,e1,e2,e3,fun k hk => hh k (Nat.le_trans hN hk)⟩
theorem YL.f_of {β : Type} {k a0 a1 z0} (h : YL.t k a0 a1 = some z0) (K : Int → Option β) : YL.f k a0 a1 K = K z0 := by unfold YL.f; rw [h]; rfl
set_option maxRecDepth 100000 in
set_option maxHeartbeats 8000000 in
theorem YL.step {u : Int} {ys6 : LD} {n6 : Int} {ys10 : LD} {n10 : Int} {ys11 : LD} {n11 : Int} {ys15 : LD} {n15 : Int} {ys16 : LD} {n16 : Int} (h0 : 0 ≤ u) (hn6 : u + 1 + 1 + 1 + 1 + 1 + 1 ≤ n6) (hh6 : ∀ k,Fuel k → Yn.t k ys6 (u + 1 + 1 + 1 + 1 + 1 + 1) = some n6) (hn10 : n6 + 1 + 1 + 1 ≤ n10) (hh10 : ∀ k,Fuel k → Yn.t k ys10 (n6 + 1 + 1 + 1) = some n10) (hn11 : n10 ≤ n11) (hh11 : ∀ k,(Zai 1) k → Yj.t k ys11 (n10) = some n11) (hn15 : n11 + 1 + 1 + 1 ≤ n15) (hh15 : ∀ k,Fuel k → Yn.t k ys15 (n11 + 1 + 1 + 1) = some n15) (hn16 : n15 ≤ n16) (hh16 : ∀ k,(Zai 1) k → Yj.t k ys16 (n15) = some n16) (h1 : n16 ≤ 4611686018427387904) {k : Nat} (hk : (Zai 1) k) : HStep (fun xs L v => YL.l0 k xs (fun z0 => some z0) L v) u [.int .i64 (u),.str (Yg.v (u + 1)),.int .i64 (u + 1 + 1),.int .i64 (u + 1 + 1 + 1),.int .i64 (u + 1 + 1 + 1 + 1),.bool (Int.tmod (u + 1 + 1 + 1 + 1 + 1) 3 == 0),.sl ys6,.int .i64 (n6),.str (Yg.v (n6 + 1)),.int .i64 (n6 + 1 + 1),.sl ys10,.sl ys11,.int .i64 (n11),.str (Yg.v (n11 + 1)),.int .i64 (n11 + 1 + 1),.sl ys15,.sl ys16] (n16) := by
 have hk0 : Fuel k := up0 hk
 intro xs i i0 i1 hl hr L
 simp (maxSteps := 4000000) (disch := first | assumption | omega) only [YL.l0,atR,rdQ,Q.ask,ZY i1,cond_true,cond_false,Zck i0 i1,hr,Z4,Z5,ZaQ,ZaV,Zbl,Zan,Z9,Yg.fv,strEq_self,bne_self_eq_false,beq_self_eq_true,Bool.not_true,ZH (show (3 : Int) ≠ 0 by decide),Yn.f_of (hh6 k (up0 hk)),ZZ (show ¬ n6 < 0 by omega),Yn.f_of (hh10 k (up0 hk)),ZZ (show ¬ n10 < 0 by omega),Yj.f_of (hh11 k hk),ZZ (show ¬ n11 < 0 by omega),Yn.f_of (hh15 k (up0 hk)),ZZ (show ¬ n15 < 0 by omega),Yj.f_of (hh16 k hk),ZZ (show ¬ n16 < 0 by omega)]
set_option maxRecDepth 100000 in
set_option maxHeartbeats 8000000 in
theorem YI.T {B : Nat} (hB : B ≤ 1099511627776) {xs : LD} {n : Int} (g : ZB Ya B xs) (h0 : 0 ≤ n) (h1 : n + Zu xs ≤ 4611686018427387904) : Tm (Zai 1) (fun k => YI.t k (Zc xs) n) (fun z => ∃ ys,z.2 = Zc ys ∧ ys.length = xs.length ∧ z.1 = n + Zu xs ∧ ∀ k,(Zai 1) k → YL.t k ys n = some z.1) := by
 have hb : big = 2 ^ 64 := rfl
 have hl := g.1
 have key : Tm (Zai 1) (fun k => YI.t k (Zc xs) n) (fun z => ∃ ys,z.2 = Zc ys ∧ ys.length = xs.length ∧ z.1 = n + Zu xs ∧ HeldL (fun u r u' => ∀ k,(Zai 1) k → HStep (fun xs L v => YL.l0 k xs (fun z0 => some z0) L v) u r u') n ys z.1) := by
  unfold YI.t YI.g
  refine Tm.loop (okk := (Zai 1)) (p := fun k => k) (fun i hi => up0 hi) (b := fun k => YI.l0 k (fun z0 z1 => some (z0,z1))) (fun v => match v with | (u,i,tab) => ((xs.length : Int) - i).toNat) (fun v => match v with | (u,i,tab) => 0 ≤ i ∧ i ≤ xs.length ∧ ∃ done : LD,done.length = i.toNat ∧ tab = Zc done ++ Zc (xs.drop i.toNat) ∧ u = n + Zu (xs.take i.toNat) ∧ HeldL (fun u r u' => ∀ k,(Zai 1) k → HStep (fun xs L v => YL.l0 k xs (fun z0 => some z0) L v) u r u') n done u) ?_ ?_ ?_
  ·rintro ⟨u,i,tab⟩ hI
   simp only [] at hI ⊢
   omega
  ·exact ⟨by omega,by omega,[],rfl,by simp [Zc],by simp [Zu],.nil⟩
  ·rintro ⟨u,i,tab⟩ hI L hL
   simp only [] at hI
   obtain ⟨i0,i1,done,hd,rfl,hu,hH⟩ := hI
   have hA : (Zc done).length = i.toNat := by rw [ZS,hd]
   have hT : (Zc done ++ Zc (xs.drop i.toNat)).length = xs.length := by rw [List.length_append,hA,ZS,List.length_drop]; omega
   simp only [YI.l0]
   refine Tm.ite (fun h4 => ?_) (fun h4 => ?_)
   ·simp only [decide_eq_true_eq,hT] at h4
    have hx := gR_at i0 h4
    obtain ⟨c0,c1,c2,c3,c4,c5,c6,c7,c8,c9,c10,c11,c12,c13,c14,c15,c16,e,k0,k1,k2,k3,k4,k6,k7,k8,k9,k10,k11,k12,k13,k14,k15,k16,_⟩ := (g.2 _ (gR_mem i0 h4)).open
    rw [e] at hx
    have hdr := drop_at i0 hx
    have hw := wt_take i0 hx
    simp only [ZbY,wtD] at hw
    have hs := wt_split xs (i + 1).toNat
    rw [hdr] at hT ⊢
    simp only [Zc,ZN,deepD] at hT ⊢
    have hT2 := hT
    simp only [List.length_append,List.length_cons] at hT2
    refine Tm.guard (by first | decide | (simp only [List.length_modify,List.length_append,List.length_cons]; omega)) ?_
    refine Tm.guard (by first | decide | (simp only [List.length_modify,List.length_append,List.length_cons]; omega)) ?_
    try simp (disch := omega) only [Z9]
    refine Yg.tm (fun i hi => up0 hi.1) (Tm.at (ok := Fuel) (v := Yg.v _) (fun k hk => Yg.tv (by omega) hk)) (fun y hy => ?_)
    subst hy
    refine Tm.guard (by first | decide | (simp only [List.length_modify,List.length_append,List.length_cons]; omega)) ?_
    refine Tm.guard (by first | decide | (simp only [List.length_modify,List.length_append,List.length_cons]; omega)) ?_
    refine Tm.guard (by first | decide | (simp only [List.length_modify,List.length_append,List.length_cons]; omega)) ?_
    refine Tm.guard (by first | decide | (simp only [List.length_modify,List.length_append,List.length_cons]; omega)) ?_
    refine Tm.guard (by first | decide | (simp only [List.length_modify,List.length_append,List.length_cons]; omega)) ?_
    refine Tm.guard (by first | decide | (simp only [List.length_modify,List.length_append,List.length_cons]; omega)) ?_
    refine Tm.guard (by first | decide | (simp only [List.length_modify,List.length_append,List.length_cons]; omega)) ?_
    refine Tm.guard (by first | decide | (simp only [List.length_modify,List.length_append,List.length_cons]; omega)) ?_
    refine Tm.guard (by first | decide | (simp only [List.length_modify,List.length_append,List.length_cons]; omega)) ?_
    refine Tm.guard (by first | decide | (simp only [List.length_modify,List.length_append,List.length_cons]; omega)) ?_
    refine Tm.guard (by first | decide | (simp only [List.length_modify,List.length_append,List.length_cons]; omega)) ?_
    refine Tm.guard (by first | decide | (simp only [List.length_modify,List.length_append,List.length_cons]; omega)) ?_
    try simp only [modify_mid hA,atNat_mid hA,Zs,List.take_zero,List.take_succ_cons,List.drop_succ_cons,List.drop_zero,List.nil_append,List.cons_append,List.length_cons,List.length_nil,Nat.zero_add,Nat.reduceAdd,List.set_cons_succ,List.set_cons_zero]
    refine Tm.uncons ?_
    refine Tm.cOwn ?_
    try simp (disch := omega) only [Z9]
    refine Yl.tm (fun i hi => up0 hi.1) (Yl.T hB k6 (by omega) (by omega)) (fun y6 t6 hy => ?_)
    obtain ⟨ys6,et6,el6,en6,hh6⟩ := hy
    simp only [] at et6 en6 hh6
    subst et6 en6
    refine Tm.guard (by first | decide | (simp only [List.length_modify,List.length_append,List.length_cons]; omega)) ?_
    refine Tm.guard (by first | decide | (simp only [List.length_modify,List.length_append,List.length_cons]; omega)) ?_
    try simp (disch := omega) only [Z9]
    refine Yg.tm (fun i hi => up0 hi.1) (Tm.at (ok := Fuel) (v := Yg.v _) (fun k hk => Yg.tv (by omega) hk)) (fun y hy => ?_)
    subst hy
    refine Tm.guard (by first | decide | (simp only [List.length_modify,List.length_append,List.length_cons]; omega)) ?_
    refine Tm.guard (by first | decide | (simp only [List.length_modify,List.length_append,List.length_cons]; omega)) ?_
    refine Tm.guard (by first | decide | (simp only [List.length_modify,List.length_append,List.length_cons]; omega)) ?_
    refine Tm.guard (by first | decide | (simp only [List.length_modify,List.length_append,List.length_cons]; omega)) ?_
    refine Tm.guard (by first | decide | (simp only [List.length_modify,List.length_append,List.length_cons]; omega)) ?_
    try simp only [modify_mid hA,atNat_mid hA,Zs,List.take_zero,List.take_succ_cons,List.drop_succ_cons,List.drop_zero,List.nil_append,List.cons_append,List.length_cons,List.length_nil,Nat.zero_add,Nat.reduceAdd,List.set_cons_succ,List.set_cons_zero]
    refine Tm.uncons ?_
    refine Tm.cOwn ?_
    try simp (disch := omega) only [Z9]
    refine Yl.tm (fun i hi => up0 hi.1) (Yl.T hB k10 (by omega) (by omega)) (fun y10 t10 hy => ?_)
    obtain ⟨ys10,et10,el10,en10,hh10⟩ := hy
    simp only [] at et10 en10 hh10
    subst et10 en10
    refine Tm.guard (by first | decide | (simp only [List.length_modify,List.length_append,List.length_cons]; omega)) ?_
    try simp only [modify_mid hA,atNat_mid hA,Zs,List.take_zero,List.take_succ_cons,List.drop_succ_cons,List.drop_zero,List.nil_append,List.cons_append,List.length_cons,List.length_nil,Nat.zero_add,Nat.reduceAdd,List.set_cons_succ,List.set_cons_zero]
    refine Tm.uncons ?_
    refine Tm.cOwn ?_
    try simp (disch := omega) only [Z9]
    refine Yi.tm (fun i hi => hi.1) (Yi.T hB k11 (by omega) (by omega)) (fun y11 t11 hy => ?_)
    obtain ⟨ys11,et11,el11,en11,hh11⟩ := hy
    simp only [] at et11 en11 hh11
    subst et11 en11
    refine Tm.guard (by first | decide | (simp only [List.length_modify,List.length_append,List.length_cons]; omega)) ?_
    refine Tm.guard (by first | decide | (simp only [List.length_modify,List.length_append,List.length_cons]; omega)) ?_
    try simp (disch := omega) only [Z9]
    refine Yg.tm (fun i hi => up0 hi.1) (Tm.at (ok := Fuel) (v := Yg.v _) (fun k hk => Yg.tv (by omega) hk)) (fun y hy => ?_)
    subst hy
    refine Tm.guard (by first | decide | (simp only [List.length_modify,List.length_append,List.length_cons]; omega)) ?_
    refine Tm.guard (by first | decide | (simp only [List.length_modify,List.length_append,List.length_cons]; omega)) ?_
    refine Tm.guard (by first | decide | (simp only [List.length_modify,List.length_append,List.length_cons]; omega)) ?_
    refine Tm.guard (by first | decide | (simp only [List.length_modify,List.length_append,List.length_cons]; omega)) ?_
    refine Tm.guard (by first | decide | (simp only [List.length_modify,List.length_append,List.length_cons]; omega)) ?_
    try simp only [modify_mid hA,atNat_mid hA,Zs,List.take_zero,List.take_succ_cons,List.drop_succ_cons,List.drop_zero,List.nil_append,List.cons_append,List.length_cons,List.length_nil,Nat.zero_add,Nat.reduceAdd,List.set_cons_succ,List.set_cons_zero]
    refine Tm.uncons ?_
    refine Tm.cOwn ?_
    try simp (disch := omega) only [Z9]
    refine Yl.tm (fun i hi => up0 hi.1) (Yl.T hB k15 (by omega) (by omega)) (fun y15 t15 hy => ?_)
    obtain ⟨ys15,et15,el15,en15,hh15⟩ := hy
    simp only [] at et15 en15 hh15
    subst et15 en15
    refine Tm.guard (by first | decide | (simp only [List.length_modify,List.length_append,List.length_cons]; omega)) ?_
    try simp only [modify_mid hA,atNat_mid hA,Zs,List.take_zero,List.take_succ_cons,List.drop_succ_cons,List.drop_zero,List.nil_append,List.cons_append,List.length_cons,List.length_nil,Nat.zero_add,Nat.reduceAdd,List.set_cons_succ,List.set_cons_zero]
    refine Tm.uncons ?_
    refine Tm.cOwn ?_
    try simp (disch := omega) only [Z9]
    refine Yi.tm (fun i hi => hi.1) (Yi.T hB k16 (by omega) (by omega)) (fun y16 t16 hy => ?_)
    obtain ⟨ys16,et16,el16,en16,hh16⟩ := hy
    simp only [] at et16 en16 hh16
    subst et16 en16
    try simp (disch := omega) only [Z9]
    try simp only [modify_mid hA,Zs,List.take_zero,List.take_succ_cons,List.drop_succ_cons,List.drop_zero,List.nil_append,List.cons_append,List.length_cons,List.length_nil,Nat.zero_add,Nat.reduceAdd,List.set_cons_succ,List.set_cons_zero]
    refine hL (_,_,_) ⟨by omega,by omega,done ++ [[.int .i64 (u),.str (Yg.v (u + 1)),.int .i64 (u + 1 + 1),.int .i64 (u + 1 + 1 + 1),.int .i64 (u + 1 + 1 + 1 + 1),.bool (Int.tmod (u + 1 + 1 + 1 + 1 + 1) 3 == 0),.sl ys6,.int .i64 (u + 1 + 1 + 1 + 1 + 1 + 1 + (Zu c6 : Int)),.str (Yg.v (u + 1 + 1 + 1 + 1 + 1 + 1 + (Zu c6 : Int) + 1)),.int .i64 (u + 1 + 1 + 1 + 1 + 1 + 1 + (Zu c6 : Int) + 1 + 1),.sl ys10,.sl ys11,.int .i64 (u + 1 + 1 + 1 + 1 + 1 + 1 + (Zu c6 : Int) + 1 + 1 + 1 + (Zu c10 : Int) + (Zu c11 : Int)),.str (Yg.v (u + 1 + 1 + 1 + 1 + 1 + 1 + (Zu c6 : Int) + 1 + 1 + 1 + (Zu c10 : Int) + (Zu c11 : Int) + 1)),.int .i64 (u + 1 + 1 + 1 + 1 + 1 + 1 + (Zu c6 : Int) + 1 + 1 + 1 + (Zu c10 : Int) + (Zu c11 : Int) + 1 + 1),.sl ys15,.sl ys16]],by simp only [List.length_append,List.length_cons,List.length_nil]; omega,?_,by omega,HeldL.snoc hH (fun k hk => YL.step (by omega) (by omega) hh6 (by omega) hh10 (by omega) hh11 (by omega) hh15 (by omega) hh16 (by omega) hk)⟩ (by simp only []; omega)
    rw [Zbb]
    simp only [Zc,ZN,deepD,List.append_assoc,List.cons_append,List.nil_append]
   ·simp only [decide_eq_false_iff_not,hT] at h4
    refine Tm.ret ⟨done,?_,by omega,?_,hH⟩
    ·rw [List.drop_eq_nil_of_le (by omega)]
     simp only [Zc,List.append_nil]
    ·rw [List.take_of_length_le (by omega)] at hu
     exact hu
 obtain ⟨v,⟨ys,e1,e2,e3,hH⟩,h2⟩ := key
 exact ⟨v,⟨ys,e1,e2,e3,fun k hk => by
  have hk0 : Fuel k := up0 hk
  unfold YL.t YL.g
  exact held_run (b := fun xs L v => YL.l0 k xs (fun z0 => some z0) L v) (by omega) (hH.mono fun _ _ _ h => h k hk) (by omega) (fun L => by simp [YL.l0,atR,rdQ,Q.ask])⟩,h2⟩
theorem Yak.tm {ι α : Type} {ok : ι → Prop} {ψ : α → Prop} {p : ι → Nat} {B : Nat} (hp : ∀ i,ok i → B ≤ p i) {aB aA a1 φ} (h : Tm (fun k => B ≤ k) (fun k => Yak.t k aB aA a1) φ) {G : ι → Int → Option α} (hG : ∀ z0,φ z0 → Tm ok (fun i => G i z0) ψ) : Tm ok (fun i => Yak.f (p i) aB aA a1 (G i)) ψ := bd1_tm (t := fun k => Yak.t k aB aA a1) hp h hG
set_option maxRecDepth 100000 in
set_option maxHeartbeats 8000000 in
theorem Yae.T {B : Nat} (hB : B ≤ 1099511627776) {c0 : Int} {a1 : LD} {n : Int} (g1 : ZB Ya B a1) (h0 : 0 ≤ n) (h1 : n + Zu a1 ≤ 4611686018427387904) : Tm (Zai 1) (fun k => Yae.t k c0 (Zc a1) n) (fun z => ∃ ys1,z.1 = n + Zu a1 ∧ z.2 = Zc ys1 ∧ ys1.length = a1.length ∧ ∀ k,(Zai 1) k → Yak.t k c0 ys1 n = some z.1) := by
 unfold Yae.t Yae.g
 refine YI.tm (fun i hi => hi) (YI.T hB g1 (by omega) (by omega)) (fun y1 t1 hy => ?_)
 obtain ⟨ys1,et1,el1,en1,hh1⟩ := hy
 simp only [] at et1 en1 hh1
 subst et1 en1
 try refine Tm.guard (by rw [ZS,ZS]; exact el1) ?_
 exact Tm.ret ⟨ys1,rfl,rfl,el1,fun k hk => by
  unfold Yak.t Yak.g
  rw [YL.f_of (hh1 k hk)]; simp only [ZZ (show ¬ (n + (Zu a1 : Int)) < 0 by omega),cond_false]⟩
end Go.Proofs.YtlobhlnahhjpjaaGreat
