/- Printed,and by hand: the functions that FnCaught reaches come to their end; the program's answer as the reference's. -/
import Derived.Test.YtpgplbalenfgfaaYFnCaught0
import Derived.KernelRfl
set_option linter.unusedVariables false
set_option linter.unusedSimpArgs false
namespace Go.Proofs.Ytpgplbalenfgfaa
open Go Go.T Go.Proofs
theorem cmp_zero : ∀ (a b : List UInt8),(Go.Lib.compareBytes a b == 0) = (a == b)
 | [],[] => by simp [Go.Lib.compareBytes]
 | [],_ :: _ => by simp [Go.Lib.compareBytes]
 | _ :: _,[] => by simp [Go.Lib.compareBytes]
 | x :: a,y :: b => by
  have ih := cmp_zero a b
  unfold Go.Lib.compareBytes
  by_cases h : x < y
  ·have : x ≠ y := fun e => by subst e; exact absurd h (UInt8.lt_irrefl _)
   simp [h,this]
  ·by_cases h2 : y < x
   ·have : x ≠ y := fun e => by subst e; exact absurd h2 (UInt8.lt_irrefl _)
    simp [h,h2,this]
   ·have e : x = y := by
     refine UInt8.toNat_inj.mp ?_
     have h1 : ¬ x.toNat < y.toNat := fun q => h (UInt8.lt_iff_toNat_lt.mpr q)
     have h3 : ¬ y.toNat < x.toNat := fun q => h2 (UInt8.lt_iff_toNat_lt.mpr q)
     omega
    subst e
    simpa [h] using ih
theorem cmpObjs2 {x0 : Int} {x1 : BA} {x2 x3 x4 : Int} {x5 : Bool} {x6 : LD} {x7 : Int} {x8 : BA} {x9 : Int} {x10 x11 : LD} {x12 : Int} {x13 : BA} {x14 : Int} {x15 x16 : LD} {y0 : Int} {y1 : BA} {y2 y3 y4 : Int} {y5 : Bool} {y6 : LD} {y7 : Int} {y8 : BA} {y9 : Int} {y10 y11 : LD} {y12 : Int} {y13 : BA} {y14 : Int} {y15 y16 : LD} {k : Nat} :
  ∃ c : Int,decide (c < 0) = lessV x0 x1 y0 y1 ∧ (c == 0) = ((x0 == y0) && Zae x1 y1) ∧ ∀ {β : Type} (K : Int → Option β),Yac.f k x0 x1 x2 x3 x4 x5 x6 x7 x8 x9 x10 x11 x12 x13 x14 x15 x16 y0 y1 y2 y3 y4 y5 y6 y7 y8 y9 y10 y11 y12 y13 y14 y15 y16 K = K c := by
 have hn : ∀ {n : Int} {β : Type} (K : Bool → Option β),Yae.f k n K = K false := fun {n β} K => Yae.f_of (by unfold Yae.t Yae.g; simp) K
 have hc : ∀ {β : Type} (K : Int → Option β),Y8.f k x0 y0 K = K (if x0 < y0 then -1 else if x0 > y0 then 1 else 0) := fun K => Y8.f_of (by
  unfold Y8.t Y8.g
  simp only [hn,cond_false]
  by_cases h1 : x0 < y0
  ·simp [h1]
  ·by_cases h2 : x0 > y0 <;> simp [h1,h2]) K
 have hs : ∀ {β : Type} (K : Int → Option β),Y7.f k x1 y1 K = K (cmpS x1 y1) := fun K => Y7.f_of (by unfold Y7.t Y7.g; rfl) K
 refine ⟨if x0 < y0 then -1 else if x0 > y0 then 1 else cmpS x1 y1,?_,?_,fun {β} K => Yac.f_of ?_ K⟩
 ·have hneg : ∀ c : Int,decide (c < 0) = !decide (c ≥ 0) := fun c => by by_cases h : c < 0 <;> simp [h]; omega
  unfold lessV
  by_cases h1 : x0 < y0
  ·simp [h1]
  ·by_cases h2 : x0 > y0
   ·have h3 : ¬ x0 = y0 := by omega
    simp [h1,h2,h3]
   ·have h3 : x0 = y0 := by omega
    subst h3
    simp only [h1,gt_iff_lt,if_false,decide_false,Bool.false_or,beq_self_eq_true,Bool.true_and]
    rw [hneg,cmpS_less,Bool.not_not]
 ·by_cases h1 : x0 < y0
  ·have h3 : ¬ x0 = y0 := by omega
   simp [h1,h3]
  ·by_cases h2 : x0 > y0
   ·have h3 : ¬ x0 = y0 := by omega
    simp [h1,h2,h3]
   ·have h3 : x0 = y0 := by omega
    subst h3
    simp only [h1,gt_iff_lt,if_false,beq_self_eq_true,Bool.true_and]
    unfold cmpS Zae
    rw [cmp_zero,Go.Lib.toList_data,Go.Lib.toList_data]
 ·unfold Yac.t Yac.g
  simp only [hc,hs]
  by_cases h1 : x0 < y0
  ·simp [h1]
  ·by_cases h2 : x0 > y0 <;> simp [h1,h2]
theorem YK.f_of {β : Type} {k aB aA aC aD z0} (h : YK.t k aB aA aC aD = some z0) (K : Bool → Option β) : YK.f k aB aA aC aD K = K z0 := by unfold YK.f; rw [h]; rfl
set_option maxRecDepth 100000 in
theorem YK.same {aB : LD} {aA aC : Int} {aD : LD} (g0 : ZB Ya lim aB) (g3 : ZB Yb lim aD) {k : Nat} (hk : Zai 1 k) : YK.t k aB aA aC aD = Ym.t k aB aA aC aD := by
 have hl := g3.1
 have hlim : lim = 1048576 := rfl
 have hloop : ZA (YK.l0 k aD (aD.length : Int) aB aA aC aD some) k 0 = ZA (Ym.l0 k aB aA aC aD some) k 0 := by
  refine congrArg (fun b => ZA b k 0) (funext fun L => funext fun v => ?_)
  simp only [YK.l0,atR,rdQ,Q.ask,Ym.l0,atR,rdQ,Q.ask]
  refine bif_congr (fun h => ?_) (fun _ => rfl)
  by_cases h0 : 0 ≤ v ∧ v < aD.length
  ·obtain ⟨h0,h1⟩ := h0
   obtain ⟨-,-,-,k1,-,-,-,k6,-,k8,-,k10,k11,-,k13,-,k15,k16,-⟩ := Yb.get g3 h0 h1
   simp (disch := omega) only [Yb.row g3,Z4,Z5,ZaQ,ZaV,Zbl,Zan,l7Obj_fv k1 k6 k8 k10 k11 k13 k15 k16 hk,objOk_fv k1 k6 k8 k10 k11 k13 k15 k16 hk]
  ·simp only [atRow_none h0]
 unfold YK.t Ym.t YK.g YK.m Ym.g Ym.m
 simp only [Ya4,l1In_fv,objsOk_fv g0 hk,l7Objs_fv g0 hk]
 rw [hloop]
 cases inB aA 0 1000000
 ·rfl
 cases inB aC 1 1000000
 ·rfl
 cases objsB aB (IntKind.wrap .i64 (aC - 1)) aA <;> cases decide ((aD.length : Int) > 40) <;> rfl
theorem BaseOkI {aB : LD} {aA aC : Int} {aD : LD} (g0 : ZB Ya lim aB) (g3 : ZB Yb lim aD) {k : Nat} (hk : Zai 1 k) {β : Type} (K : Bool → Option β) : YK.f k aB aA aC aD K = K (Ym.v aB aA aC aD) :=
 YK.f_of ((YK.same g0 g3 hk).trans (Ym.tv g0 g3 hk)) K
theorem YL.f_of {β : Type} {k a0 z0} (h : YL.t k a0 = some z0) (K : LC → Option β) : YL.f k a0 K = K z0 := by unfold YL.f; rw [h]; rfl
theorem clone_string_fv {a : LD} (g : ZB RS lim a) {k : Nat} {β : Type} (K : LC → Option β) : YL.f k a K = K (a.map (·.map C.d)) := YL.f_of (by
 have hl := g.1
 have hlim : lim = 1048576 := rfl
 have hm : Z8 = 2 ^ 36 := rfl
 unfold YL.t YL.g
 rw [ZH (RS.flat g.2),ZH (by simp only [List.length_nil,map_len]; omega),List.nil_append]
 exact nilSl_same) K
theorem Yn.f_of {β : Type} {k aB aA aC aD aK z0 z1 z2 z3 z4} (h : Yn.t k aB aA aC aD aK = some (z0,z1,z2,z3,z4)) (K : Int → BA → Int → LC → LC → Option β) : Yn.f k aB aA aC aD aK K = K z0 z1 z2 z3 z4 := by unfold Yn.f Yn.w; rw [h]; rfl
set_option maxRecDepth 100000 in
theorem copyVal (n : Nat) : ∀ (c0 : Int) (c1 : BA) (c2 : Int) (c3 c4 : LD),ZB RS lim c3 → c4.length ≤ lim → (∀ x ∈ c4,Yan lim n x) → ∀ {k : Nat},big + n + 1 ≤ k → Yn.t k c0 c1 c2 c3 c4 = some (c0,c1,c2,Zc c3,Zc c4) := by
 have hm : Z8 = 2 ^ 36 := rfl
 have hlim : lim = 1048576 := rfl
 have hb : big = 2 ^ 64 := rfl
 induction n using Nat.strongRecOn with
 | ind n ih =>
 intro c0 c1 c2 c3 c4 g3 l4 g4 k hk
 obtain ⟨k,rfl⟩ : ∃ k',k = k' + 1 := ⟨k - 1,by omega⟩
 rw [Yn.t_succ]
 unfold Yn.g Yn.body
 rw [clone_string_fv g3]
 refine (ZbT (xs := c4) (r := some (c0,c1,c2,c3.map (·.map C.d),Zc c4)) (by omega) (fun L i hi => ?_) (fun L => ?_)).trans (by rw [RS.deep g3.2])
 ·have hl : (Zc (c4.take i)).length = i := by rw [ZS,List.length_take]; omega
  obtain ⟨n',hn',d0,d1,d2,d3,d4,e,w0,w1,w2,w3,w4,w5⟩ : ∃ n',n = n' + 1 ∧ ∃ d0 d1 d2 d3 d4,gR c4 (i : Int) = [.int .i64 d0,.str d1,.int .i64 d2,.sl d3,.sl d4] ∧ (Lit.int .i64 d0).wf = true ∧ d1.size ≤ lim ∧ (Lit.int .i64 d2).wf = true ∧ ZB RS lim d3 ∧ d4.length ≤ lim ∧ ∀ x ∈ d4,Yan lim n' x := by
   have := g4 _ (gR_mem (xs := c4) (v := (i : Int)) (by omega) (by omega))
   generalize gR c4 (i : Int) = r at this
   cases this with
   | mk e0 e1 e2 e3 e4 w0 p1 w2 p3 p4 p5 => exact ⟨_,rfl,_,_,_,_,_,rfl,w0,p1,w2,p3,p4,p5⟩
  simp (disch := omega) only [Yn.l0,atR,rdQ,Q.ask,ZY (show (i : Int) < c4.length by omega),cond_true,Zck (xs := c4) (v := (i : Int)),e,Z4,Z5,ZaQ,Zbl,Zan,Yn.f_of (ih n' (by omega) d0 d1 d2 d3 d4 w3 w4 w5 (k := k) (by omega)),Z9]
  rw [ZH (by rw [hl,List.length_singleton]; omega)]
  simp only [ZN,deepD]
 ·simp only [Yn.l0,atR,rdQ,Q.ask,ZZ (show ¬ (c4.length : Int) < c4.length by omega),cond_false]
set_option maxRecDepth 100000 in
theorem l4CopyVal (n : Nat) : ∀ (c0 : Int) (c1 : BA) (c2 : Int) (c3 c4 : LD),ZB RS lim c3 → c4.length ≤ lim → (∀ x ∈ c4,Yan lim n x) → ∀ {k : Nat},big + n + 1 ≤ k → Yw.t k c0 c1 c2 c3 c4 = some (c0,c1,c2,Zc c3,Zc c4) := by
 have hm : Z8 = 2 ^ 36 := rfl
 have hlim : lim = 1048576 := rfl
 have hb : big = 2 ^ 64 := rfl
 induction n using Nat.strongRecOn with
 | ind n ih =>
 intro c0 c1 c2 c3 c4 g3 l4 g4 k hk
 have l3 := g3.1
 obtain ⟨k,rfl⟩ : ∃ k',k = k' + 1 := ⟨k - 1,by omega⟩
 rw [Yw.t_succ]
 unfold Yw.g Yw.body
 rw [ZH (RS.flat g3.2),ZH (by simp only [List.length_nil,map_len]; omega),List.nil_append]
 refine (ZbT (xs := c4) (r := some (c0,c1,c2,c3.map (·.map C.d),Zc c4)) (by omega) (fun L i hi => ?_) (fun L => ?_)).trans (by rw [RS.deep g3.2])
 ·have hl : (Zc (c4.take i)).length = i := by rw [ZS,List.length_take]; omega
  obtain ⟨n',hn',d0,d1,d2,d3,d4,e,w0,w1,w2,w3,w4,w5⟩ : ∃ n',n = n' + 1 ∧ ∃ d0 d1 d2 d3 d4,gR c4 (i : Int) = [.int .i64 d0,.str d1,.int .i64 d2,.sl d3,.sl d4] ∧ (Lit.int .i64 d0).wf = true ∧ d1.size ≤ lim ∧ (Lit.int .i64 d2).wf = true ∧ ZB RS lim d3 ∧ d4.length ≤ lim ∧ ∀ x ∈ d4,Yan lim n' x := by
   have := g4 _ (gR_mem (xs := c4) (v := (i : Int)) (by omega) (by omega))
   generalize gR c4 (i : Int) = r at this
   cases this with
   | mk e0 e1 e2 e3 e4 w0 p1 w2 p3 p4 p5 => exact ⟨_,rfl,_,_,_,_,_,rfl,w0,p1,w2,p3,p4,p5⟩
  simp (disch := omega) only [Yw.l0,atR,rdQ,Q.ask,ZY (show (i : Int) < c4.length by omega),cond_true,Zck (xs := c4) (v := (i : Int)),e,Z4,Z5,ZaQ,Zbl,Zan,Yw.f_of (ih n' (by omega) d0 d1 d2 d3 d4 w3 w4 w5 (k := k) (by omega)),Z9]
  rw [ZH (by rw [hl,List.length_singleton]; omega)]
  simp only [ZN,deepD]
 ·simp only [Yw.l0,atR,rdQ,Q.ask,ZZ (show ¬ (c4.length : Int) < c4.length by omega),cond_false]
theorem value_h {xs : LD} (g : ZB Yu lim xs) : ∀ x ∈ xs,Yan lim 1099511627776 x := fun x hx => by
 obtain ⟨h,hh,hx⟩ := g.2 x hx
 exact hx.mono (hh (by decide))
theorem copyValue_fv {c0 c2 : Int} {c1 : BA} {c3 c4 : LD} (g3 : ZB RS lim c3) (g4 : ZB Yu lim c4) {k : Nat} (hk : Zai 1 k) {β : Type} (K : Int → BA → Int → LC → LC → Option β) : Yn.f k c0 c1 c2 c3 c4 K = K c0 c1 c2 (Zc c3) (Zc c4) :=
 Yn.f_of (copyVal 1099511627776 c0 c1 c2 c3 c4 g3 g4.1 (value_h g4) (Nat.le_trans (big_lv1 (n := 1099511627776 + 1) (by omega)) hk)) K
theorem l4Copy_fv {c0 c2 : Int} {c1 : BA} {c3 c4 : LD} (g3 : ZB RS lim c3) (g4 : ZB Yu lim c4) {k : Nat} (hk : Zai 1 k) {β : Type} (K : Int → BA → Int → LC → LC → Option β) : Yw.f k c0 c1 c2 c3 c4 K = K c0 c1 c2 (Zc c3) (Zc c4) :=
 Yw.f_of (l4CopyVal 1099511627776 c0 c1 c2 c3 c4 g3 g4.1 (value_h g4) (Nat.le_trans (big_lv1 (n := 1099511627776 + 1) (by omega)) hk)) K
set_option maxRecDepth 100000 in
theorem sameVal (n : Nat) : ∀ (c0 : Int) (c1 : BA) (c2 : Int) (c3 c4 : LD),ZB RS lim c3 → c4.length ≤ lim → (∀ x ∈ c4,Yan lim n x) → ∀ {k : Nat},big + n + 1 ≤ k → Yf.t k c0 c1 c2 c3 c4 c0 c1 c2 c3 c4 = some true := by
 have hlim : lim = 1048576 := rfl
 have hb : big = 2 ^ 64 := rfl
 induction n using Nat.strongRecOn with
 | ind n ih =>
 intro c0 c1 c2 c3 c4 g3 l4 g4 k hk
 have l3 := g3.1
 obtain ⟨k,rfl⟩ : ∃ k',k = k' + 1 := ⟨k - 1,by omega⟩
 rw [Yf.t_succ]
 unfold Yf.g Yf.body Yf.m
 simp only [bne_self_eq_false,strEq_self,Bool.not_true,cond_false]
 refine iter_seq (f := fun t => (t : Int)) (n := c3.length) (by omega) (fun L t ht => ?_) (fun L => ?_)
 ·simp (disch := omega) only [Yf.l0,Yf.m0,atR,rdQ,Q.ask,ZY (show (t : Int) < (c3.length : Int) by omega),cond_true,RS.row g3,Z4,ZaQ,Zan,strEq_self,Bool.not_true,cond_false,Z9]
  rfl
 ·simp only [Yf.l0,Yf.m0,atR,rdQ,Q.ask]
  rw [ZZ (by omega)]
  simp only [cond_false]
  refine iter_seq (f := fun t => (t : Int)) (n := c4.length) (by omega) (fun L i hi => ?_) (fun L => ?_)
  ·obtain ⟨n',hn',d0,d1,d2,d3,d4,e,w0,w1,w2,w3,w4,w5⟩ : ∃ n',n = n' + 1 ∧ ∃ d0 d1 d2 d3 d4,gR c4 (i : Int) = [.int .i64 d0,.str d1,.int .i64 d2,.sl d3,.sl d4] ∧ (Lit.int .i64 d0).wf = true ∧ d1.size ≤ lim ∧ (Lit.int .i64 d2).wf = true ∧ ZB RS lim d3 ∧ d4.length ≤ lim ∧ ∀ x ∈ d4,Yan lim n' x := by
    have := g4 _ (gR_mem (xs := c4) (v := (i : Int)) (by omega) (by omega))
    generalize gR c4 (i : Int) = r at this
    cases this with
    | mk e0 e1 e2 e3 e4 w0 p1 w2 p3 p4 p5 => exact ⟨_,rfl,_,_,_,_,_,rfl,w0,p1,w2,p3,p4,p5⟩
   simp (disch := omega) only [Yf.l1,atR,rdQ,Q.ask,ZY (show (i : Int) < (c4.length : Int) by omega),cond_true,Zck (xs := c4) (v := (i : Int)),e,Z4,Z5,ZaQ,Zbl,Zan,Yf.f_of (ih n' (by omega) d0 d1 d2 d3 d4 w3 w4 w5 (k := k) (by omega)),Bool.not_true,cond_false,Z9]
   rfl
  ·simp only [Yf.l1,atR,rdQ,Q.ask]
   rw [ZZ (by omega)]
   rfl
theorem sameValue_f {c0 c2 : Int} {c1 : BA} {c3 c4 : LD} (g3 : ZB RS lim c3) (g4 : ZB Yu lim c4) {k : Nat} (hk : Zai 1 k) {β : Type} (K : Bool → Option β) : Yf.f k c0 c1 c2 c3 c4 c0 c1 c2 c3 c4 K = K true :=
 Yf.f_of (sameVal 1099511627776 c0 c1 c2 c3 c4 g3 g4.1 (value_h g4) (Nat.le_trans (big_lv1 (n := 1099511627776 + 1) (by omega)) hk)) K
theorem Yag.f_of {β : Type} {k : Nat} {aB : Int} {aA : BA} {aC aD aK : Int} {bY : Bool} {bA : LD} {bH : Int} {bB : BA} {bI : Int} {bC bD : LD} {bJ : Int} {bE : BA} {bK : Int} {bF bG : LD} {z0 : Int} {z1 : BA} {z2 z3 z4 : Int} {z5 : Bool} {z6 : LC} {z7 : Int} {z8 : BA} {z9 : Int} {z10 z11 : LC} {z12 : Int} {z13 : BA} {z14 : Int} {z15 z16 : LC} (h : Yag.t k aB aA aC aD aK bY bA bH bB bI bC bD bJ bE bK bF bG = some (z0,z1,z2,z3,z4,z5,z6,z7,z8,z9,z10,z11,z12,z13,z14,z15,z16)) (K : Int → BA → Int → Int → Int → Bool → LC → Int → BA → Int → LC → LC → Int → BA → Int → LC → LC → Option β) : Yag.f k aB aA aC aD aK bY bA bH bB bI bC bD bJ bE bK bF bG K = K z0 z1 z2 z3 z4 z5 z6 z7 z8 z9 z10 z11 z12 z13 z14 z15 z16 := by
 unfold Yag.f
 rw [h]
theorem Ya6 {x0 : Int} {x1 : BA} {x2 x3 x4 : Int} {x5 : Bool} {x6 : LD} {x7 : Int} {x8 : BA} {x9 : Int} {x10 x11 : LD} {x12 : Int} {x13 : BA} {x14 : Int} {x15 x16 : LD} (g6 : ZB RS lim x6) (g10 : ZB RS lim x10) (g11 : ZB Yu lim x11) (g15 : ZB RS lim x15) (g16 : ZB Yu lim x16) {k : Nat} (hk : Zai 1 k) {β : Type} (K : Int → BA → Int → Int → Int → Bool → LC → Int → BA → Int → LC → LC → Int → BA → Int → LC → LC → Option β) : Y9.f k x0 x1 x2 x3 x4 x5 x6 x7 x8 x9 x10 x11 x12 x13 x14 x15 x16 K = K x0 x1 x2 x3 x4 x5 (Zc x6) x7 x8 x9 (Zc x10) (Zc x11) x12 x13 x14 (Zc x15) (Zc x16) := Y9.f_of (by
 have hm : Z8 = 2 ^ 36 := rfl
 have hlim : lim = 1048576 := rfl
 have l := g6.1
 unfold Y9.t Y9.g
 rw [ZH (RS.flat g6.2),ZH (by simp only [List.length_nil,map_len]; omega),List.nil_append,l4Copy_fv g10 g11 hk,l4Copy_fv g15 g16 hk,← RS.deep g6.2]) K
theorem copyObj_fv {x0 : Int} {x1 : BA} {x2 x3 x4 : Int} {x5 : Bool} {x6 : LD} {x7 : Int} {x8 : BA} {x9 : Int} {x10 x11 : LD} {x12 : Int} {x13 : BA} {x14 : Int} {x15 x16 : LD} (g6 : ZB RS lim x6) (g10 : ZB RS lim x10) (g11 : ZB Yu lim x11) (g15 : ZB RS lim x15) (g16 : ZB Yu lim x16) {k : Nat} (hk : Zai 1 k) {β : Type} (K : Int → BA → Int → Int → Int → Bool → LC → Int → BA → Int → LC → LC → Int → BA → Int → LC → LC → Option β) : Yag.f k x0 x1 x2 x3 x4 x5 x6 x7 x8 x9 x10 x11 x12 x13 x14 x15 x16 K = K x0 x1 x2 x3 x4 x5 (Zc x6) x7 x8 x9 (Zc x10) (Zc x11) x12 x13 x14 (Zc x15) (Zc x16) := Yag.f_of (by
 unfold Yag.t Yag.g
 rw [clone_string_fv g6,copyValue_fv g10 g11 hk,copyValue_fv g15 g16 hk,← RS.deep g6.2]) K
set_option maxRecDepth 10000 in
theorem l7CopyLog_fv {a : LD} (g : ZB Yb lim a) {k : Nat} (hk : Zai 1 k) {β : Type} (K : LC → Option β) : YE.f k a K = K (Zc a) := YE.f_of (by
 have hm : Z8 = 2 ^ 36 := rfl
 have hlim : lim = 1048576 := rfl
 have hb : big = 2 ^ 64 := rfl
 have hk0 : big ≤ k := up0 hk
 have l := g.1
 unfold YE.t YE.g
 refine ZbT (xs := a) (by omega) (fun L i hi => ?_) (fun L => ?_)
 ·have hl : (Zc (a.take i)).length = i := by rw [ZS,List.length_take]; omega
  obtain ⟨e,-,-,-,-,-,-,k6,-,-,-,k10,k11,-,-,-,k15,k16,-⟩ := Yb.get g (v := (i : Int)) (by omega) (by omega)
  unfold YE.l0; simp only [atR,rdQ,Q.ask]
  simp (disch := omega) only [ZY (show (i : Int) < a.length by omega),cond_true,Zck (xs := a) (v := (i : Int)),e,Z4,Z5,ZaQ,ZaV,Zbl,Zan,Ya6 k6 k10 k11 k15 k16 hk,Z9]
  rw [ZH (by rw [hl,List.length_singleton]; omega)]
  simp only [ZN,deepD]
 ·unfold YE.l0; simp only [atR,rdQ,Q.ask]
  simp only [ZZ (show ¬ (a.length : Int) < a.length by omega),cond_false]) K
theorem with_step {l : LD} {o o' : List D} {i : Nat} (hi : i < l.length) {put : Bool} : YaQ Yab YaN o o' put (l.drop i) = (if !put && !Yab l[i] o then [o'] else []) ++ ((if YaN l[i] o then [] else [l[i]]) ++ YaQ Yab YaN o o' (put || !Yab l[i] o) (l.drop (i + 1))) := by
 rw [List.drop_eq_getElem_cons hi]
 conv => lhs; unfold YaQ
theorem withF_nil {α : Type} {less same : α → α → Bool} {o o' : α} {put : Bool} : YaQ less same o o' put [] = if put then [] else [o'] := by unfold YaQ; rfl
theorem gR_lt {l : LD} {i : Nat} (hi : i < l.length) : gR l (i : Int) = l[i] := by
 unfold gR
 rw [Int.toNat_natCast,List.getD_eq_getElem?_getD,List.getElem?_eq_getElem hi]
 rfl
theorem less_gR {l : LD} {i : Nat} (hi : i < l.length) (o : List D) : Yab l[i] o = lessV (gI l (i : Int) 0) (gS l (i : Int) 1) (rI o 0) (rS o 1) := by
 rw [← gR_lt hi]
 rfl
theorem same_gR {l : LD} {i : Nat} (hi : i < l.length) (o : List D) : YaN l[i] o = ((gI l (i : Int) 0 == rI o 0) && Zae (gS l (i : Int) 1) (rS o 1)) := by
 rw [← gR_lt hi]
 rfl
set_option maxRecDepth 100000 in
set_option maxHeartbeats 8000000 in
theorem l7With_fv {l : LD} (g : ZB Ya lim l) {x0 : Int} {x1 : BA} {x2 x3 x4 : Int} {x5 : Bool} {x6 : LD} {x7 : Int} {x8 : BA} {x9 : Int} {x10 x11 : LD} {x12 : Int} {x13 : BA} {x14 : Int} {x15 x16 : LD} (g6 : ZB RS lim x6) (g10 : ZB RS lim x10) (g11 : ZB Yu lim x11) (g15 : ZB RS lim x15) (g16 : ZB Yu lim x16) {k : Nat} (hk : Zai 1 k) :
  ∃ ys,YX.t k l x0 x1 x2 x3 x4 x5 x6 x7 x8 x9 x10 x11 x12 x13 x14 x15 x16 = some ys ∧ C.immRows ys = YaQ Yab YaN [.int .i64 x0,.str x1,.int .i64 x2,.int .i64 x3,.int .i64 x4,.bool x5,.sl x6,.int .i64 x7,.str x8,.int .i64 x9,.sl x10,.sl x11,.int .i64 x12,.str x13,.int .i64 x14,.sl x15,.sl x16] [.int .i64 x0,.str x1,.int .i64 x2,.int .i64 x3,.int .i64 x4,.bool x5,.sl x6,.int .i64 x7,.str x8,.int .i64 x9,.sl x10,.sl x11,.int .i64 x12,.str x13,.int .i64 x14,.sl x15,.sl x16] false l := by
 have hlim : lim = 1048576 := rfl
 have hm : Z8 = 2 ^ 36 := rfl
 have hb : big = 2 ^ 64 := rfl
 have hl := g.1
 have hk0 : Fuel k := up0 hk
 generalize ho : ([.int .i64 x0,.str x1,.int .i64 x2,.int .i64 x3,.int .i64 x4,.bool x5,.sl x6,.int .i64 x7,.str x8,.int .i64 x9,.sl x10,.sl x11,.int .i64 x12,.str x13,.int .i64 x14,.sl x15,.sl x16] : List D) = o
 have hcp : C.immRows ([[.d (.int .i64 x0),.d (.str x1),.d (.int .i64 x2),.d (.int .i64 x3),.d (.int .i64 x4),.d (.bool x5),.own (Zc x6),.d (.int .i64 x7),.d (.str x8),.d (.int .i64 x9),.own (Zc x10),.own (Zc x11),.d (.int .i64 x12),.d (.str x13),.d (.int .i64 x14),.own (Zc x15),.own (Zc x16)]] : LC) = [o] := by
  simp only [C.immRows,C.immCells,C.imm,ZK,ho]
 have hr0 : rI o 0 = x0 := by rw [← ho]; rfl
 have hr1 : rS o 1 = x1 := by rw [← ho]; rfl
 unfold YX.t YX.g
 refine Ya0 (fun v => (l.length : Int).toNat - v.2.1.toNat) (fun v => 0 ≤ v.2.1 ∧ v.2.1 ≤ (l.length : Int) ∧ (v.2.2.length : Int) ≤ v.2.1 + (bif v.1 then 1 else 0) ∧ C.immRows v.2.2 ++ YaQ Yab YaN o o v.1 (l.drop v.2.1.toNat) = YaQ Yab YaN o o false l) (fun z => ∃ ys,z = some ys ∧ C.immRows ys = YaQ Yab YaN o o false l) ?_ (v := (false,0,[])) ⟨by simp,by simp,by simp,by simp [C.immRows]⟩ (by unfold Fuel at hk0; show (l.length : Int).toNat - 0 < k; omega)
 rintro ⟨put,n,out⟩ ⟨n0,n1,hlen,heq⟩ L hL
 replace n0 : 0 ≤ n := n0
 obtain ⟨i,rfl⟩ : ∃ i : Nat,n = (i : Int) := ⟨n.toNat,by omega⟩
 replace n1 : (i : Int) ≤ (l.length : Int) := n1
 replace hlen : (out.length : Int) ≤ (i : Int) + (bif put then 1 else 0) := hlen
 have hput : (bif put then (1 : Int) else 0) ≤ 1 := by cases put <;> decide
 replace heq : C.immRows out ++ YaQ Yab YaN o o put (l.drop (i : Int).toNat) = YaQ Yab YaN o o false l := heq
 rw [Int.toNat_natCast] at heq
 have hw1 : IntKind.wrap .i64 ((i : Int) + 1) = (i : Int) + 1 := Z9 (by omega) (by omega)
 by_cases hi : i < l.length
 ·obtain ⟨hrow,-⟩ := Ya.gets g.2 (v := (i : Int)) (by omega) (by omega)
  rw [with_step hi,less_gR hi,same_gR hi,hr0,hr1] at heq
  rw [gR_lt hi] at hrow
  rw [hrow] at heq
  have next : ∀ (put' : Bool) (out' : LC),(out'.length : Int) ≤ (i : Int) + 1 + (bif put' then 1 else 0) → C.immRows out' ++ YaQ Yab YaN o o put' (l.drop (i + 1)) = YaQ Yab YaN o o false l → ∃ ys,L (put',(i : Int) + 1,out') = some ys ∧ C.immRows ys = YaQ Yab YaN o o false l := fun put' out' q1 q2 =>
   hL _ ⟨by show 0 ≤ (i : Int) + 1; omega,by show (i : Int) + 1 ≤ _; omega,q1,by show C.immRows out' ++ YaQ Yab YaN o o put' (l.drop ((i : Int) + 1).toNat) = _; rw [show ((i : Int) + 1).toNat = i + 1 by omega]; exact q2⟩ (by show (l.length : Int).toNat - ((i : Int) + 1).toNat < (l.length : Int).toNat - (i : Int).toNat; omega)
  simp (config := {maxSteps := 4000000}) (disch := omega) only [YX.l0,atR,rdQ,Q.ask,ZY (show (i : Int) < (l.length : Int) by omega),cond_true,Ya.row g,Z4,Z5,ZaQ,ZaV,Zbl,Zan,l7Less_fv,Ya6 g6 g10 g11 g15 g16 hk,hw1,List.length_append,List.length_singleton]
  have gd : ∀ {β : Type} (F : Option β),Zd (out.length + 1 ≤ Z8) F = F := fun F => ZH (by omega)
  have gd2 : ∀ {β : Type} (F : Option β),Zd (out.length + 1 + 1 ≤ Z8) F = F := fun F => ZH (by omega)
  simp only [gd,gd2]
  have hcl : C.immRows ([[.d (.int .i64 (gI l (i : Int) 0)),.d (.str (gS l (i : Int) 1)),.d (.int .i64 (gI l (i : Int) 2)),.d (.int .i64 (gI l (i : Int) 3)),.d (.int .i64 (gI l (i : Int) 4)),.d (.bool (gB l (i : Int) 5)),.d (.sl (gL l (i : Int) 6)),.d (.int .i64 (gI l (i : Int) 7)),.d (.str (gS l (i : Int) 8)),.d (.int .i64 (gI l (i : Int) 9)),.d (.sl (gL l (i : Int) 10)),.d (.sl (gL l (i : Int) 11)),.d (.int .i64 (gI l (i : Int) 12)),.d (.str (gS l (i : Int) 13)),.d (.int .i64 (gI l (i : Int) 14)),.d (.sl (gL l (i : Int) 15)),.d (.sl (gL l (i : Int) 16))]] : LC) = [l[i]] := by
   rw [hrow]
   simp only [C.immRows,C.immCells,C.imm]
  rw [← hrow] at heq
  generalize ([[.d (.int .i64 x0),.d (.str x1),.d (.int .i64 x2),.d (.int .i64 x3),.d (.int .i64 x4),.d (.bool x5),.own (Zc x6),.d (.int .i64 x7),.d (.str x8),.d (.int .i64 x9),.own (Zc x10),.own (Zc x11),.d (.int .i64 x12),.d (.str x13),.d (.int .i64 x14),.own (Zc x15),.own (Zc x16)]] : LC) = cp at hcp ⊢
  generalize ([[.d (.int .i64 (gI l (i : Int) 0)),.d (.str (gS l (i : Int) 1)),.d (.int .i64 (gI l (i : Int) 2)),.d (.int .i64 (gI l (i : Int) 3)),.d (.int .i64 (gI l (i : Int) 4)),.d (.bool (gB l (i : Int) 5)),.d (.sl (gL l (i : Int) 6)),.d (.int .i64 (gI l (i : Int) 7)),.d (.str (gS l (i : Int) 8)),.d (.int .i64 (gI l (i : Int) 9)),.d (.sl (gL l (i : Int) 10)),.d (.sl (gL l (i : Int) 11)),.d (.int .i64 (gI l (i : Int) 12)),.d (.str (gS l (i : Int) 13)),.d (.int .i64 (gI l (i : Int) 14)),.d (.sl (gL l (i : Int) 15)),.d (.sl (gL l (i : Int) 16))]] : LC) = cl at hcl ⊢
  have lcp : cp.length = 1 := by have := congrArg List.length hcp; rwa [Yba,List.length_map] at this
  have lcl : cl.length = 1 := by have := congrArg List.length hcl; rwa [Yba,List.length_map] at this
  generalize l[i] = li at *
  generalize lessV (gI l (i : Int) 0) (gS l (i : Int) 1) x0 x1 = bl at *
  generalize Zae (gS l (i : Int) 1) x1 = bs at *
  simp only [bne]
  generalize (gI l (i : Int) 0 == x0) = be at *
  cases put <;> cases bl <;> cases be <;> cases bs
  all_goals
   simp only [Bool.not_true,Bool.not_false,cond_true,cond_false,Bool.and_true,Bool.and_false,Bool.true_and,Bool.false_and,Bool.or_true,Bool.or_false,Bool.false_or,Bool.true_or,if_true,if_false,Bool.false_eq_true,List.nil_append] at heq ⊢
   simp only [cond_true,cond_false] at hlen
   first
   | exact next _ _ (by simp only [cond_true,cond_false]; omega) heq
   | exact next _ _ (by simp only [cond_true,cond_false,List.length_append]; omega) (by rw [Za3,hcl,List.append_assoc]; exact heq)
   | exact next _ _ (by simp only [cond_true,cond_false,List.length_append]; omega) (by rw [Za3,hcp,List.append_assoc]; exact heq)
   | exact next _ _ (by simp only [cond_true,cond_false,List.length_append]; omega) (by rw [Za3,Za3,hcp,hcl,List.append_assoc,List.append_assoc]; exact heq)
 ·have hle : l.length ≤ i := by omega
  rw [List.drop_eq_nil_of_le hle] at heq
  simp (config := {maxSteps := 4000000}) (disch := omega) only [YX.l0,atR,rdQ,Q.ask,ZZ (show ¬ (i : Int) < (l.length : Int) by omega),cond_false,Ya6 g6 g10 g11 g15 g16 hk,List.length_singleton]
  rw [withF_nil] at heq
  cases put with
  | true => exact ⟨out,rfl,by simpa using heq⟩
  | false =>
   rw [Bool.not_false,cond_true,ZH (by omega)]
   exact ⟨_,rfl,by rw [Za3,hcp]; simpa using heq⟩
theorem YP.f_of {β : Type} {k a0 z0} (h : YP.t k a0 = some z0) (K : LC → Option β) : YP.f k a0 K = K z0 := by unfold YP.f; rw [h]; rfl
set_option maxRecDepth 100000 in
theorem copyLog_fv {a : LD} (g : ZB Yb lim a) {k : Nat} (hk : Zai 1 k) {β : Type} (K : LC → Option β) : YP.f k a K = K (Zc a) := YP.f_of (by
 have hm : Z8 = 2 ^ 36 := rfl
 have hlim : lim = 1048576 := rfl
 have hb : big = 2 ^ 64 := rfl
 have hk0 : big ≤ k := up0 hk
 have l := g.1
 unfold YP.t YP.g
 refine ZbT (xs := a) (by omega) (fun L i hi => ?_) (fun L => ?_)
 ·have hl : (Zc (a.take i)).length = i := by rw [ZS,List.length_take]; omega
  obtain ⟨e,-,-,-,-,-,-,k6,-,-,-,k10,k11,-,-,-,k15,k16,-⟩ := Yb.get g (v := (i : Int)) (by omega) (by omega)
  simp (disch := omega) only [YP.l0,atR,rdQ,Q.ask,ZY (show (i : Int) < a.length by omega),cond_true,Zck (xs := a) (v := (i : Int)),e,Z4,Z5,ZaQ,ZaV,Zbl,Zan,copyObj_fv k6 k10 k11 k15 k16 hk,Z9]
  rw [ZH (by rw [hl,List.length_singleton]; omega)]
  simp only [ZN,deepD]
 ·simp only [YP.l0,atR,rdQ,Q.ask,ZZ (show ¬ (a.length : Int) < a.length by omega),cond_false]) K
theorem Yal.f_of {β : Type} {k aB aA aC aD aK bY bA bH bB bI bC bD bJ bE bK bF bG a0_17 a0_18 f0_0 z0} (h : Yal.t k aB aA aC aD aK bY bA bH bB bI bC bD bJ bE bK bF bG a0_17 a0_18 f0_0 = some z0) (K : Bool → Option β) : Yal.f k aB aA aC aD aK bY bA bH bB bI bC bD bJ bE bK bF bG a0_17 a0_18 f0_0 K = K z0 := by unfold Yal.f; rw [h]; rfl
theorem Yi.f_of {β : Type} {k : Nat} {xs : LC} {c0_0 : Int} {z0 : LC} (h : Yi.t k xs c0_0 = some z0) (K : LC → Option β) : Yi.f k xs c0_0 K = K z0 := by
 unfold Yi.f
 rw [h]
theorem Yau.f_of {β : Type} {k aB aA aC aD a1 z0 z1} (h : Yau.t k aB aA aC aD a1 = some (z0,z1)) (K : LC → Bool → Option β) : Yau.f k aB aA aC aD a1 K = K z0 z1 := by unfold Yau.f; rw [h]; rfl
set_option maxRecDepth 100000 in
theorem delSince_fv {d : LD} {n : Int} (g : ZB Yb lim d) {k : Nat} (hk : Zai 1 k) {β : Type} (K : LC → Option β) : Yi.f k (Zc d) n K = K (Zc (sinceL d n)) := by
 have hl := g.1
 have hlim : lim = 1048576 := rfl
 have hb : big = 2 ^ 64 := rfl
 have hk0 : big ≤ k := up0 hk
 refine Yi.f_of ?_ K
 unfold Yi.t sinceL
 refine delK_deep (by omega) ?_ (fun r hr => ?_)
 ·unfold Yg.t Yg.g
  refine iter_findI (n := d.length) (fun i => decide (rI (gR d (i : Int)) 0 ≤ n)) some (by omega) (fun L i hi => ?_) (fun L => by simp [Yg.l0,atR,rdQ,Q.ask])
  obtain ⟨e,-⟩ := Yb.get g (v := (i : Int)) (by omega) (by omega)
  rw [show rI (gR d (i : Int)) 0 = gI d (i : Int) 0 from rfl]
  unfold Yg.l0; simp only [atR,rdQ,Q.ask]
  simp (disch := omega) only [ZY (show (i : Int) < d.length by omega),cond_true,Yb.row g,Z4,Z5,ZaQ,ZaV,Zbl,Zan,Z9]
  rw [Yal.f_of (by unfold Yal.t Yal.g; rfl)]
 ·obtain ⟨i,hi,rfl⟩ := List.mem_iff_getElem.mp hr
  have hg : gR d (i : Int) = d[i] := by
   have := gR_at (xs := d) (v := (i : Int)) (by omega) (by omega)
   rw [Int.toNat_natCast,List.getElem?_eq_getElem hi] at this
   injection this with this
   exact this.symm
  obtain ⟨e,-⟩ := Yb.get g (v := (i : Int)) (by omega) (by omega)
  rw [← hg,show rI (gR d (i : Int)) 0 = gI d (i : Int) 0 from rfl,e]
  simp only []
  unfold Yal.t Yal.g
  rfl
theorem impl_Since_t {a : LD} {b c n : Int} {d : LD} (g0 : ZB Ya lim a) (g3 : ZB Yb lim d) {k : Nat} (hk : Zai 1 k) : Yau.t k a b c d n = some (YaT a b c d n) := by
 unfold Yau.t Yau.g YaT
 rw [BaseOkI g0 g3 hk,copyLog_fv g3 hk]
 simp only [Ya4,delSince_fv g3 hk,ZS]
 cases Ym.v a b c d
 ·rfl
 cases inB n 0 b
 ·rfl
 simp only [Bool.not_true,cond_false,cond_true,Bool.true_and]
 cases decide (((sinceL d n).length : Int) < IntKind.wrap .i64 (b - n)) <;> rfl
theorem YG.f_of {β : Type} {k a0 z0} (h : YG.t k a0 = some z0) (K : LC → Option β) : YG.f k a0 K = K z0 := by unfold YG.f; rw [h]; rfl
set_option maxRecDepth 100000 in
theorem l7CopyObjs_fv {a : LD} (g : ZB Ya lim a) {k : Nat} (hk : Zai 1 k) {β : Type} (K : LC → Option β) : YA.f k a K = K (Zc a) := YA.f_of (by
 have hm : Z8 = 2 ^ 36 := rfl
 have hlim : lim = 1048576 := rfl
 have hb : big = 2 ^ 64 := rfl
 have hk0 : big ≤ k := up0 hk
 have l := g.1
 unfold YA.t YA.g
 refine ZbT (xs := a) (by omega) (fun L i hi => ?_) (fun L => ?_)
 ·have hl : (Zc (a.take i)).length = i := by rw [ZS,List.length_take]; omega
  obtain ⟨e,-,-,-,-,-,k6,-,-,-,k10,k11,-,-,-,k15,k16,-⟩ := Ya.get g (v := (i : Int)) (by omega) (by omega)
  simp (disch := omega) only [YA.l0,atR,rdQ,Q.ask,ZY (show (i : Int) < a.length by omega),cond_true,Zck (xs := a) (v := (i : Int)),e,Z4,Z5,ZaQ,ZaV,Zbl,Zan,Ya6 k6 k10 k11 k15 k16 hk,Z9]
  rw [ZH (by rw [hl,List.length_singleton]; omega)]
  simp only [ZN,deepD]
 ·simp only [YA.l0,atR,rdQ,Q.ask,ZZ (show ¬ (a.length : Int) < a.length by omega),cond_false]) K
set_option maxRecDepth 100000 in
theorem copyObjs_fv {a : LD} (g : ZB Ya lim a) {k : Nat} (hk : Zai 1 k) {β : Type} (K : LC → Option β) : YG.f k a K = K (Zc a) := YG.f_of (by
 have hm : Z8 = 2 ^ 36 := rfl
 have hlim : lim = 1048576 := rfl
 have hb : big = 2 ^ 64 := rfl
 have hk0 : big ≤ k := up0 hk
 have l := g.1
 unfold YG.t YG.g
 refine ZbT (xs := a) (by omega) (fun L i hi => ?_) (fun L => ?_)
 ·have hl : (Zc (a.take i)).length = i := by rw [ZS,List.length_take]; omega
  obtain ⟨e,-,-,-,-,-,k6,-,-,-,k10,k11,-,-,-,k15,k16,-⟩ := Ya.get g (v := (i : Int)) (by omega) (by omega)
  simp (disch := omega) only [YG.l0,atR,rdQ,Q.ask,ZY (show (i : Int) < a.length by omega),cond_true,Zck (xs := a) (v := (i : Int)),e,Z4,Z5,ZaQ,ZaV,Zbl,Zan,copyObj_fv k6 k10 k11 k15 k16 hk,Z9]
  rw [ZH (by rw [hl,List.length_singleton]; omega)]
  simp only [ZN,deepD]
 ·simp only [YG.l0,atR,rdQ,Q.ask,ZZ (show ¬ (a.length : Int) < a.length by omega),cond_false]) K
noncomputable def YaV (a : LD) (b c : Int) (d : LD) : Int × LC := bif Ym.v a b c d then (b,Zc a) else (0,[])
theorem spec_List_t {a0 : LD} {a1 a2 : Int} {a3 : LD} (g0 : ZB Ya lim a0) (g3 : ZB Yb lim a3) {k : Nat} (hk : Zai 1 k) : YaM.t k a0 a1 a2 a3 = some (YaV a0 a1 a2 a3) := by
 unfold YaM.t YaM.g YaV
 rw [Ym.fv g0 g3 hk,l7CopyObjs_fv g0 hk]
 cases Ym.v a0 a1 a2 a3 <;> rfl
theorem Yaz.f_of {β : Type} {k aB aA aC aD z0 z1} (h : Yaz.t k aB aA aC aD = some (z0,z1)) (K : Int → LC → Option β) : Yaz.f k aB aA aC aD K = K z0 z1 := by unfold Yaz.f; rw [h]; rfl
theorem impl_List_t {a0 : LD} {a1 a2 : Int} {a3 : LD} (g0 : ZB Ya lim a0) (g3 : ZB Yb lim a3) {k : Nat} (hk : Zai 1 k) : Yaz.t k a0 a1 a2 a3 = some (YaV a0 a1 a2 a3) := by
 unfold Yaz.t Yaz.g YaV
 rw [BaseOkI g0 g3 hk,copyObjs_fv g0 hk]
 cases Ym.v a0 a1 a2 a3 <;> rfl
theorem Yad.f_of {β : Type} {k aB aA z0} (h : Yad.t k aB aA = some z0) (K : Bool → Option β) : Yad.f k aB aA K = K z0 := by unfold Yad.f; rw [h]; rfl
theorem Y1.f_of {β : Type} {k aB aA z0 z1} (h : Y1.t k aB aA = some (z0,z1)) (K : Int → LC → Option β) : Y1.f k aB aA K = K z0 z1 := by unfold Y1.f; rw [h]; rfl
theorem Yc.f_of {β : Type} {k a0 aQ aR aT aV aX bL bM bN bO bP bQ bR bT bU bV bW bX z0 z1} (h : Yc.t k a0 aQ aR aT aV aX bL bM bN bO bP bQ bR bT bU bV bW bX = some (z0,z1)) (K : Int → Bool → Option β) : Yc.f k a0 aQ aR aT aV aX bL bM bN bO bP bQ bR bT bU bV bW bX K = K z0 z1 := by unfold Yc.f; rw [h]; rfl
theorem halfF {x : Int} (h0 : 0 ≤ x) (h1 : x < 4611686018427387904) : Int.fdiv (IntKind.wrap .u64 (IntKind.wrap .i64 x)) (2 ^ (min (1 : Int).toNat 64)) = x / 2 := by
 rw [Z9 (by omega) (by omega)]
 have : IntKind.wrap .u64 x = x := by simp only [IntKind.wrap,IntKind.signed,IntKind.bits]; simp; omega
 rw [this,show (min (1 : Int).toNat 64) = 1 from rfl,Int.pow_one,Int.fdiv_eq_ediv_of_nonneg _ (by decide)]
def AscO (l : LD) : Prop := l.Pairwise fun x y => Yab x y = true
set_option maxRecDepth 100000 in
set_option maxHeartbeats 4000000 in
theorem binObj_fv {l : LD} (g : ZB Ya lim l) (ha : AscO l) {x0 : Int} {x1 : BA} {x2 x3 x4 : Int} {x5 : Bool} {x6 : LD} {x7 : Int} {x8 : BA} {x9 : Int} {x10 x11 : LD} {x12 : Int} {x13 : BA} {x14 : Int} {x15 x16 : LD} {o : List D} (h0 : rI o 0 = x0) (h1 : rS o 1 = x1) {k : Nat} (hk : Fuel k) {β : Type} (K : Int → Bool → Option β) :
  Yc.f k l x0 x1 x2 x3 x4 x5 x6 x7 x8 x9 x10 x11 x12 x13 x14 x15 x16 K = K (lbF Yab o l : Int) (hitF Yab YaN o l) := by
 have hlim : lim = 1048576 := rfl
 have hb : big = 2 ^ 64 := rfl
 have hl := g.1
 have hle : lbF Yab o l ≤ l.length := (List.takeWhile_sublist _).length_le
 refine Yc.f_of ?_ K
 unfold Yc.t Yc.g
 refine iter_val (fun v : Int × Int => (v.2 - v.1).toNat) (fun v => 0 ≤ v.1 ∧ v.1 ≤ (lbF Yab o l : Int) ∧ (lbF Yab o l : Int) ≤ v.2 ∧ v.2 ≤ (l.length : Int)) (fun _ => some ((lbF Yab o l : Int),hitF Yab YaN o l)) ?_ k _ ⟨by simp,by simp,by simp; omega,by simp⟩ (by show ((l.length : Int) - 0).toNat < k; unfold Fuel at hk; omega)
 rintro ⟨i,j⟩ ⟨i0,i1,j0,j1⟩ L hL
 simp only [] at i0 i1 j0 j1 hL
 simp only [Yc.l0,atR,rdQ,Q.ask]
 by_cases h : i < j
 ·obtain ⟨m,hm⟩ : ∃ m : Nat,(i + j) / 2 = (m : Int) := ⟨((i + j) / 2).toNat,by omega⟩
  have hml : m < l.length := by omega
  obtain ⟨c,hc1,-,hc3⟩ := cmpObjs2 (x0 := gI l (m : Int) 0) (x1 := gS l (m : Int) 1) (x2 := gI l (m : Int) 2) (x3 := gI l (m : Int) 3) (x4 := gI l (m : Int) 4) (x5 := gB l (m : Int) 5) (x6 := gL l (m : Int) 6) (x7 := gI l (m : Int) 7) (x8 := gS l (m : Int) 8) (x9 := gI l (m : Int) 9) (x10 := gL l (m : Int) 10) (x11 := gL l (m : Int) 11) (x12 := gI l (m : Int) 12) (x13 := gS l (m : Int) 13) (x14 := gI l (m : Int) 14) (x15 := gL l (m : Int) 15) (x16 := gL l (m : Int) 16) (y0 := x0) (y1 := x1) (y2 := x2) (y3 := x3) (y4 := x4) (y5 := x5) (y6 := x6) (y7 := x7) (y8 := x8) (y9 := x9) (y10 := x10) (y11 := x11) (y12 := x12) (y13 := x13) (y14 := x14) (y15 := x15) (y16 := x16) (k := k)
  have hless : Yab l[m] o = decide (c < 0) := by rw [less_gR hml,h0,h1,hc1]
  rw [ZY h]
  simp only [cond_true]
  rw [halfF (by omega) (by omega),hm,Z9 (x := (m : Int)) (by omega) (by omega),ZH (by decide),Ya.row g (by omega) (by omega)]
  simp only [Z4,Z5,ZaQ,ZaV,Zbl,Zan,hc3]
  by_cases hq : c < 0
  ·rw [ZY hq] at hless
   have : m < lbF Yab o l := by
    rcases Nat.lt_or_ge m (lbF Yab o l) with z | z
    ·exact z
    ·rw [lbF_above Ya2 ha hml z] at hless; cases hless
   rw [ZY hq,cond_true,Z9 (by omega) (by omega)]
   exact hL _ ⟨by show 0 ≤ (m : Int) + 1; omega,by show (m : Int) + 1 ≤ _; omega,j0,j1⟩ (by simp only []; omega)
  ·rw [ZZ hq] at hless
   have : lbF Yab o l ≤ m := by
    rcases Nat.lt_or_ge m (lbF Yab o l) with z | z
    ·rw [lbF_below hml z] at hless; cases hless
    ·exact z
   rw [ZZ hq,cond_false]
   exact hL _ ⟨i0,i1,by show _ ≤ (m : Int); omega,by show (m : Int) ≤ _; omega⟩ (by simp only []; omega)
 ·rw [ZZ h]
  simp only [cond_false]
  obtain rfl : i = (lbF Yab o l : Int) := by omega
  unfold hitF
  by_cases hlt : lbF Yab o l < l.length
  ·obtain ⟨c,-,hc2,hc3⟩ := cmpObjs2 (x0 := gI l (lbF Yab o l : Int) 0) (x1 := gS l (lbF Yab o l : Int) 1) (x2 := gI l (lbF Yab o l : Int) 2) (x3 := gI l (lbF Yab o l : Int) 3) (x4 := gI l (lbF Yab o l : Int) 4) (x5 := gB l (lbF Yab o l : Int) 5) (x6 := gL l (lbF Yab o l : Int) 6) (x7 := gI l (lbF Yab o l : Int) 7) (x8 := gS l (lbF Yab o l : Int) 8) (x9 := gI l (lbF Yab o l : Int) 9) (x10 := gL l (lbF Yab o l : Int) 10) (x11 := gL l (lbF Yab o l : Int) 11) (x12 := gI l (lbF Yab o l : Int) 12) (x13 := gS l (lbF Yab o l : Int) 13) (x14 := gI l (lbF Yab o l : Int) 14) (x15 := gL l (lbF Yab o l : Int) 15) (x16 := gL l (lbF Yab o l : Int) 16) (y0 := x0) (y1 := x1) (y2 := x2) (y3 := x3) (y4 := x4) (y5 := x5) (y6 := x6) (y7 := x7) (y8 := x8) (y9 := x9) (y10 := x10) (y11 := x11) (y12 := x12) (y13 := x13) (y14 := x14) (y15 := x15) (y16 := x16) (k := k)
   rw [ZY (show (lbF Yab o l : Int) < (l.length : Int) by omega),cond_true,Ya.row g (by omega) (by omega),List.getElem?_eq_getElem hlt]
   simp only [Z4,Z5,ZaQ,ZaV,Zbl,Zan,hc3]
   rw [same_gR hlt,h0,h1,hc2]
  ·rw [ZZ (show ¬ (lbF Yab o l : Int) < (l.length : Int) by omega),cond_false,List.getElem?_eq_none (by omega)]
theorem YaB.f_of {β : Type} {k a0 aQ aR aT aV aX bL bM bN bO bP bQ bR bT bU bV bW bX z0} (h : YaB.t k a0 aQ aR aT aV aX bL bM bN bO bP bQ bR bT bU bV bW bX = some z0) (K : LC → Option β) : YaB.f k a0 aQ aR aT aV aX bL bM bN bO bP bQ bR bT bU bV bW bX K = K z0 := by unfold YaB.f; rw [h]; rfl
theorem Ybo : ∀ r : List D,(ZN r).length = r.length
 | [] => by simp only [ZN,List.length_nil]
 | d :: r => by simp only [ZN,List.length_cons,Ybo r]
theorem deepRows_mod {f : List C → List C} {o : List D} : ∀ {l : LD} {i : Nat},i < l.length → (∀ r,l[i]? = some r → f (ZN r) = ZN o) → (Zc l).modify i f = Zc (l.take i ++ o :: l.drop (i + 1))
 | [],i,h,_ => absurd h (by simp)
 | r :: xs,0,_,h2 => by
  simp only [Zc,List.modify_zero_cons,List.take_zero,List.nil_append,List.drop_succ_cons,List.drop_zero]
  rw [h2 r rfl]
 | r :: xs,i + 1,h1,h2 => by
  simp only [Zc,List.modify_succ_cons,List.take_succ_cons,List.cons_append,List.drop_succ_cons]
  rw [deepRows_mod (by simpa using h1) fun x hx => h2 x (by simpa using hx)]
theorem Ybm : ∀ {l : LD} {i : Nat},(Zc l).take i = Zc (l.take i)
 | [],i => by simp only [Zc,List.take_nil]
 | _ :: _,0 => by simp only [Zc,List.take_zero]
 | r :: xs,i + 1 => by simp only [Zc,List.take_succ_cons,Ybm]
theorem Ybn : ∀ {l : LD} {i : Nat},(Zc l).drop i = Zc (l.drop i)
 | [],i => by simp only [Zc,List.drop_nil]
 | _ :: _,0 => by simp only [Zc,List.drop_zero]
 | r :: xs,i + 1 => by simp only [Zc,List.drop_succ_cons,Ybn]
theorem splice_full {α : Type} {c n : List α} (h : c.length = n.length) : Zs c 0 n = n := by
 unfold Zs
 rw [List.take_zero,List.nil_append,Nat.zero_add,List.drop_eq_nil_of_le (by omega),List.append_nil]
set_option maxRecDepth 100000 in
set_option maxHeartbeats 4000000 in
theorem placed_fv {l : LD} (g : ZB Ya lim l) (ha : AscO l) {x0 : Int} {x1 : BA} {x2 x3 x4 : Int} {x5 : Bool} {x6 : LD} {x7 : Int} {x8 : BA} {x9 : Int} {x10 x11 : LD} {x12 : Int} {x13 : BA} {x14 : Int} {x15 x16 : LD} (g6 : ZB RS lim x6) (g10 : ZB RS lim x10) (g11 : ZB Yu lim x11) (g15 : ZB RS lim x15) (g16 : ZB Yu lim x16) {k : Nat} (hk : Zai 1 k) {β : Type} (K : LC → Option β) :
  YaB.f k (Zc l) x0 x1 x2 x3 x4 x5 x6 x7 x8 x9 x10 x11 x12 x13 x14 x15 x16 K = K (Zc (YaQ Yab YaN [.int .i64 x0,.str x1,.int .i64 x2,.int .i64 x3,.int .i64 x4,.bool x5,.sl x6,.int .i64 x7,.str x8,.int .i64 x9,.sl x10,.sl x11,.int .i64 x12,.str x13,.int .i64 x14,.sl x15,.sl x16] [.int .i64 x0,.str x1,.int .i64 x2,.int .i64 x3,.int .i64 x4,.bool x5,.sl x6,.int .i64 x7,.str x8,.int .i64 x9,.sl x10,.sl x11,.int .i64 x12,.str x13,.int .i64 x14,.sl x15,.sl x16] false l)) := YaB.f_of (by
 have hlim : lim = 1048576 := rfl
 have hm : Z8 = 2 ^ 36 := rfl
 have hl := g.1
 have hdl := ZS l
 generalize ho : ([.int .i64 x0,.str x1,.int .i64 x2,.int .i64 x3,.int .i64 x4,.bool x5,.sl x6,.int .i64 x7,.str x8,.int .i64 x9,.sl x10,.sl x11,.int .i64 x12,.str x13,.int .i64 x14,.sl x15,.sl x16] : List D) = o
 have hc : ([.d (.int .i64 x0),.d (.str x1),.d (.int .i64 x2),.d (.int .i64 x3),.d (.int .i64 x4),.d (.bool x5),.own (Zc x6),.d (.int .i64 x7),.d (.str x8),.d (.int .i64 x9),.own (Zc x10),.own (Zc x11),.d (.int .i64 x12),.d (.str x13),.d (.int .i64 x14),.own (Zc x15),.own (Zc x16)] : List C) = ZN o := by
  rw [← ho]; simp only [ZN,deepD]
 have hol : o.length = 17 := by rw [← ho]; rfl
 have hle : lbF Yab o l ≤ l.length := (List.takeWhile_sublist _).length_le
 unfold YaB.t YaB.g
 rw [ZK,binObj_fv g ha (o := o) (by rw [← ho]; rfl) (by rw [← ho]; rfl) (up0 hk),withF_eq Ya2 ha]
 cases hh : hitF Yab YaN o l with
 | true =>
  have hlt : lbF Yab o l < l.length := by
   rcases Nat.lt_or_ge (lbF Yab o l) l.length with q | q
   ·exact q
   ·unfold hitF at hh
    rw [List.getElem?_eq_none q] at hh
    cases hh
  rw [cond_true,copyObj_fv g6 g10 g11 g15 g16 hk,ZH (by omega),ZH (by omega),hc,Int.toNat_natCast,if_pos rfl]
  refine congrArg some (deepRows_mod hlt fun r hr => splice_full ?_)
  obtain ⟨hrow,-⟩ := Ya.gets g.2 (v := (lbF Yab o l : Int)) (by omega) (by omega)
  rw [gR_lt hlt] at hrow
  rw [List.getElem?_eq_getElem hlt] at hr
  injection hr with hr
  rw [Ybo,Ybo,hol,← hr,hrow]
  rfl
 | false =>
  rw [cond_false,copyObj_fv g6 g10 g11 g15 g16 hk]
  unfold YB.f YB.t
  rw [ZH (by simp only [List.length_singleton]; omega),hc,Int.toNat_natCast,if_neg (by decide),Nat.add_zero,Ybm,Ybn]
  simp only [Zbb,Zc,List.append_assoc,List.cons_append,List.nil_append]) K
theorem Yav.f_of {β : Type} {k aB aA aC aD aK bY bA bH bB bI bC bD bJ bE bK bF bG f0_0 f1_0 z0} (h : Yav.t k aB aA aC aD aK bY bA bH bB bI bC bD bJ bE bK bF bG f0_0 f1_0 = some z0) (K : Bool → Option β) : Yav.f k aB aA aC aD aK bY bA bH bB bI bC bD bJ bE bK bF bG f0_0 f1_0 K = K z0 := by unfold Yav.f; rw [h]; rfl
theorem Ye.f_of {β : Type} {k a0 a1_0_0 a1_1_0 z0} (h : Ye.t k a0 a1_0_0 a1_1_0 = some z0) (K : Int → Option β) : Ye.f k a0 a1_0_0 a1_1_0 K = K z0 := by unfold Ye.f; rw [h]; rfl
theorem YaH.f_of {β : Type} {k a0 a1 a2 z0} (h : YaH.t k a0 a1 a2 = some z0) (K : Int → Option β) : YaH.f k a0 a1 a2 K = K z0 := by unfold YaH.f; rw [h]; rfl
noncomputable def YaP (l : LD) (x : Int) (y : BA) : Int := ZbV (fun i => (gI l (i : Int) 0 == x) && Zae (gS l (i : Int) 1) y) l.length
set_option maxRecDepth 100000 in
theorem l7Find_fv {l : LD} (g : ZB Ya lim l) {x : Int} {y : BA} {k : Nat} (hk : Fuel k) {β : Type} (K : Int → Option β) : YM.f k l x y K = K (YaP l x y) := YM.f_of (by
 have hb : big = 2 ^ 64 := rfl
 have hlim : lim = 1048576 := rfl
 have hl := g.1
 unfold YM.t YM.g
 refine iter_findI (n := l.length) _ some (by unfold Fuel at hk; omega) (fun L i hi => ?_) (fun L => by simp [YM.l0,atR,rdQ,Q.ask])
 simp (disch := omega) only [YM.l0,atR,rdQ,Q.ask,ZY (show (i : Int) < l.length by omega),cond_true,Ya.row g,Z4,Z5,ZaQ,ZaV,Zbl,Zan,Z9]
 cases (gI l (i : Int) 0 == x) <;> cases Zae (gS l (i : Int) 1) y <;> rfl) K
set_option maxRecDepth 100000 in
theorem objAt_fv {l : LD} (g : ZB Ya lim l) {x : Int} {y : BA} {k : Nat} (hk : Fuel k) {β : Type} (K : Int → Option β) : YaH.f k l x y K = K (YaP l x y) := YaH.f_of (by
 have hb : big = 2 ^ 64 := rfl
 have hlim : lim = 1048576 := rfl
 have hl := g.1
 unfold YaH.t YaH.g
 rw [Ye.f_of (z0 := YaP l x y)]
 unfold Ye.t Ye.g
 refine iter_findI (n := l.length) _ some (by unfold Fuel at hk; omega) (fun L i hi => ?_) (fun L => by simp [Ye.l0,atR,rdQ,Q.ask])
 have hs : ∀ {x0 : Int} {x1 : BA} {x2 : Int} {x3 : Int} {x4 : Int} {x5 : Bool} {x6 : LD} {x7 : Int} {x8 : BA} {x9 : Int} {x10 : LD} {x11 : LD} {x12 : Int} {x13 : BA} {x14 : Int} {x15 : LD} {x16 : LD} {β : Type} (K : Bool → Option β),Yav.f k x0 x1 x2 x3 x4 x5 x6 x7 x8 x9 x10 x11 x12 x13 x14 x15 x16 x y K = K ((x0 == x) && Zae x1 y) := fun K => Yav.f_of (by unfold Yav.t Yav.g; rename_i x0 x1 _ _ _ _ _ _ _ _ _ _ _ _ _ _ _ _; cases (x0 == x) <;> rfl) K
 simp (disch := omega) only [Ye.l0,atR,rdQ,Q.ask,ZY (show (i : Int) < l.length by omega),cond_true,Ya.row g,Z4,Z5,ZaQ,ZaV,Zbl,Zan,hs,Z9]) K
theorem findO_lt {l : LD} {x : Int} {y : BA} (h : ¬ YaP l x y < 0) : ∃ n : Nat,YaP l x y = (n : Int) ∧ n < l.length := by
 unfold YaP at h ⊢
 obtain ⟨h1,-,h3,-⟩ := findI_some (p := fun i => (gI l (i : Int) 0 == x) && Zae (gS l (i : Int) 1) y) (n := l.length) (by omega)
 exact ⟨_,h3.symm,h1⟩
noncomputable def mirB (a : Int) (l : LD) : Bool := inB a 0 1000000 && objsB l 1000000 a
theorem asc_of {l : LD} (h : ∀ (i : Nat) (hi : i + 1 < l.length),Yab l[i] l[i + 1] = true) : AscO l := by
 unfold AscO
 rw [List.pairwise_iff_getElem]
 intro i j hi hj hij
 obtain ⟨d,rfl⟩ : ∃ d,j = i + 1 + d := ⟨j - (i + 1),by omega⟩
 induction d with
 | zero => exact h i hj
 | succ d ih => exact Ya2.trans _ _ _ (ih (by omega) (by omega)) (h (i + 1 + d) (by omega))
theorem Ybh {a : Int} {l : LD} (g : ZB Ya lim l) (h : mirB a l = true) : AscO l ∧ l.length ≤ 60 ∧ 0 ≤ a ∧ a ≤ 1000000 := by
 unfold mirB at h
 rw [Bool.and_eq_true] at h
 obtain ⟨h1,h2⟩ := h
 unfold inB at h1
 unfold objsB at h2
 rw [Bool.and_eq_true] at h1 h2
 obtain ⟨h2,h3⟩ := h2
 refine ⟨asc_of fun i hi => ?_,by have := of_decide_eq_true h3; omega,by simpa using h1.1,by simpa using h1.2⟩
 have hq := List.all_eq_true.mp h2 (i + 1) (by simpa using hi)
 unfold objsP at hq
 rw [Bool.and_eq_true,Bool.and_eq_true] at hq
 have hq := hq.2.1
 rw [ZY (show ((i + 1 : Nat) : Int) > 0 by omega),Bool.not_true,Bool.false_or,show ((i + 1 : Nat) : Int) - 1 = (i : Int) by omega] at hq
 rw [less_gR (by omega),← gR_lt hi]
 exact hq
def rB (r : List D) (j : Nat) : Bool := dB (r.getD j (.bool false))
noncomputable def rO (r : List D) : List D := [.int .i64 (rI r 2),.str (rS r 3),.int .i64 (rI r 4),.int .i64 (rI r 5),.int .i64 (rI r 6),.bool (rB r 7),.sl (rL r 8),.int .i64 (rI r 9),.str (rS r 10),.int .i64 (rI r 11),.sl (rL r 12),.sl (rL r 13),.int .i64 (rI r 14),.str (rS r 15),.int .i64 (rI r 16),.sl (rL r 17),.sl (rL r 18)]
def dropO (l : LD) (i : Int) : LD := l.take i.toNat ++ l.drop (i.toNat + 1)
noncomputable def Ya1 (rev : Int) (l : LD) (r : List D) : Option (Int × LD) :=
 bif rI r 0 != IntKind.wrap .i64 (rev + 1) then none else
 bif rB r 1 then (bif decide (YaP l (rI r 2) (rS r 3) < 0) then none else bif gI l (YaP l (rI r 2) (rS r 3)) 2 != rI r 4 then none else some (rI r 0,dropO l (YaP l (rI r 2) (rS r 3))))
 else some (rI r 0,YaQ Yab YaN (rO r) (rO r) false l)
noncomputable def stepV (rev : Int) (l : LD) (r : List D) : Option (Int × LD) :=
 match Ya1 rev l r with
 | none => none
 | some v => bif mirB v.1 v.2 then some v else none
noncomputable def YaD : Int → LD → LD → Option (Int × LD)
 | rev,l,[] => some (rev,l)
 | rev,l,r :: rs => match stepV rev l r with | none => none | some v => YaD v.1 v.2 rs
noncomputable def followV (a : Int) (l xs : LD) : Int × LD × Bool :=
 bif mirB a l then (match YaD a l xs with | some v => (v.1,v.2,true) | none => (a,l,false)) else (a,l,false)
theorem withF_mem {α : Type} {less same : α → α → Bool} {o o' : α} : ∀ {l : List α} {put : Bool} {x : α},x ∈ YaQ less same o o' put l → x ∈ l ∨ x = o'
 | [],put,x,h => by
  rw [withF_nil] at h
  cases put
  ·exact .inr (by simpa using h)
  ·cases h
 | y :: ys,put,x,h => by
  unfold YaQ at h
  rw [List.mem_append,List.mem_append] at h
  rcases h with h | h | h
  ·split at h
   ·exact .inr (by simpa using h)
   ·cases h
  ·split at h
   ·cases h
   ·exact .inl (by rw [List.mem_singleton] at h; rw [h]; exact List.mem_cons_self ..)
  ·rcases withF_mem h with h | h
   ·exact .inl (List.mem_cons_of_mem _ h)
   ·exact .inr h
theorem withF_len {α : Type} {less same : α → α → Bool} {o o' : α} : ∀ {l : List α} {put : Bool},(YaQ less same o o' put l).length ≤ l.length + (bif put then 0 else 1)
 | [],put => by rw [withF_nil]; cases put <;> simp
 | y :: ys,put => by
  unfold YaQ
  have ih := withF_len (less := less) (same := same) (o := o) (o' := o') (l := ys) (put := put || !less y o)
  rw [List.length_append,List.length_append,List.length_cons]
  generalize YaQ less same o o' (put || !less y o) ys = w at *
  generalize less y o = b1 at *
  generalize same y o = b2 at *
  cases put <;> cases b1 <;> cases b2 <;> simp at ih ⊢ <;> omega
theorem rO_ok {B : Nat} {r : List D} (h : Yb B r) : Ya B (rO r) := by
 obtain ⟨c0,c1,c2,c3,c4,c5,c6,c7,c8,c9,c10,c11,c12,c13,c14,c15,c16,c17,c18,rfl,k0,k2,k3,k4,k5,k6,k8,k9,k10,k11,k12,k13,k14,k15,k16,k17,k18,_⟩ := h
 exact ⟨c2,c3,c4,c5,c6,c7,c8,c9,c10,c11,c12,c13,c14,c15,c16,c17,c18,rfl,k2,k3,k4,k5,k6,k8,k9,k10,k11,k12,k13,k14,k15,k16,k17,k18,trivial⟩
theorem stepF_ok {rev : Int} {l : LD} {r : List D} {v : Int × LD} (g : ZB Ya lim l) (h60 : l.length ≤ 60) (hr : Yb lim r) (h : Ya1 rev l r = some v) : ZB Ya lim v.2 := by
 have hlim : lim = 1048576 := rfl
 unfold Ya1 at h
 cases hs : (rI r 0 != IntKind.wrap .i64 (rev + 1)) <;> rw [hs] at h
 ·simp only [cond_false] at h
  cases hb : rB r 1 <;> rw [hb] at h
  ·simp only [cond_false] at h
   injection h with h
   subst h
   have := withF_len (less := Yab) (same := YaN) (o := rO r) (o' := rO r) (l := l) (put := false)
   simp only [cond_false] at this
   refine ⟨by show (YaQ _ _ _ _ _ _).length ≤ _; omega,fun x hx => ?_⟩
   rcases withF_mem hx with hx | hx
   ·exact g.2 x hx
   ·rw [hx]; exact rO_ok hr
  ·simp only [cond_true] at h
   cases hf : decide (YaP l (rI r 2) (rS r 3) < 0) <;> rw [hf] at h
   ·simp only [cond_false] at h
    cases hq : (gI l (YaP l (rI r 2) (rS r 3)) 2 != rI r 4) <;> rw [hq] at h
    ·simp only [cond_false] at h
     injection h with h
     subst h
     unfold dropO
     refine ⟨by rw [List.length_append,List.length_take,List.length_drop]; omega,fun x hx => ?_⟩
     rcases List.mem_append.mp hx with hx | hx
     ·exact g.2 x (List.mem_of_mem_take hx)
     ·exact g.2 x (List.mem_of_mem_drop hx)
    ·cases h
   ·cases h
 ·cases h
theorem wt_with {less same : List D → List D → Bool} {o o' : List D} : ∀ {l : LD} {put : Bool},Zu (YaQ less same o o' put l) ≤ Zu l + (bif put then 0 else ZbY o')
 | [],put => by rw [withF_nil]; cases put <;> simp [Zu]
 | y :: ys,put => by
  unfold YaQ
  have ih := wt_with (less := less) (same := same) (o := o) (o' := o') (l := ys) (put := put || !less y o)
  rw [Zbe,Zbe]
  generalize YaQ less same o o' (put || !less y o) ys = w at *
  generalize less y o = b1 at *
  generalize same y o = b2 at *
  cases put <;> cases b1 <;> cases b2 <;> simp [Zu] at ih ⊢ <;> omega
theorem wt_cut : ∀ {l : LD} {n : Nat},Zu (l.take n) + Zu (l.drop (n + 1)) ≤ Zu l
 | [],n => by simp [Zu]
 | r :: xs,0 => by simp only [List.take_zero,List.drop_succ_cons,List.drop_zero,Zu]; omega
 | r :: xs,n + 1 => by
  have := wt_cut (l := xs) (n := n)
  simp only [List.take_succ_cons,List.drop_succ_cons,Zu]; omega
theorem wt_rO {B : Nat} {r : List D} (h : Yb B r) : ZbY (rO r) ≤ ZbY r := by
 obtain ⟨c0,c1,c2,c3,c4,c5,c6,c7,c8,c9,c10,c11,c12,c13,c14,c15,c16,c17,c18,rfl,-⟩ := h
 show ZbY [.int .i64 c2,.str c3,.int .i64 c4,.int .i64 c5,.int .i64 c6,.bool c7,.sl c8,.int .i64 c9,.str c10,.int .i64 c11,.sl c12,.sl c13,.int .i64 c14,.str c15,.int .i64 c16,.sl c17,.sl c18] ≤ ZbY (.int .i64 c0 :: .bool c1 :: [.int .i64 c2,.str c3,.int .i64 c4,.int .i64 c5,.int .i64 c6,.bool c7,.sl c8,.int .i64 c9,.str c10,.int .i64 c11,.sl c12,.sl c13,.int .i64 c14,.str c15,.int .i64 c16,.sl c17,.sl c18])
 generalize ([.int .i64 c2,.str c3,.int .i64 c4,.int .i64 c5,.int .i64 c6,.bool c7,.sl c8,.int .i64 c9,.str c10,.int .i64 c11,.sl c12,.sl c13,.int .i64 c14,.str c15,.int .i64 c16,.sl c17,.sl c18] : List D) = q
 simp only [ZbY]
 omega
theorem stepF_wt {rev : Int} {l : LD} {r : List D} {v : Int × LD} (hr : Yb lim r) (h : Ya1 rev l r = some v) : Zu v.2 ≤ Zu l + ZbY r := by
 unfold Ya1 at h
 cases hs : (rI r 0 != IntKind.wrap .i64 (rev + 1)) <;> rw [hs] at h
 ·simp only [cond_false] at h
  cases hb : rB r 1 <;> rw [hb] at h
  ·simp only [cond_false] at h
   injection h with h
   subst h
   have := wt_with (less := Yab) (same := YaN) (o := rO r) (o' := rO r) (l := l) (put := false)
   have := wt_rO hr
   simp only [cond_false] at *
   omega
  ·simp only [cond_true] at h
   cases hf : decide (YaP l (rI r 2) (rS r 3) < 0) <;> rw [hf] at h
   ·simp only [cond_false] at h
    cases hq : (gI l (YaP l (rI r 2) (rS r 3)) 2 != rI r 4) <;> rw [hq] at h
    ·simp only [cond_false] at h
     injection h with h
     subst h
     unfold dropO
     have := wt_cut (l := l) (n := (YaP l (rI r 2) (rS r 3)).toNat)
     rw [Zbe]
     omega
    ·cases h
   ·cases h
 ·cases h
theorem followL_ok : ∀ {xs : LD} {rev : Int} {l : LD} {v : Int × LD},ZB Ya lim l → l.length ≤ 60 → (∀ r ∈ xs,Yb lim r) → YaD rev l xs = some v → ZB Ya lim v.2 ∧ Zu v.2 ≤ Zu l + Zu xs
 | [],rev,l,v,g,_,_,h => by
  unfold YaD at h
  injection h with h
  subst h
  exact ⟨g,by simp [Zu]⟩
 | r :: xs,rev,l,v,g,h60,gx,h => by
  unfold YaD stepV at h
  cases hs : Ya1 rev l r with
  | none => rw [hs] at h; cases h
  | some u =>
   have g2 := stepF_ok g h60 (gx r (List.mem_cons_self ..)) hs
   have w2 := stepF_wt (gx r (List.mem_cons_self ..)) hs
   rw [hs] at h
   simp only [] at h
   cases hm : mirB u.1 u.2 <;> rw [hm] at h
   ·cases h
   ·obtain ⟨-,l2,-,-⟩ := Ybh g2 hm
    obtain ⟨q1,q2⟩ := followL_ok g2 l2 (fun r hr => gx r (List.mem_cons_of_mem _ hr)) h
    exact ⟨q1,by simp only [Zu]; omega⟩
abbrev Robj : Nat → List D → Prop := Ya
abbrev Rlog : Nat → List D → Prop := Yb
noncomputable def rowB (r : List D) (Z8 rev : Int) (gone : Bool) : Bool := objV (rI r 0) (rS r 1) (rI r 2) (rI r 3) (rI r 4) (rB r 5) (rL r 6) (rI r 7) (rS r 8) (rI r 9) (rL r 10) (rL r 11) (rI r 12) (rS r 13) (rI r 14) (rL r 15) (rL r 16) Z8 rev gone
noncomputable def logB (r : List D) (Z8 rev : Int) : Bool := objV (rI r 2) (rS r 3) (rI r 4) (rI r 5) (rI r 6) (rB r 7) (rL r 8) (rI r 9) (rS r 10) (rI r 11) (rL r 12) (rL r 13) (rI r 14) (rS r 15) (rI r 16) (rL r 17) (rL r 18) Z8 rev (rB r 1) && (rI r 5 == rI r 0)
noncomputable def logP (L : LD) (Z8 rev : Int) (i : Nat) : Bool := logB (gR L (i : Int)) Z8 rev && (!decide ((i : Int) > 0) || !decide (gI L ((i : Int) - 1) 0 ≥ gI L (i : Int) 0))
noncomputable def baseB (O : LD) (rev next : Int) (L : LD) : Bool := inB rev 0 1000000 && (inB next 1 1000000 && (decide (L.length ≤ 40) && (objsB O (next - 1) rev && (List.range L.length).all (logP L (next - 1) rev))))
set_option maxRecDepth 100000 in
set_option maxHeartbeats 2000000 in
theorem base_v {O L : LD} {rev next : Int} (wO : ZB Robj lim O) (wL : ZB Rlog lim L) : Ym.v O rev next L = baseB O rev next L := by
 have hk : Zai 1 (lv 1) := by unfold Zai lv; omega
 have hv := Ym.tv (aA := rev) (aC := next) wO wL hk
 suffices h : Ym.t (lv 1) O rev next L = some (baseB O rev next L) by
  rw [hv] at h
  injection h
 have hk0 : Fuel (lv 1) := up0 hk
 have hl := wL.1
 have hlim : lim = 1048576 := rfl
 have hb : big = 2 ^ 64 := rfl
 generalize lv 1 = k at hk hk0
 unfold Ym.t Ym.g Ym.m baseB
 rw [l1In_fv]
 cases h1 : inB rev 0 1000000
 ·rfl
 simp only [Bool.not_true,cond_false,Bool.true_and]
 rw [l1In_fv]
 cases h2 : inB next 1 1000000
 ·rfl
 simp only [Bool.not_true,cond_false,Bool.true_and]
 have hn : 1 ≤ next ∧ next ≤ 1000000 := by
  unfold inB at h2
  rw [Bool.and_eq_true] at h2
  exact ⟨of_decide_eq_true h2.1,of_decide_eq_true h2.2⟩
 have hw : IntKind.wrap .i64 (next - 1) = next - 1 := Z9 (by omega) (by omega)
 by_cases h3 : L.length ≤ 40
 ·rw [ZZ (show ¬ (L.length : Int) > 40 by omega),ZY h3]
  simp only [cond_false,Bool.true_and]
  rw [l7Objs_fv wO hk,hw]
  cases objsB O (next - 1) rev
  ·rfl
  simp only [Bool.not_true,cond_false,Bool.true_and]
  rw [iter_all0 (n := L.length) (logP L (next - 1) rev) (r1 := some false) (r2 := some true) (by unfold Fuel at hk0; omega)]
  ·cases (List.range L.length).all (logP L (next - 1) rev) <;> rfl
  ·intro F i hi
   obtain ⟨-,-,-,k1,-,-,-,k6,-,k8,-,k10,k11,-,k13,-,k15,k16,-⟩ := Yb.get wL (v := (i : Int)) (by omega) (by omega)
   have e3 : ∀ {G : Bool → Option Bool},Yaf.f k (gI L (i : Int) 2) (gS L (i : Int) 3) (gI L (i : Int) 4) (gI L (i : Int) 5) (gI L (i : Int) 6) (gB L (i : Int) 7) (gL L (i : Int) 8) (gI L (i : Int) 9) (gS L (i : Int) 10) (gI L (i : Int) 11) (gL L (i : Int) 12) (gL L (i : Int) 13) (gI L (i : Int) 14) (gS L (i : Int) 15) (gI L (i : Int) 16) (gL L (i : Int) 17) (gL L (i : Int) 18) rev next (gB L (i : Int) 1) G = G (objV (gI L (i : Int) 2) (gS L (i : Int) 3) (gI L (i : Int) 4) (gI L (i : Int) 5) (gI L (i : Int) 6) (gB L (i : Int) 7) (gL L (i : Int) 8) (gI L (i : Int) 9) (gS L (i : Int) 10) (gI L (i : Int) 11) (gL L (i : Int) 12) (gL L (i : Int) 13) (gI L (i : Int) 14) (gS L (i : Int) 15) (gI L (i : Int) 16) (gL L (i : Int) 17) (gL L (i : Int) 18) (next - 1) rev (gB L (i : Int) 1)) := fun {G} => by
    have := l7Obj_fv (x0 := gI L (i : Int) 2) (x2 := gI L (i : Int) 4) (x3 := gI L (i : Int) 5) (x4 := gI L (i : Int) 6) (x5 := gB L (i : Int) 7) (x7 := gI L (i : Int) 9) (x9 := gI L (i : Int) 11) (x12 := gI L (i : Int) 14) (x14 := gI L (i : Int) 16) (rev := rev) (next := next) (gone := gB L (i : Int) 1) k1 k6 k8 k10 k11 k13 k15 k16 hk G
    rw [hw] at this
    exact this
   have e4 : logB (gR L (i : Int)) (next - 1) rev = (objV (gI L (i : Int) 2) (gS L (i : Int) 3) (gI L (i : Int) 4) (gI L (i : Int) 5) (gI L (i : Int) 6) (gB L (i : Int) 7) (gL L (i : Int) 8) (gI L (i : Int) 9) (gS L (i : Int) 10) (gI L (i : Int) 11) (gL L (i : Int) 12) (gL L (i : Int) 13) (gI L (i : Int) 14) (gS L (i : Int) 15) (gI L (i : Int) 16) (gL L (i : Int) 17) (gL L (i : Int) 18) (next - 1) rev (gB L (i : Int) 1) && (gI L (i : Int) 5 == gI L (i : Int) 0)) := rfl
   unfold logP
   rw [e4]
   simp (disch := omega) only [Ym.l0,atR,rdQ,Q.ask,ZY (show (i : Int) < L.length by omega),cond_true,Yb.row wL,Z4,Z5,ZaQ,ZaV,Zbl,Zan,e3]
   generalize objV _ _ _ _ _ _ _ _ _ _ _ _ _ _ _ _ _ _ _ _ = b
   cases b
   ·rfl
   cases hq : (gI L (i : Int) 5 == gI L (i : Int) 0)
   ·simp only [bne,hq,Bool.not_false,Bool.not_true,cond_true,cond_false,Bool.true_and,Bool.false_and]
   simp only [bne,hq,Bool.not_false,Bool.not_true,cond_true,cond_false,Bool.true_and]
   by_cases h0 : (i : Int) > 0
   ·simp (disch := omega) only [ZY h0,cond_true,Z9,Yb.row wL,Z4,Z5,ZaQ,ZaV,Zbl,Zan,Bool.not_true,Bool.false_or]
    cases decide (gI L ((i : Int) - 1) 0 ≥ gI L (i : Int) 0) <;> rfl
   ·simp (disch := omega) only [ZZ h0,cond_false,Z9,Bool.not_false,Bool.true_or,cond_true]
  ·intro F
   simp [Ym.l0,atR,rdQ,Q.ask]
 ·rw [ZY (show (L.length : Int) > 40 by omega),ZZ h3]
  rfl
structure OkO (O : LD) (rev Z8 : Int) : Prop where
 row : ∀ r ∈ O,rowB r Z8 rev false = true
 asc : AscO O
 uid : O.Pairwise fun x y => rI x 2 ≠ rI y 2
 len : O.length ≤ 60
theorem objs_iff {O : LD} {rev Z8 : Int} : objsB O Z8 rev = true ↔ OkO O rev Z8 := by
 unfold objsB
 rw [Bool.and_eq_true,List.all_eq_true,decide_eq_true_iff]
 have hrow : ∀ (i : Nat) (hi : i < O.length),objR O (i : Int) Z8 rev = rowB O[i] Z8 rev false := fun i hi => by
  rw [← gR_lt hi]
  rfl
 have hgi : ∀ (i : Nat) (hi : i < O.length),gI O (i : Int) 2 = rI O[i] 2 := fun i hi => by
  rw [← gR_lt hi]
  rfl
 constructor
 ·rintro ⟨h,hl⟩
  have h : ∀ (i : Nat) (_ : i < O.length),objR O (i : Int) Z8 rev = true ∧ ((!decide ((i : Int) > 0) || lessV (gI O ((i : Int) - 1) 0) (gS O ((i : Int) - 1) 1) (gI O (i : Int) 0) (gS O (i : Int) 1)) = true ∧ ((List.range i).all fun j => !(gI O (j : Int) 2 == gI O (i : Int) 2)) = true) := fun i hi => by
   have := h i (List.mem_range.mpr hi)
   unfold objsP at this
   rw [Bool.and_eq_true,Bool.and_eq_true] at this
   exact this
  refine ⟨fun r hr => ?_,asc_of fun i hi => ?_,List.pairwise_iff_getElem.mpr fun i j hi hj hij => ?_,by omega⟩
  ·obtain ⟨i,hi,rfl⟩ := List.mem_iff_getElem.mp hr
   rw [← hrow i hi]
   exact (h i hi).1
  ·have hq := (h (i + 1) hi).2.1
   rw [ZY (show ((i + 1 : Nat) : Int) > 0 by omega),Bool.not_true,Bool.false_or,show ((i + 1 : Nat) : Int) - 1 = (i : Int) by omega] at hq
   rw [less_gR (by omega),← gR_lt hi]
   exact hq
  ·have hq := List.all_eq_true.mp (h j hj).2.2 i (List.mem_range.mpr hij)
   rw [hgi i hi,hgi j hj] at hq
   simpa using hq
 ·intro h
  refine ⟨fun i hi => ?_,by have := h.len; omega⟩
  have hi := List.mem_range.mp hi
  unfold objsP
  rw [Bool.and_eq_true,Bool.and_eq_true]
  refine ⟨by rw [hrow i hi]; exact h.row _ (List.getElem_mem _),?_,List.all_eq_true.mpr fun j hj => ?_⟩
  ·by_cases h0 : (i : Int) > 0
   ·rw [ZY h0,Bool.not_true,Bool.false_or,show (i : Int) - 1 = ((i - 1 : Nat) : Int) by omega]
    have := List.pairwise_iff_getElem.mp h.asc (i - 1) i (by omega) hi (by omega)
    rw [less_gR (by omega),← gR_lt hi] at this
    exact this
   ·rw [ZZ h0]
    rfl
  ·have hj := List.mem_range.mp hj
   rw [hgi i hi,hgi j (by omega)]
   have := List.pairwise_iff_getElem.mp h.uid j i (by omega) hi hj
   simpa using this
structure OkB (O : LD) (rev next : Int) (L : LD) : Prop where
 r0 : 0 ≤ rev
 r1 : rev ≤ 1000000
 n0 : 1 ≤ next
 n1 : next ≤ 1000000
 ob : OkO O rev (next - 1)
 lr : ∀ r ∈ L,logB r (next - 1) rev = true
 la : L.Pairwise fun x y => rI x 0 < rI y 0
 ll : L.length ≤ 40
theorem YaS {a b c : Int} : inB a b c = true ↔ b ≤ a ∧ a ≤ c := by
 unfold inB
 rw [Bool.and_eq_true,decide_eq_true_iff,decide_eq_true_iff]
theorem base_iff {O L : LD} {rev next : Int} : baseB O rev next L = true ↔ OkB O rev next L := by
 unfold baseB
 rw [Bool.and_eq_true,Bool.and_eq_true,Bool.and_eq_true,Bool.and_eq_true,YaS,YaS,decide_eq_true_iff,objs_iff,List.all_eq_true]
 have hgi : ∀ (i : Nat) (hi : i < L.length),gI L (i : Int) 0 = rI L[i] 0 := fun i hi => by
  rw [← gR_lt hi]
  rfl
 constructor
 ·rintro ⟨⟨a,b⟩,⟨c,d⟩,e,f,h⟩
  have h : ∀ (i : Nat) (_ : i < L.length),logB (gR L (i : Int)) (next - 1) rev = true ∧ (!decide ((i : Int) > 0) || !decide (gI L ((i : Int) - 1) 0 ≥ gI L (i : Int) 0)) = true := fun i hi => by
   have := h i (List.mem_range.mpr hi)
   unfold logP at this
   rw [Bool.and_eq_true] at this
   exact this
  refine ⟨a,b,c,d,f,fun r hr => ?_,?_,e⟩
  ·obtain ⟨i,hi,rfl⟩ := List.mem_iff_getElem.mp hr
   rw [← gR_lt hi]
   exact (h i hi).1
  ·have step : ∀ (i : Nat) (hi : i + 1 < L.length),rI L[i] 0 < rI L[i + 1] 0 := fun i hi => by
    have hq := (h (i + 1) hi).2
    rw [ZY (show ((i + 1 : Nat) : Int) > 0 by omega),Bool.not_true,Bool.false_or,show ((i + 1 : Nat) : Int) - 1 = (i : Int) by omega,hgi i (by omega),hgi (i + 1) hi] at hq
    simpa using hq
   rw [List.pairwise_iff_getElem]
   intro i j hi hj hij
   obtain ⟨d,rfl⟩ : ∃ d,j = i + 1 + d := ⟨j - (i + 1),by omega⟩
   induction d with
   | zero => exact step i hj
   | succ d ih => exact Int.lt_trans (ih (by omega) (by omega)) (step (i + 1 + d) (by omega))
 ·intro h
  refine ⟨⟨h.r0,h.r1⟩,⟨h.n0,h.n1⟩,h.ll,h.ob,fun i hi => ?_⟩
  have hi := List.mem_range.mp hi
  unfold logP
  rw [Bool.and_eq_true]
  refine ⟨by rw [gR_lt hi]; exact h.lr _ (List.getElem_mem _),?_⟩
  by_cases h0 : (i : Int) > 0
  ·have := List.pairwise_iff_getElem.mp h.la (i - 1) i (by omega) hi (by omega)
   rw [show (i : Int) - 1 = ((i - 1 : Nat) : Int) by omega,hgi i hi,hgi (i - 1) (by omega),ZZ (show ¬ rI L[i - 1] 0 ≥ rI L[i] 0 by omega)]
   simp
  ·rw [ZZ h0]
   rfl
theorem objV_mono {x0 : Int} {x1 : BA} {x2 x3 x4 : Int} {x5 : Bool} {x6 : LD} {x7 : Int} {x8 : BA} {x9 : Int} {x10 x11 : LD} {x12 : Int} {x13 : BA} {x14 : Int} {x15 x16 : LD} {Z8 rev most' rev' : Int} {gone : Bool} (hm : Z8 ≤ most') (hr : rev ≤ rev') (h : objV x0 x1 x2 x3 x4 x5 x6 x7 x8 x9 x10 x11 x12 x13 x14 x15 x16 Z8 rev gone = true) : objV x0 x1 x2 x3 x4 x5 x6 x7 x8 x9 x10 x11 x12 x13 x14 x15 x16 most' rev' gone = true := by
 unfold objV at h ⊢
 simp only [Bool.and_eq_true,YaS] at h ⊢
 obtain ⟨a,b,⟨c1,c2⟩,⟨d1,d2⟩,e⟩ := h
 exact ⟨a,b,⟨c1,by omega⟩,⟨d1,by omega⟩,e⟩
theorem rowB_mono {r : List D} {Z8 rev most' rev' : Int} {gone : Bool} (hm : Z8 ≤ most') (hr : rev ≤ rev') (h : rowB r Z8 rev gone = true) : rowB r most' rev' gone = true := objV_mono hm hr h
theorem logB_mono {r : List D} {Z8 rev most' rev' : Int} (hm : Z8 ≤ most') (hr : rev ≤ rev') (h : logB r Z8 rev = true) : logB r most' rev' = true := by
 unfold logB at h ⊢
 rw [Bool.and_eq_true] at h ⊢
 exact ⟨objV_mono hm hr h.1,h.2⟩
theorem rowB_uid {r : List D} {Z8 rev : Int} {gone : Bool} (h : rowB r Z8 rev gone = true) : 1 ≤ rI r 2 ∧ rI r 2 ≤ Z8 ∧ 1 ≤ rI r 3 ∧ rI r 3 ≤ rev := by
 unfold rowB objV at h
 simp only [Bool.and_eq_true,YaS] at h
 obtain ⟨-,-,⟨c1,c2⟩,⟨d1,d2⟩,-⟩ := h
 exact ⟨c1,c2,d1,d2⟩
theorem logB_rev {r : List D} {Z8 rev : Int} (h : logB r Z8 rev = true) : 1 ≤ rI r 0 ∧ rI r 0 ≤ rev := by
 unfold logB objV at h
 simp only [Bool.and_eq_true,YaS,beq_iff_eq] at h
 obtain ⟨⟨-,-,-,⟨d1,d2⟩,-⟩,e⟩ := h
 exact ⟨by omega,by omega⟩
theorem OkO.mono {O : LD} {rev Z8 rev' most' : Int} (h : OkO O rev Z8) (hm : Z8 ≤ most') (hr : rev ≤ rev') : OkO O rev' most' := ⟨fun r q => rowB_mono hm hr (h.row r q),h.asc,h.uid,h.len⟩
theorem OkO.sub {O P : LD} {rev Z8 : Int} (h : OkO O rev Z8) (hs : P.Sublist O) : OkO P rev Z8 := ⟨fun r q => h.row r (hs.subset q),h.asc.sublist hs,h.uid.sublist hs,Nat.le_trans hs.length_le h.len⟩
theorem drop_sub {O : LD} {i : Int} : (dropO O i).Sublist O := by
 unfold dropO
 have : (O.take i.toNat ++ O.drop (i.toNat + 1)).Sublist (O.take i.toNat ++ O.drop i.toNat) := (List.Sublist.refl _).append (by rw [← List.drop_drop]; exact List.drop_sublist _ _)
 rwa [List.take_append_drop] at this
theorem pair_mid {α : Type} {R : α → α → Prop} {A B : List α} {o : α} (h : (A ++ B).Pairwise R) (ha : ∀ a ∈ A,R a o) (hb : ∀ b ∈ B,R o b) : (A ++ o :: B).Pairwise R := by
 rw [List.pairwise_append] at h ⊢
 obtain ⟨h1,h2,h3⟩ := h
 refine ⟨h1,List.pairwise_cons.mpr ⟨hb,h2⟩,fun a qa b qb => ?_⟩
 rcases List.mem_cons.mp qb with rfl | qb
 ·exact ha a qa
 ·exact h3 a qa b qb
theorem not_same_less {o x y : List D} (h1 : Yab x o = false) (h2 : Yab x y = true) : YaN y o = false := by
 cases hs : YaN y o with
 | false => rfl
 | true =>
  have hs' := Ya2.sym _ _ hs
  have hi := Ya2.irr _ _ hs'
  cases hx : YaN x o with
  | true =>
   have := Ya2.cong _ _ _ (Ya2.sym _ _ hx) h2
   rw [hi] at this; cases this
  | false =>
   have := Ya2.trans _ _ _ (Ya2.tri _ _ h1 hx) h2
   rw [hi] at this; cases this
theorem find_same {O : LD} {o : List D} {i : Nat} (h : YaP O (rI o 0) (rS o 1) = (i : Int)) (hi : i < O.length) : YaN O[i] o = true := by
 rw [same_gR hi]
 unfold YaP at h
 obtain ⟨-,h2,h3,-⟩ := findI_some (p := fun i => (gI O (i : Int) 0 == rI o 0) && Zae (gS O (i : Int) 1) (rS o 1)) (n := O.length) (by omega)
 have e : (ZbV (fun i => (gI O (i : Int) 0 == rI o 0) && Zae (gS O (i : Int) 1) (rS o 1)) O.length).toNat = i := by omega
 rw [e] at h2
 exact h2
theorem find_lb {O : LD} {o : List D} (ha : AscO O) {i : Nat} (hi : i < O.length) (hs : YaN O[i] o = true) : lbF Yab o O = i := by
 have h1 : ¬ i < lbF Yab o O := fun q => by
  have := lbF_below hi q
  rw [Ya2.irr _ _ hs] at this; cases this
 by_cases h2 : lbF Yab o O < i
 ·have h3 : Yab O[lbF Yab o O] o = false := lbF_above Ya2 ha (by omega) (Nat.le_refl _)
  have := not_same_less h3 (List.pairwise_iff_getElem.mp ha (lbF Yab o O) i (by omega) hi h2)
  rw [hs] at this; cases this
 ·omega
theorem hit_of {O : LD} {o : List D} (ha : AscO O) {i : Nat} (hi : i < O.length) (hs : YaN O[i] o = true) : hitF Yab YaN o O = true := by
 unfold hitF
 rw [find_lb ha hi hs,List.getElem?_eq_getElem hi]
 exact hs
theorem hit_none {O : LD} {o : List D} (h : YaP O (rI o 0) (rS o 1) < 0) : hitF Yab YaN o O = false := by
 unfold hitF
 cases hl : O[lbF Yab o O]? with
 | none => rfl
 | some x =>
  obtain ⟨hi,rfl⟩ := List.getElem?_eq_some_iff.mp hl
  show YaN O[lbF Yab o O] o = false
  rw [same_gR hi]
  unfold YaP at h
  exact (findI_none h).2 _ hi
theorem OkO.with {O : LD} {rev Z8 most' : Int} {o : List D} (h : OkO O rev Z8) (hr : rowB o most' (rev + 1) false = true) (hm : Z8 ≤ most') (H : (∃ i : Nat,YaP O (rI o 0) (rS o 1) = (i : Int) ∧ ∃ hi : i < O.length,rI O[i] 2 = rI o 2) ∨ (YaP O (rI o 0) (rS o 1) < 0 ∧ O.length < 60 ∧ Z8 < rI o 2)) : OkO (YaQ Yab YaN o o false O) (rev + 1) most' := by
 have hrow : ∀ r ∈ YaQ Yab YaN o o false O,rowB r most' (rev + 1) false = true := fun r q => by
  rcases withF_mem q with q | rfl
  ·exact rowB_mono hm (by omega) (h.row r q)
  ·exact hr
 rw [withF_eq Ya2 h.asc] at hrow ⊢
 generalize hd : (if hitF Yab YaN o O = true then 1 else 0) = d at hrow ⊢
 have hsub : (O.take (lbF Yab o O) ++ O.drop (lbF Yab o O + d)).Sublist O := by
  have : (O.take (lbF Yab o O) ++ O.drop (lbF Yab o O + d)).Sublist (O.take (lbF Yab o O) ++ O.drop (lbF Yab o O)) := (List.Sublist.refl _).append (by rw [← List.drop_drop]; exact List.drop_sublist _ _)
  rwa [List.take_append_drop] at this
 have below : ∀ a ∈ O.take (lbF Yab o O),∃ (i : Nat) (hi : i < O.length),i < lbF Yab o O ∧ a = O[i] := fun a q => by
  obtain ⟨i,hi,rfl⟩ := List.mem_iff_getElem.mp q
  rw [List.length_take] at hi
  exact ⟨i,by omega,by omega,by rw [List.getElem_take]⟩
 have above : ∀ b ∈ O.drop (lbF Yab o O + d),∃ (i : Nat) (hi : i < O.length),lbF Yab o O + d ≤ i ∧ b = O[i] := fun b q => by
  obtain ⟨i,hi,rfl⟩ := List.mem_iff_getElem.mp q
  rw [List.length_drop] at hi
  exact ⟨lbF Yab o O + d + i,by omega,by omega,by rw [List.getElem_drop]⟩
 have uids : ∀ (i : Nat) (hi : i < O.length),(i < lbF Yab o O ∨ lbF Yab o O + d ≤ i) → rI O[i] 2 ≠ rI o 2 := by
  intro i hi hc
  rcases H with ⟨j,hf,hj,hu⟩ | ⟨hf,-,hu⟩
  ·have hs := find_same hf hj
   rw [hit_of h.asc hj hs,if_pos rfl] at hd
   have hlb := find_lb h.asc hj hs
   rw [← hu]
   by_cases hij : i < j
   ·exact List.pairwise_iff_getElem.mp h.uid i j hi hj hij
   ·exact (List.pairwise_iff_getElem.mp h.uid j i hj hi (by omega)).symm
  ·have := (rowB_uid (h.row O[i] (List.getElem_mem _))).2.1
   omega
 refine ⟨hrow,pair_mid (h.asc.sublist hsub) (fun a q => ?_) (fun b q => ?_),pair_mid (h.uid.sublist hsub) (fun a q => ?_) (fun b q => ?_),?_⟩
 ·obtain ⟨i,hi,h1,rfl⟩ := below a q
  exact lbF_below hi h1
 ·obtain ⟨i,hi,h1,rfl⟩ := above b q
  have hab : Yab O[i] o = false := lbF_above Ya2 h.asc hi (by omega)
  refine Ya2.tri _ _ hab ?_
  by_cases he : lbF Yab o O < i
  ·exact not_same_less (x := O[lbF Yab o O]) (lbF_above Ya2 h.asc (by omega) (Nat.le_refl _)) (List.pairwise_iff_getElem.mp h.asc _ i (by omega) hi he)
  ·have he : lbF Yab o O = i := by omega
   have h0 : ¬ hitF Yab YaN o O = true := fun q => by rw [if_pos q] at hd; omega
   unfold hitF at h0
   rw [he,List.getElem?_eq_getElem hi] at h0
   simpa using h0
 ·obtain ⟨i,hi,h1,rfl⟩ := below a q
  exact uids i hi (.inl h1)
 ·obtain ⟨i,hi,h1,rfl⟩ := above b q
  exact (uids i hi (.inr h1)).symm
 ·have hl := h.len
  simp only [List.length_append,List.length_cons,List.length_take,List.length_drop]
  rcases H with ⟨j,hf,hj,hu⟩ | ⟨hf,h60,hu⟩
  ·have hs := find_same hf hj
   have hlb := find_lb h.asc hj hs
   rw [hit_of h.asc hj hs,if_pos rfl] at hd
   omega
  ·omega
def chgO (rev : Int) (o : List D) (gone : Bool) : List D := .int .i64 rev :: .bool gone :: o
def ZbS (M : LD) : LD := bif decide ((M.length : Int) > 40) then M.drop 1 else M
theorem keep_sub {M : LD} : (ZbS M).Sublist M := by
 unfold ZbS
 cases decide ((M.length : Int) > 40)
 ·exact List.Sublist.refl _
 ·exact List.drop_sublist _ _
theorem keep_len {M : LD} (h : M.length ≤ 41) : (ZbS M).length ≤ 40 := by
 unfold ZbS
 by_cases hq : (M.length : Int) > 40
 ·rw [ZY hq]
  simp only [cond_true,List.length_drop]
  omega
 ·rw [ZZ hq]
  simp only [cond_false]
  omega
theorem OkB.put {O L O' : LD} {rev next next' : Int} {o : List D} {gone : Bool} (h : OkB O rev next L) (hrev : rev < 1000000) (hn : next ≤ next') (hn' : next' ≤ 1000000) (h3 : rI o 3 = rev + 1) (hr : rowB o (next' - 1) (rev + 1) gone = true) (hO : OkO O' (rev + 1) (next' - 1)) : OkB O' (rev + 1) next' (ZbS (L ++ [chgO (rev + 1) o gone])) := by
 have h0 := h.r0; have h1 := h.n0
 refine ⟨by omega,by omega,by omega,hn',hO,fun r q => ?_,List.Pairwise.sublist keep_sub ?_,keep_len (by rw [List.length_append,List.length_singleton]; have := h.ll; omega)⟩
 ·rcases List.mem_append.mp (keep_sub.subset q) with q | q
  ·exact logB_mono (by omega) (by omega) (h.lr r q)
  ·rw [List.mem_singleton] at q
   subst q
   have e : logB (chgO (rev + 1) o gone) (next' - 1) (rev + 1) = (rowB o (next' - 1) (rev + 1) gone && (rI o 3 == rev + 1)) := rfl
   rw [e,hr,h3]
   simp
 ·rw [List.pairwise_append]
  refine ⟨h.la,List.pairwise_singleton _ _,fun a qa b qb => ?_⟩
  rw [List.mem_singleton] at qb
  subst qb
  have := (logB_rev (h.lr a qa)).2
  show rI a 0 < rev + 1
  omega
theorem step_withO {O : LD} {rev c0 : Int} {c1 : BA} {c2 c3 c4 : Int} {c5 : Bool} {c6 : LD} {c7 : Int} {c8 : BA} {c9 : Int} {c10 c11 : LD} {c12 : Int} {c13 : BA} {c14 : Int} {c15 c16 : LD} (h0 : 0 ≤ rev) (h1 : rev ≤ 1000000) : Ya1 rev O (chgO (rev + 1) [.int .i64 c0,.str c1,.int .i64 c2,.int .i64 c3,.int .i64 c4,.bool c5,.sl c6,.int .i64 c7,.str c8,.int .i64 c9,.sl c10,.sl c11,.int .i64 c12,.str c13,.int .i64 c14,.sl c15,.sl c16] false) = some (rev + 1,YaQ Yab YaN [.int .i64 c0,.str c1,.int .i64 c2,.int .i64 c3,.int .i64 c4,.bool c5,.sl c6,.int .i64 c7,.str c8,.int .i64 c9,.sl c10,.sl c11,.int .i64 c12,.str c13,.int .i64 c14,.sl c15,.sl c16] [.int .i64 c0,.str c1,.int .i64 c2,.int .i64 c3,.int .i64 c4,.bool c5,.sl c6,.int .i64 c7,.str c8,.int .i64 c9,.sl c10,.sl c11,.int .i64 c12,.str c13,.int .i64 c14,.sl c15,.sl c16] false O) := by
 have hw : IntKind.wrap .i64 (rev + 1) = rev + 1 := Z9 (by omega) (by omega)
 unfold Ya1
 rw [hw,show rI (chgO (rev + 1) [.int .i64 c0,.str c1,.int .i64 c2,.int .i64 c3,.int .i64 c4,.bool c5,.sl c6,.int .i64 c7,.str c8,.int .i64 c9,.sl c10,.sl c11,.int .i64 c12,.str c13,.int .i64 c14,.sl c15,.sl c16] false) 0 = rev + 1 from rfl,show rB (chgO (rev + 1) [.int .i64 c0,.str c1,.int .i64 c2,.int .i64 c3,.int .i64 c4,.bool c5,.sl c6,.int .i64 c7,.str c8,.int .i64 c9,.sl c10,.sl c11,.int .i64 c12,.str c13,.int .i64 c14,.sl c15,.sl c16] false) 1 = false from rfl,show rO (chgO (rev + 1) [.int .i64 c0,.str c1,.int .i64 c2,.int .i64 c3,.int .i64 c4,.bool c5,.sl c6,.int .i64 c7,.str c8,.int .i64 c9,.sl c10,.sl c11,.int .i64 c12,.str c13,.int .i64 c14,.sl c15,.sl c16] false) = [.int .i64 c0,.str c1,.int .i64 c2,.int .i64 c3,.int .i64 c4,.bool c5,.sl c6,.int .i64 c7,.str c8,.int .i64 c9,.sl c10,.sl c11,.int .i64 c12,.str c13,.int .i64 c14,.sl c15,.sl c16] from rfl]
 simp only [bne_self_eq_false,cond_false]
theorem step_dropO {O : LD} {rev c0 : Int} {c1 : BA} {c2 c3 c4 : Int} {c5 : Bool} {c6 : LD} {c7 : Int} {c8 : BA} {c9 : Int} {c10 c11 : LD} {c12 : Int} {c13 : BA} {c14 : Int} {c15 c16 : LD} (h0 : 0 ≤ rev) (h1 : rev ≤ 1000000) (hf : ¬ YaP O c0 c1 < 0) (hu : gI O (YaP O c0 c1) 2 = c2) : Ya1 rev O (chgO (rev + 1) [.int .i64 c0,.str c1,.int .i64 c2,.int .i64 c3,.int .i64 c4,.bool c5,.sl c6,.int .i64 c7,.str c8,.int .i64 c9,.sl c10,.sl c11,.int .i64 c12,.str c13,.int .i64 c14,.sl c15,.sl c16] true) = some (rev + 1,dropO O (YaP O c0 c1)) := by
 have hw : IntKind.wrap .i64 (rev + 1) = rev + 1 := Z9 (by omega) (by omega)
 unfold Ya1
 rw [hw,show rI (chgO (rev + 1) [.int .i64 c0,.str c1,.int .i64 c2,.int .i64 c3,.int .i64 c4,.bool c5,.sl c6,.int .i64 c7,.str c8,.int .i64 c9,.sl c10,.sl c11,.int .i64 c12,.str c13,.int .i64 c14,.sl c15,.sl c16] true) 0 = rev + 1 from rfl,show rB (chgO (rev + 1) [.int .i64 c0,.str c1,.int .i64 c2,.int .i64 c3,.int .i64 c4,.bool c5,.sl c6,.int .i64 c7,.str c8,.int .i64 c9,.sl c10,.sl c11,.int .i64 c12,.str c13,.int .i64 c14,.sl c15,.sl c16] true) 1 = true from rfl,show rI (chgO (rev + 1) [.int .i64 c0,.str c1,.int .i64 c2,.int .i64 c3,.int .i64 c4,.bool c5,.sl c6,.int .i64 c7,.str c8,.int .i64 c9,.sl c10,.sl c11,.int .i64 c12,.str c13,.int .i64 c14,.sl c15,.sl c16] true) 2 = c0 from rfl,show rS (chgO (rev + 1) [.int .i64 c0,.str c1,.int .i64 c2,.int .i64 c3,.int .i64 c4,.bool c5,.sl c6,.int .i64 c7,.str c8,.int .i64 c9,.sl c10,.sl c11,.int .i64 c12,.str c13,.int .i64 c14,.sl c15,.sl c16] true) 3 = c1 from rfl,show rI (chgO (rev + 1) [.int .i64 c0,.str c1,.int .i64 c2,.int .i64 c3,.int .i64 c4,.bool c5,.sl c6,.int .i64 c7,.str c8,.int .i64 c9,.sl c10,.sl c11,.int .i64 c12,.str c13,.int .i64 c14,.sl c15,.sl c16] true) 4 = c2 from rfl,hu,ZZ hf]
 simp only [bne_self_eq_false,cond_false,cond_true]
theorem OkO.mir {O : LD} {rev Z8 : Int} (h : OkO O rev Z8) (h0 : 0 ≤ rev) (h1 : rev ≤ 1000000) (hm : Z8 ≤ 1000000) : mirB rev O = true := by
 unfold mirB
 rw [Bool.and_eq_true,YaS,objs_iff]
 exact ⟨⟨h0,h1⟩,h.mono hm (Int.le_refl _)⟩
structure OW (c0 : Int) (c1 : BA) (c2 : Int) (c3 : Int) (c4 : Int) (c5 : Bool) (c6 : LD) (c7 : Int) (c8 : BA) (c9 : Int) (c10 : LD) (c11 : LD) (c12 : Int) (c13 : BA) (c14 : Int) (c15 : LD) (c16 : LD) : Prop where
 k0 : (Lit.int .i64 c0).wf = true
 k1 : c1.size ≤ lim
 k2 : (Lit.int .i64 c2).wf = true
 k3 : (Lit.int .i64 c3).wf = true
 k4 : (Lit.int .i64 c4).wf = true
 k6 : ZB RS lim c6
 k7 : (Lit.int .i64 c7).wf = true
 k8 : c8.size ≤ lim
 k9 : (Lit.int .i64 c9).wf = true
 k10 : ZB RS lim c10
 k11 : ZB Yu lim c11
 k12 : (Lit.int .i64 c12).wf = true
 k13 : c13.size ≤ lim
 k14 : (Lit.int .i64 c14).wf = true
 k15 : ZB RS lim c15
 k16 : ZB Yu lim c16
theorem OW.row {c0 : Int} {c1 : BA} {c2 c3 c4 : Int} {c5 : Bool} {c6 : LD} {c7 : Int} {c8 : BA} {c9 : Int} {c10 c11 : LD} {c12 : Int} {c13 : BA} {c14 : Int} {c15 c16 : LD} (h : OW c0 c1 c2 c3 c4 c5 c6 c7 c8 c9 c10 c11 c12 c13 c14 c15 c16) : Robj lim [.int .i64 c0,.str c1,.int .i64 c2,.int .i64 c3,.int .i64 c4,.bool c5,.sl c6,.int .i64 c7,.str c8,.int .i64 c9,.sl c10,.sl c11,.int .i64 c12,.str c13,.int .i64 c14,.sl c15,.sl c16] :=
 ⟨_,_,_,_,_,_,_,_,_,_,_,_,_,_,_,_,_,rfl,h.k0,h.k1,h.k2,h.k3,h.k4,h.k6,h.k7,h.k8,h.k9,h.k10,h.k11,h.k12,h.k13,h.k14,h.k15,h.k16,trivial⟩
theorem OW.log {c0 : Int} {c1 : BA} {c2 c3 c4 : Int} {c5 : Bool} {c6 : LD} {c7 : Int} {c8 : BA} {c9 : Int} {c10 c11 : LD} {c12 : Int} {c13 : BA} {c14 : Int} {c15 c16 : LD} (h : OW c0 c1 c2 c3 c4 c5 c6 c7 c8 c9 c10 c11 c12 c13 c14 c15 c16) {r : Int} (hr : (Lit.int .i64 r).wf = true) {b : Bool} : Rlog lim (.int .i64 r :: .bool b :: [.int .i64 c0,.str c1,.int .i64 c2,.int .i64 c3,.int .i64 c4,.bool c5,.sl c6,.int .i64 c7,.str c8,.int .i64 c9,.sl c10,.sl c11,.int .i64 c12,.str c13,.int .i64 c14,.sl c15,.sl c16]) :=
 ⟨_,_,_,_,_,_,_,_,_,_,_,_,_,_,_,_,_,_,_,rfl,hr,h.k0,h.k1,h.k2,h.k3,h.k4,h.k6,h.k7,h.k8,h.k9,h.k10,h.k11,h.k12,h.k13,h.k14,h.k15,h.k16,trivial⟩
theorem OW.of {r : List D} (h : Robj lim r) : ∃ (c0 : Int) (c1 : BA) (c2 : Int) (c3 : Int) (c4 : Int) (c5 : Bool) (c6 : LD) (c7 : Int) (c8 : BA) (c9 : Int) (c10 : LD) (c11 : LD) (c12 : Int) (c13 : BA) (c14 : Int) (c15 : LD) (c16 : LD),r = [.int .i64 c0,.str c1,.int .i64 c2,.int .i64 c3,.int .i64 c4,.bool c5,.sl c6,.int .i64 c7,.str c8,.int .i64 c9,.sl c10,.sl c11,.int .i64 c12,.str c13,.int .i64 c14,.sl c15,.sl c16] ∧ OW c0 c1 c2 c3 c4 c5 c6 c7 c8 c9 c10 c11 c12 c13 c14 c15 c16 := by
 obtain ⟨c0,c1,c2,c3,c4,c5,c6,c7,c8,c9,c10,c11,c12,c13,c14,c15,c16,e,h0,h1,h2,h3,h4,h6,h7,h8,h9,h10,h11,h12,h13,h14,h15,h16,_⟩ := h.open
 exact ⟨c0,c1,c2,c3,c4,c5,c6,c7,c8,c9,c10,c11,c12,c13,c14,c15,c16,e,⟨h0,h1,h2,h3,h4,h6,h7,h8,h9,h10,h11,h12,h13,h14,h15,h16⟩⟩
structure YaR (n : Nat) (O : LD) (rev next : Int) (L : LD) : Prop where
 ro : ∀ r ∈ O,Robj lim r
 lo : O.length ≤ n
 rl : ∀ r ∈ L,Rlog lim r
 ll : L.length ≤ n
 r0 : 0 ≤ rev
 r1 : rev ≤ n
 x0 : 0 ≤ next
 x1 : next ≤ n + 1
theorem YaR.up {n m : Nat} {O L : LD} {rev next : Int} (h : YaR n O rev next L) (hm : n ≤ m) : YaR m O rev next L :=
 ⟨h.ro,Nat.le_trans h.lo hm,h.rl,Nat.le_trans h.ll hm,h.r0,by have := h.r1; omega,h.x0,by have := h.x1; omega⟩
theorem YaR.so {n : Nat} {O L : LD} {rev next : Int} (h : YaR n O rev next L) (hn : n ≤ 1000) : ZB Robj lim O := ⟨Nat.le_trans h.lo (Nat.le_trans hn (by decide)),h.ro⟩
theorem YaR.sl {n : Nat} {O L : LD} {rev next : Int} (h : YaR n O rev next L) (hn : n ≤ 1000) : ZB Rlog lim L := ⟨Nat.le_trans h.ll (Nat.le_trans hn (by decide)),h.rl⟩
theorem YaY {O L : LD} {rev next : Int} (gO : ZB Robj lim O) (gL : ZB Rlog lim L) {k : Nat} (hk : Zai 1 k) : Ys.t k O rev next L = some (Zc O,rev,next,Zc L) := by
 unfold Ys.t Ys.g
 rw [l7CopyObjs_fv gO hk,l7CopyLog_fv gL hk]
theorem rows17' {l : LD} (g : ∀ r ∈ l,Robj lim r) : Zbk 17 l := fun r hr => by
 obtain ⟨c0,c1,c2,c3,c4,c5,c6,c7,c8,c9,c10,c11,c12,c13,c14,c15,c16,rfl,-⟩ := (g r hr).open
 rfl
theorem rows17_sub {l m : LD} (g : ∀ r ∈ l,Robj lim r) (h : ∀ r ∈ m,r ∈ l) : Zbk 17 m := rows17' fun r hr => g r (h r hr)
def PutsE (n : Nat) (rev next : Int) (L : LD) (o : List D) (gone : Bool) (P : LD) (z : Option (LC × Int × Int × LD)) : Prop := ∃ X,C.immRows X = P ∧ YaR n P (rev + 1) next (ZbS (L ++ [chgO (rev + 1) o gone])) ∧ z = some (X,rev + 1,next,ZbS (L ++ [chgO (rev + 1) o gone]))
theorem keep_take {M : LD} (h : (M.length : Int) > 40) : (M.drop 1).take (M.length - 1) = ZbS M := by
 unfold ZbS
 rw [ZY h,List.take_of_length_le (by rw [List.length_drop]; exact Nat.le_refl _)]
 rfl
theorem keep_all {M : LD} (h : ¬ (M.length : Int) > 40) : M = ZbS M := by
 unfold ZbS
 rw [ZZ h]
 rfl
set_option maxRecDepth 100000 in
set_option maxHeartbeats 4000000 in
theorem puts_ex {n : Nat} {O L : LD} {rev next : Int} (hB : YaR n O rev next L) (hn : n ≤ 900) {c0 : Int} {c1 : BA} {c2 c3 c4 : Int} {c5 : Bool} {c6 : LD} {c7 : Int} {c8 : BA} {c9 : Int} {c10 c11 : LD} {c12 : Int} {c13 : BA} {c14 : Int} {c15 c16 : LD} (hO : OW c0 c1 c2 c3 c4 c5 c6 c7 c8 c9 c10 c11 c12 c13 c14 c15 c16) {gone : Bool} (hg : gone = true → 0 ≤ YaP O c0 c1) {k : Nat} (hk : Zai 1 k) : PutsE (n + 1) rev next L [.int .i64 c0,.str c1,.int .i64 c2,.int .i64 (rev + 1),.int .i64 c4,.bool c5,.sl c6,.int .i64 c7,.str c8,.int .i64 c9,.sl c10,.sl c11,.int .i64 c12,.str c13,.int .i64 c14,.sl c15,.sl c16] gone (bif gone then dropO O (YaP O c0 c1) else YaQ Yab YaN [.int .i64 c0,.str c1,.int .i64 c2,.int .i64 (rev + 1),.int .i64 c4,.bool c5,.sl c6,.int .i64 c7,.str c8,.int .i64 c9,.sl c10,.sl c11,.int .i64 c12,.str c13,.int .i64 c14,.sl c15,.sl c16] [.int .i64 c0,.str c1,.int .i64 c2,.int .i64 (rev + 1),.int .i64 c4,.bool c5,.sl c6,.int .i64 c7,.str c8,.int .i64 c9,.sl c10,.sl c11,.int .i64 c12,.str c13,.int .i64 c14,.sl c15,.sl c16] false O) (YR.t k O rev next L c0 c1 c2 c3 c4 c5 c6 c7 c8 c9 c10 c11 c12 c13 c14 c15 c16 gone) := by
 have hlim : lim = 1048576 := rfl
 have hm : Z8 = 2 ^ 36 := rfl
 have hk0 : Fuel k := up0 hk
 have gO := hB.so (by omega)
 have gL := hB.sl (by omega)
 have r0 := hB.r0; have r1 := hB.r1; have lo := hB.lo; have ll := hB.ll
 have hw : IntKind.wrap .i64 (rev + 1) = rev + 1 := Z9 (by omega) (by omega)
 have hwr : (Lit.int .i64 (rev + 1)).wf = true := wf_of (by omega) (by omega)
 have hO' : OW c0 c1 c2 (rev + 1) c4 c5 c6 c7 c8 c9 c10 c11 c12 c13 c14 c15 c16 := { hO with k3 := hwr }
 -- the log
 have logE : ∀ g : Bool,C.immRows (Zc L ++ [[.d (.int .i64 (rev + 1)),.d (.bool g),.d (.int .i64 c0),.d (.str c1),.d (.int .i64 c2),.d (.int .i64 (rev + 1)),.d (.int .i64 c4),.d (.bool c5),.own (Zc c6),.d (.int .i64 c7),.d (.str c8),.d (.int .i64 c9),.own (Zc c10),.own (Zc c11),.d (.int .i64 c12),.d (.str c13),.d (.int .i64 c14),.own (Zc c15),.own (Zc c16)]]) = L ++ ([.int .i64 (rev + 1) :: .bool g :: [.int .i64 c0,.str c1,.int .i64 c2,.int .i64 (rev + 1),.int .i64 c4,.bool c5,.sl c6,.int .i64 c7,.str c8,.int .i64 c9,.sl c10,.sl c11,.int .i64 c12,.str c13,.int .i64 c14,.sl c15,.sl c16]] : LD) := fun g => by
  rw [Za3,ZK]
  simp only [C.immRows,C.immCells,C.imm,ZK]
 have logR : ∀ g : Bool,(∀ r ∈ L ++ ([.int .i64 (rev + 1) :: .bool g :: [.int .i64 c0,.str c1,.int .i64 c2,.int .i64 (rev + 1),.int .i64 c4,.bool c5,.sl c6,.int .i64 c7,.str c8,.int .i64 c9,.sl c10,.sl c11,.int .i64 c12,.str c13,.int .i64 c14,.sl c15,.sl c16]] : LD),Rlog lim r) ∧ (L ++ ([.int .i64 (rev + 1) :: .bool g :: [.int .i64 c0,.str c1,.int .i64 c2,.int .i64 (rev + 1),.int .i64 c4,.bool c5,.sl c6,.int .i64 c7,.str c8,.int .i64 c9,.sl c10,.sl c11,.int .i64 c12,.str c13,.int .i64 c14,.sl c15,.sl c16]] : LD)).length ≤ n + 1 := fun g => by
  refine ⟨fun r hr => ?_,by simp; omega⟩
  rcases List.mem_append.mp hr with hr | hr
  ·exact hB.rl r hr
  ·simp only [List.mem_singleton] at hr
   subst hr
   exact hO'.log hwr
 have x0 := hB.x0; have x1 := hB.x1
 have done : ∀ (X : LC) (g : Bool) (P : LD),C.immRows X = P → (∀ r ∈ C.immRows X,Robj lim r) → (C.immRows X).length ≤ n + 1 → ∀ M : LD,M = ZbS (L ++ [chgO (rev + 1) [.int .i64 c0,.str c1,.int .i64 c2,.int .i64 (rev + 1),.int .i64 c4,.bool c5,.sl c6,.int .i64 c7,.str c8,.int .i64 c9,.sl c10,.sl c11,.int .i64 c12,.str c13,.int .i64 c14,.sl c15,.sl c16] g]) → PutsE (n + 1) rev next L [.int .i64 c0,.str c1,.int .i64 c2,.int .i64 (rev + 1),.int .i64 c4,.bool c5,.sl c6,.int .i64 c7,.str c8,.int .i64 c9,.sl c10,.sl c11,.int .i64 c12,.str c13,.int .i64 c14,.sl c15,.sl c16] g P (some (X,rev + 1,next,M)) := fun X g P hP h1 h2 M hM => by
  subst hM hP
  exact ⟨X,rfl,⟨h1,h2,fun r hr => (logR g).1 r (keep_sub.subset hr),Nat.le_trans keep_sub.length_le (logR g).2,by omega,by omega,x0,by omega⟩,rfl⟩
 unfold YR.t YR.g
 rw [Ys.f_of (YaY gO gL hk)]
 dsimp only
 rw [ZK,l7Find_fv gO hk0,hw]
 have hlen : ∀ g : Bool,(Zc L ++ ([[.d (.int .i64 (rev + 1)),.d (.bool g),.d (.int .i64 c0),.d (.str c1),.d (.int .i64 c2),.d (.int .i64 (rev + 1)),.d (.int .i64 c4),.d (.bool c5),.own (Zc c6),.d (.int .i64 c7),.d (.str c8),.d (.int .i64 c9),.own (Zc c10),.own (Zc c11),.d (.int .i64 c12),.d (.str c13),.d (.int .i64 c14),.own (Zc c15),.own (Zc c16)]] : LC)).length = L.length + 1 := fun g => by rw [List.length_append,ZS]; rfl
 have kl : ∀ g : Bool,(L ++ [chgO (rev + 1) [.int .i64 c0,.str c1,.int .i64 c2,.int .i64 (rev + 1),.int .i64 c4,.bool c5,.sl c6,.int .i64 c7,.str c8,.int .i64 c9,.sl c10,.sl c11,.int .i64 c12,.str c13,.int .i64 c14,.sl c15,.sl c16] g]).length = L.length + 1 := fun g => by rw [List.length_append,List.length_singleton]
 have kt : ∀ g : Bool,((L.length + 1 : Nat) : Int) > 40 → ((L ++ [chgO (rev + 1) [.int .i64 c0,.str c1,.int .i64 c2,.int .i64 (rev + 1),.int .i64 c4,.bool c5,.sl c6,.int .i64 c7,.str c8,.int .i64 c9,.sl c10,.sl c11,.int .i64 c12,.str c13,.int .i64 c14,.sl c15,.sl c16] g]).drop 1).take (L.length + 1 - 1) = ZbS (L ++ [chgO (rev + 1) [.int .i64 c0,.str c1,.int .i64 c2,.int .i64 (rev + 1),.int .i64 c4,.bool c5,.sl c6,.int .i64 c7,.str c8,.int .i64 c9,.sl c10,.sl c11,.int .i64 c12,.str c13,.int .i64 c14,.sl c15,.sl c16] g]) := fun g h => by
  rw [← keep_take (by rw [kl]; exact h),kl]
 have ka : ∀ g : Bool,¬ ((L.length + 1 : Nat) : Int) > 40 → L ++ [chgO (rev + 1) [.int .i64 c0,.str c1,.int .i64 c2,.int .i64 (rev + 1),.int .i64 c4,.bool c5,.sl c6,.int .i64 c7,.str c8,.int .i64 c9,.sl c10,.sl c11,.int .i64 c12,.str c13,.int .i64 c14,.sl c15,.sl c16] g] = ZbS (L ++ [chgO (rev + 1) [.int .i64 c0,.str c1,.int .i64 c2,.int .i64 (rev + 1),.int .i64 c4,.bool c5,.sl c6,.int .i64 c7,.str c8,.int .i64 c9,.sl c10,.sl c11,.int .i64 c12,.str c13,.int .i64 c14,.sl c15,.sl c16] g]) := fun g h => keep_all (by rw [kl]; exact h)
 cases gone with
 | true =>
  simp only [cond_true]
  have hg := hg rfl
  obtain ⟨y,hy,hyl⟩ := findO_lt (l := O) (x := c0) (y := c1) (by omega)
  rw [hy]
  have hwy : IntKind.wrap .i64 ((y : Int) + 1) = ((y + 1 : Nat) : Int) := by rw [Z9 (by omega) (by omega)]; omega
  rw [hwy]
  simp only [Int.toNat_natCast,Int.toNat_zero,List.drop_zero,Nat.sub_zero,List.nil_append]
  rw [ZH ⟨by omega,by omega,by omega,rows17' hB.ro⟩,ZH (rows17_sub hB.ro fun r hr => List.mem_of_mem_take hr),ZH (by simp only [List.length_nil,map_len,List.length_take]; omega),ZH ⟨by omega,by omega,by omega,rows17' hB.ro⟩,ZH (rows17_sub hB.ro fun r hr => List.mem_of_mem_drop (List.mem_of_mem_take hr)),ZH (by simp only [List.length_nil,map_len,List.length_take,List.length_drop]; omega)]
  rw [Ya6 hO.k6 hO.k10 hO.k11 hO.k15 hO.k16 hk,ZH (by rw [ZS,List.length_singleton]; omega)]
  have hX : C.immRows ((O.take y).map (·.map C.d) ++ ((O.drop (y + 1)).take (O.length - (y + 1))).map (·.map C.d)) = O.take y ++ (O.drop (y + 1)).take (O.length - (y + 1)) := by rw [Za3,imm_rows,imm_rows]
  have hP : C.immRows ((O.take y).map (·.map C.d) ++ ((O.drop (y + 1)).take (O.length - (y + 1))).map (·.map C.d)) = dropO O (y : Int) := by
   rw [hX,List.take_of_length_le (i := O.length - (y + 1)) (l := O.drop (y + 1)) (by rw [List.length_drop]; exact Nat.le_refl _)]
   rfl
  have hX1 : ∀ r ∈ C.immRows ((O.take y).map (·.map C.d) ++ ((O.drop (y + 1)).take (O.length - (y + 1))).map (·.map C.d)),Robj lim r := fun r hr => by
   rw [hX] at hr
   rcases List.mem_append.mp hr with hr | hr
   ·exact hB.ro r (List.mem_of_mem_take hr)
   ·exact hB.ro r (List.mem_of_mem_drop (List.mem_of_mem_take hr))
  have hX2 : (C.immRows ((O.take y).map (·.map C.d) ++ ((O.drop (y + 1)).take (O.length - (y + 1))).map (·.map C.d))).length ≤ n + 1 := by
   rw [hX]; simp only [List.length_append,List.length_take,List.length_drop]; omega
  rw [hlen true,logE true]
  by_cases h40 : ((L.length + 1 : Nat) : Int) > 40
  ·rw [ZY h40]
   simp only [cond_true]
   rw [ZH ⟨by omega,by omega,by omega⟩]
   exact done _ true _ hP hX1 hX2 _ (kt true h40)
  ·rw [ZZ h40]
   simp only [cond_false]
   exact done _ true _ hP hX1 hX2 _ (ka true h40)
 | false =>
  simp only [cond_false]
  obtain ⟨ys,e1,e2⟩ := l7With_fv gO (x0 := c0) (x1 := c1) (x2 := c2) (x3 := rev + 1) (x4 := c4) (x5 := c5) (x7 := c7) (x8 := c8) (x9 := c9) (x12 := c12) (x13 := c13) (x14 := c14) hO.k6 hO.k10 hO.k11 hO.k15 hO.k16 hk
  rw [YX.f_of e1,Ya6 hO.k6 hO.k10 hO.k11 hO.k15 hO.k16 hk,ZH (by rw [ZS,List.length_singleton]; omega)]
  have hX1 : ∀ r ∈ C.immRows ys,Robj lim r := fun r hr => by
   rw [e2] at hr
   rcases withF_mem hr with hr | hr
   ·exact hB.ro r hr
   ·rw [hr]; exact hO'.row
  have hX2 : (C.immRows ys).length ≤ n + 1 := by
   rw [e2]
   refine Nat.le_trans withF_len ?_
   simp only [cond_false]
   omega
  rw [hlen false,logE false]
  by_cases h40 : ((L.length + 1 : Nat) : Int) > 40
  ·rw [ZY h40]
   simp only [cond_true]
   rw [ZH ⟨by omega,by omega,by omega⟩]
   exact done _ false _ e2 hX1 hX2 _ (kt false h40)
  ·rw [ZZ h40]
   simp only [cond_false]
   exact done _ false _ e2 hX1 hX2 _ (ka false h40)
theorem strEq_eq2 {a b : BA} (h : Zae a b = true) : a = b := by
 unfold Zae at h
 have h := eq_of_beq h
 rw [ByteArray.toList_eq,ByteArray.toList_eq] at h
 obtain ⟨⟨x⟩⟩ := a
 obtain ⟨⟨y⟩⟩ := b
 simpa using h
theorem sl_nil {R : Nat → List D → Prop} : ZB R lim [] := ⟨Nat.zero_le _,fun r hr => by cases hr⟩
theorem deep_nil : Zc [] = [] := by simp only [Zc]
theorem OW.zero : OW 0 (⟨#[]⟩ : BA) 0 0 0 false [] 0 (⟨#[]⟩ : BA) 0 [] [] 0 (⟨#[]⟩ : BA) 0 [] [] := ⟨by decide,by decide,by decide,by decide,by decide,sl_nil,by decide,by decide,by decide,sl_nil,sl_nil,by decide,by decide,by decide,sl_nil,sl_nil⟩
theorem findO_self {O : LD} {x : Int} {y : BA} {i : Nat} (h : YaP O x y = (i : Int)) (hi : i < O.length) : gI O (i : Int) 0 = x ∧ gS O (i : Int) 1 = y := by
 unfold YaP at h
 obtain ⟨h1,h2,h3,-⟩ := findI_some (p := fun i => (gI O (i : Int) 0 == x) && Zae (gS O (i : Int) 1) y) (n := O.length) (by omega)
 have e : (ZbV (fun i => (gI O (i : Int) 0 == x) && Zae (gS O (i : Int) 1) y) O.length).toNat = i := by omega
 rw [e] at h2
 simp only [Bool.and_eq_true,beq_iff_eq] at h2
 exact ⟨h2.1,(strEq_eq2 h2.2)⟩
def FndO (O : LD) (r : List D) : Prop := ∃ y : Nat,YaP O (rI r 0) (rS r 1) = (y : Int) ∧ ∃ hy : y < O.length,O[y] = r
theorem FndO.mem {O : LD} {r : List D} (h : FndO O r) : r ∈ O := by
 obtain ⟨y,-,hy,rfl⟩ := h
 exact List.getElem_mem _
def Goes (O : LD) (rev next : Int) (L : LD) (O' : LD) (rev' next' : Int) (L' : LD) : Prop :=
 (O' = O ∧ rev' = rev ∧ next' = next ∧ L' = L) ∨ (OkB O rev next L ∧ OkB O' rev' next' L' ∧ ∃ ch,Ya1 rev O ch = some (rev',O') ∧ rev' = rev + 1 ∧ L' = ZbS (L ++ [ch]))
theorem Ybc {O L : LD} {rev next kind : Int} {name : BA} {fine : Bool} (wO : ZB Robj lim O) (wL : ZB Rlog lim L) (hs : name.size ≤ lim) (h : Yr.v O rev next L kind name fine = 0) : OkB O rev next L ∧ inB kind 1 3 = true ∧ Yj.v name = true ∧ fine = true ∧ rev < 1000000 ∧ next < 1000000 := by
 have hk : Zai 1 (lv 1) := by unfold Zai lv; omega
 have hv := Yr.tv (aA := rev) (aC := next) (a1 := kind) (a3 := fine) wO wL hs hk
 rw [h] at hv
 unfold Yr.t Yr.g at hv
 rw [Ym.fv wO wL hk,base_v wO wL] at hv
 cases hb : baseB O rev next L <;> rw [hb] at hv
 ·injection hv with hv; cases hv
 simp only [Bool.not_true,cond_false] at hv
 rw [l1In_fv] at hv
 cases h1 : inB kind 1 3 <;> rw [h1] at hv
 ·injection hv with hv; cases hv
 simp only [Bool.not_true,cond_false] at hv
 rw [Yj.fv hs (up0 hk)] at hv
 cases h2 : Yj.v name <;> rw [h2] at hv
 ·injection hv with hv; cases hv
 simp only [Bool.not_true,cond_false] at hv
 cases fine
 ·injection hv with hv; cases hv
 simp only [Bool.not_true,cond_false] at hv
 have hB := base_iff.mp hb
 cases h3 : (rev == 1000000) <;> rw [h3] at hv
 ·simp only [cond_false] at hv
  cases h4 : (next == 1000000) <;> rw [h4] at hv
  ·have h3 := beq_eq_false_iff_ne.mp h3
   have h4 := beq_eq_false_iff_ne.mp h4
   have := hB.r1; have := hB.n1
   exact ⟨hB,rfl,rfl,rfl,by omega,by omega⟩
  ·injection hv with hv; cases hv
 ·injection hv with hv; cases hv
set_option maxRecDepth 100000 in
set_option maxHeartbeats 2000000 in
theorem get_ex {n : Nat} {O L : LD} {rev next : Int} (hB : YaR n O rev next L) (hn : n ≤ 900) {kind : Int} {name : BA} {k : Nat} (hk : Zai 1 k) : ∃ (c0 : Int) (c1 : BA) (c2 : Int) (c3 : Int) (c4 : Int) (c5 : Bool) (c6 : LD) (c7 : Int) (c8 : BA) (c9 : Int) (c10 : LD) (c11 : LD) (c12 : Int) (c13 : BA) (c14 : Int) (c15 : LD) (c16 : LD) (ok : Bool),OW c0 c1 c2 c3 c4 c5 c6 c7 c8 c9 c10 c11 c12 c13 c14 c15 c16 ∧ (ok = true → FndO O [.int .i64 c0,.str c1,.int .i64 c2,.int .i64 c3,.int .i64 c4,.bool c5,.sl c6,.int .i64 c7,.str c8,.int .i64 c9,.sl c10,.sl c11,.int .i64 c12,.str c13,.int .i64 c14,.sl c15,.sl c16]) ∧ YaK.t k O rev next L kind name = some (c0,c1,c2,c3,c4,c5,Zc c6,c7,c8,c9,Zc c10,Zc c11,c12,c13,c14,Zc c15,Zc c16,ok) := by
 have gO := hB.so (by omega)
 unfold YaK.t YaK.g; simp only [atR,rdQ,Q.ask]
 rw [l7Find_fv gO (up0 hk)]
 by_cases h : YaP O kind name < 0
 ·rw [ZY h]
  simp only [cond_true]
  refine ⟨0,⟨#[]⟩,0,0,0,false,[],0,⟨#[]⟩,0,[],[],0,⟨#[]⟩,0,[],[],false,OW.zero,by simp,?_⟩
  rw [deep_nil]
 ·rw [ZZ h]
  simp only [cond_false]
  obtain ⟨i,hi,hil⟩ := findO_lt h
  rw [hi]
  have hrow := hB.ro _ (gR_mem (xs := O) (v := (i : Int)) (by omega) (by omega))
  obtain ⟨c0,c1,c2,c3,c4,c5,c6,c7,c8,c9,c10,c11,c12,c13,c14,c15,c16,e,hO⟩ := OW.of hrow
  obtain ⟨s1,s2⟩ := findO_self hi hil
  have e0 : gI O (i : Int) 0 = c0 := by unfold gI; rw [e]; rfl
  have e1 : gS O (i : Int) 1 = c1 := by unfold gS; rw [e]; rfl
  have hfnd : FndO O [.int .i64 c0,.str c1,.int .i64 c2,.int .i64 c3,.int .i64 c4,.bool c5,.sl c6,.int .i64 c7,.str c8,.int .i64 c9,.sl c10,.sl c11,.int .i64 c12,.str c13,.int .i64 c14,.sl c15,.sl c16] := ⟨i,by show YaP O c0 c1 = _; rw [← e0,← e1,s1,s2]; exact hi,hil,by rw [← gR_lt hil]; exact e⟩
  refine ⟨c0,c1,c2,c3,c4,c5,c6,c7,c8,c9,c10,c11,c12,c13,c14,c15,c16,true,hO,fun _ => hfnd,?_⟩
  ·simp (disch := omega) only [atR,rdQ,Q.ask,Zck (xs := O) (v := (i : Int)),e,Z4,Z5,ZaQ,ZaV,Zbl,Zan]
   rw [Ya6 hO.k6 hO.k10 hO.k11 hO.k15 hO.k16 hk]
theorem at_ex {n : Nat} {O L : LD} {rev next : Int} (hB : YaR n O rev next L) (hn : n ≤ 900) {kind rv : Int} {name : BA} {k : Nat} (hk : Zai 1 k) : ∃ (c0 : Int) (c1 : BA) (c2 : Int) (c3 : Int) (c4 : Int) (c5 : Bool) (c6 : LD) (c7 : Int) (c8 : BA) (c9 : Int) (c10 : LD) (c11 : LD) (c12 : Int) (c13 : BA) (c14 : Int) (c15 : LD) (c16 : LD) (code : Int),OW c0 c1 c2 c3 c4 c5 c6 c7 c8 c9 c10 c11 c12 c13 c14 c15 c16 ∧ (code = 0 → FndO O [.int .i64 c0,.str c1,.int .i64 c2,.int .i64 c3,.int .i64 c4,.bool c5,.sl c6,.int .i64 c7,.str c8,.int .i64 c9,.sl c10,.sl c11,.int .i64 c12,.str c13,.int .i64 c14,.sl c15,.sl c16]) ∧ Yat.t k O rev next L kind name rv = some (c0,c1,c2,c3,c4,c5,Zc c6,c7,c8,c9,Zc c10,Zc c11,c12,c13,c14,Zc c15,Zc c16,code) := by
 obtain ⟨c0,c1,c2,c3,c4,c5,c6,c7,c8,c9,c10,c11,c12,c13,c14,c15,c16,ok,hO,hf,e⟩ := get_ex hB hn (kind := kind) (name := name) hk
 unfold Yat.t Yat.g YaK.f
 rw [e]
 dsimp only
 cases ok with
 | false =>
  simp only [Bool.not_false,cond_true]
  exact ⟨c0,c1,c2,c3,c4,c5,c6,c7,c8,c9,c10,c11,c12,c13,c14,c15,c16,3,hO,fun q => absurd q (by decide),rfl⟩
 | true =>
  simp only [Bool.not_true,cond_false]
  have hf := hf rfl
  cases decide (rv ≥ 0) <;> cases (c3 != rv) <;> simp only [cond_true,cond_false] <;> first | exact ⟨c0,c1,c2,c3,c4,c5,c6,c7,c8,c9,c10,c11,c12,c13,c14,c15,c16,0,hO,fun _ => hf,rfl⟩ | exact ⟨c0,c1,c2,c3,c4,c5,c6,c7,c8,c9,c10,c11,c12,c13,c14,c15,c16,4,hO,fun q => absurd q (by decide),rfl⟩
def OpD (O : LD) (rev next : Int) (L : LD) (n : Nat) (o : Option (LC × Int × Int × LD × Int)) : Prop := ∃ X rev' next' L' code,YaR n (C.immRows X) rev' next' L' ∧ Goes O rev next L (C.immRows X) rev' next' L' ∧ o = some (X,rev',next',L',code)
theorem OpD.base {n : Nat} {O L : LD} {rev next : Int} (hB : YaR n O rev next L) (code : Int) : OpD O rev next L (n + 1) (some (Zc O,rev,next,C.immRows (Zc L),code)) :=
 ⟨_,_,_,_,code,by rw [ZK,ZK]; exact hB.up (by omega),.inl ⟨ZK _,rfl,rfl,ZK _⟩,rfl⟩
theorem OpD.base' {n : Nat} {O L : LD} {rev next : Int} (hB : YaR n O rev next L) (code : Int) : OpD O rev next L (n + 1) (some (Zc O,rev,next,L,code)) := by
 have := OpD.base hB code
 rwa [ZK] at this
theorem OpD.put {n : Nat} {O L P : LD} {rev next next' : Int} {r : List D} {gone : Bool} {o : Option (LC × Int × Int × LD)} (h : PutsE n rev next' L r gone P o) (hok : OkB O rev next L) (hrev : rev < 1000000) (hn : next ≤ next') (hn' : next' ≤ 1000000) (h3 : rI r 3 = rev + 1) (hr : rowB r (next' - 1) (rev + 1) gone = true) (hO : OkO P (rev + 1) (next' - 1)) (hs : Ya1 rev O (chgO (rev + 1) r gone) = some (rev + 1,P)) (code : Int) : OpD O rev next L n (bd4 o fun a b c d => some (a,b,c,d,code)) := by
 obtain ⟨X,hX,hB,rfl⟩ := h
 subst hX
 exact ⟨X,_,_,_,code,hB,.inr ⟨hok,hok.put hrev hn hn' h3 hr hO,_,hs,rfl,rfl⟩,rfl⟩
theorem OpD.chg {n : Nat} {O L : LD} {rev next c0 : Int} {c1 : BA} {c2 c3 c4 : Int} {c5 : Bool} {c6 : LD} {c7 : Int} {c8 : BA} {c9 : Int} {c10 c11 : LD} {c12 : Int} {c13 : BA} {c14 : Int} {c15 c16 : LD} {d4 : Int} {d5 : Bool} {d6 : LD} {d7 : Int} {d8 : BA} {d9 : Int} {d10 d11 : LD} {d12 : Int} {d13 : BA} {d14 : Int} {d15 d16 : LD} {gone : Bool} {o : Option (LC × Int × Int × LD)} (h : PutsE n rev next L [.int .i64 c0,.str c1,.int .i64 c2,.int .i64 (rev + 1),.int .i64 d4,.bool d5,.sl d6,.int .i64 d7,.str d8,.int .i64 d9,.sl d10,.sl d11,.int .i64 d12,.str d13,.int .i64 d14,.sl d15,.sl d16] gone (bif gone then dropO O (YaP O c0 c1) else YaQ Yab YaN [.int .i64 c0,.str c1,.int .i64 c2,.int .i64 (rev + 1),.int .i64 d4,.bool d5,.sl d6,.int .i64 d7,.str d8,.int .i64 d9,.sl d10,.sl d11,.int .i64 d12,.str d13,.int .i64 d14,.sl d15,.sl d16] [.int .i64 c0,.str c1,.int .i64 c2,.int .i64 (rev + 1),.int .i64 d4,.bool d5,.sl d6,.int .i64 d7,.str d8,.int .i64 d9,.sl d10,.sl d11,.int .i64 d12,.str d13,.int .i64 d14,.sl d15,.sl d16] false O) o) (hok : OkB O rev next L) (hrev : rev < 1000000) (hf : FndO O [.int .i64 c0,.str c1,.int .i64 c2,.int .i64 c3,.int .i64 c4,.bool c5,.sl c6,.int .i64 c7,.str c8,.int .i64 c9,.sl c10,.sl c11,.int .i64 c12,.str c13,.int .i64 c14,.sl c15,.sl c16]) (k4 : inB d4 1 (rev + 1) = true) (k6 : Yo.v d6 = true) (k7 : Yp.v d7 d8 d9 d10 d11 = true) (k12 : Yp.v d12 d13 d14 d15 d16 = true) (ke : (gone || (!d5 || decide ((d6.length : Int) > 0))) = true) (code : Int) : OpD O rev next L n (bd4 o fun a b c d => some (a,b,c,d,code)) := by
 have h0 := hok.r0
 have hold := hok.ob.row _ hf.mem
 have hold : objV c0 c1 c2 c3 c4 c5 c6 c7 c8 c9 c10 c11 c12 c13 c14 c15 c16 (next - 1) rev false = true := hold
 have hr : rowB [.int .i64 c0,.str c1,.int .i64 c2,.int .i64 (rev + 1),.int .i64 d4,.bool d5,.sl d6,.int .i64 d7,.str d8,.int .i64 d9,.sl d10,.sl d11,.int .i64 d12,.str d13,.int .i64 d14,.sl d15,.sl d16] (next - 1) (rev + 1) gone = true := by
  show objV c0 c1 c2 (rev + 1) d4 d5 d6 d7 d8 d9 d10 d11 d12 d13 d14 d15 d16 (next - 1) (rev + 1) gone = true
  unfold objV at hold ⊢
  simp only [Bool.and_eq_true] at hold ⊢
  obtain ⟨q0,q1,q2,-⟩ := hold
  exact ⟨q0,q1,q2,YaS.mpr ⟨by omega,by omega⟩,k4,k6,k7,k12,ke⟩
 obtain ⟨y,hy,hyl,ey⟩ := hf
 have hy : YaP O c0 c1 = (y : Int) := hy
 cases gone with
 | true =>
  refine OpD.put h hok hrev (Int.le_refl _) hok.n1 rfl hr ((hok.ob.sub drop_sub).mono (Int.le_refl _) (by omega)) (step_dropO h0 (by omega) (by omega) ?_) code
  rw [hy]
  unfold gI
  rw [gR_lt hyl,ey]
  rfl
 | false =>
  exact OpD.put h hok hrev (Int.le_refl _) hok.n1 rfl hr (hok.ob.with hr (Int.le_refl _) (.inl ⟨y,hy,hyl,by rw [ey]; rfl⟩)) (step_withO h0 (by omega)) code
theorem FndO.ge {O : LD} {c0 : Int} {c1 : BA} {c2 c3 c4 : Int} {c5 : Bool} {c6 : LD} {c7 : Int} {c8 : BA} {c9 : Int} {c10 c11 : LD} {c12 : Int} {c13 : BA} {c14 : Int} {c15 c16 : LD} (h : FndO O [.int .i64 c0,.str c1,.int .i64 c2,.int .i64 c3,.int .i64 c4,.bool c5,.sl c6,.int .i64 c7,.str c8,.int .i64 c9,.sl c10,.sl c11,.int .i64 c12,.str c13,.int .i64 c14,.sl c15,.sl c16]) : 0 ≤ YaP O c0 c1 := by
 obtain ⟨y,hy,-⟩ := h
 have hy : YaP O c0 c1 = (y : Int) := hy
 omega
theorem OkB.old {O L : LD} {rev next c0 : Int} {c1 : BA} {c2 c3 c4 : Int} {c5 : Bool} {c6 : LD} {c7 : Int} {c8 : BA} {c9 : Int} {c10 c11 : LD} {c12 : Int} {c13 : BA} {c14 : Int} {c15 c16 : LD} (hok : OkB O rev next L) (hf : FndO O [.int .i64 c0,.str c1,.int .i64 c2,.int .i64 c3,.int .i64 c4,.bool c5,.sl c6,.int .i64 c7,.str c8,.int .i64 c9,.sl c10,.sl c11,.int .i64 c12,.str c13,.int .i64 c14,.sl c15,.sl c16]) : inB c0 1 3 = true ∧ Yj.v c1 = true ∧ inB c2 1 (next - 1) = true ∧ inB c3 1 rev = true ∧ inB c4 1 (rev + 1) = true ∧ Yo.v c6 = true ∧ Yp.v c7 c8 c9 c10 c11 = true ∧ Yp.v c12 c13 c14 c15 c16 = true ∧ (!c5 || decide ((c6.length : Int) > 0)) = true := by
 have h := hok.ob.row _ hf.mem
 have h : objV c0 c1 c2 c3 c4 c5 c6 c7 c8 c9 c10 c11 c12 c13 c14 c15 c16 (next - 1) rev false = true := h
 unfold objV at h
 simp only [Bool.and_eq_true] at h
 obtain ⟨k0,k1,k2,k3,k4,k6,k7,k12,ke⟩ := h
 have a3 := YaS.mp k3
 have a4 := YaS.mp k4
 exact ⟨k0,k1,k2,k3,YaS.mpr ⟨by omega,by omega⟩,k6,k7,k12,by simpa using ke⟩
set_option maxRecDepth 100000 in
set_option maxHeartbeats 2000000 in
theorem remove_ex {n : Nat} {O L : LD} {rev next : Int} (hB : YaR n O rev next L) (hn : n ≤ 900) {kind : Int} {name : BA} (hs : name.size ≤ lim) {k : Nat} (hk : Zai 1 k) : OpD O rev next L (n + 1) (YaI.t k O rev next L kind name) := by
 have gO := hB.so (by omega)
 have gL := hB.sl (by omega)
 unfold YaI.t YaI.g
 rw [Yr.fv gO gL hs hk]
 cases hq : (Yr.v O rev next L kind name true != 0) with
 | true =>
  simp only [cond_true]
  rw [Ys.f_of (YaY gO gL hk)]
  exact .base hB _
 | false =>
  simp only [cond_false]
  obtain ⟨hok,-,-,-,hrev,-⟩ := Ybc gO gL hs (by simpa using hq)
  obtain ⟨c0,c1,c2,c3,c4,c5,c6,c7,c8,c9,c10,c11,c12,c13,c14,c15,c16,code,hO,hf,e⟩ := at_ex hB hn (kind := kind) (name := name) (rv := -1) hk
  unfold Yat.f
  rw [e]
  dsimp only
  cases hc : (code != 0) with
  | true =>
   simp only [cond_true]
   rw [Ys.f_of (YaY gO gL hk)]
   exact .base hB _
  | false =>
   have hf := hf (by simpa using hc)
   obtain ⟨k0,k1,k2,k3,k4,k6,k7,k12,ke⟩ := hok.old hf
   simp only [cond_false,ZK]
   cases hz : (((Zc c6).length : Int) == 0) with
   | true =>
    simp only [cond_true]
    exact .chg (puts_ex hB hn hO (fun _ => hf.ge) hk) hok hrev hf k4 k6 k7 k12 rfl 0
   | false =>
    simp only [cond_false]
    cases c5 with
    | true =>
     simp only [cond_true]
     rw [Ys.f_of (YaY gO gL hk)]
     simp only [ZK]
     exact .base' hB 0
    | false =>
     simp only [cond_false]
     exact .chg (puts_ex hB hn (c5 := true) ⟨hO.k0,hO.k1,hO.k2,hO.k3,hO.k4,hO.k6,hO.k7,hO.k8,hO.k9,hO.k10,hO.k11,hO.k12,hO.k13,hO.k14,hO.k15,hO.k16⟩ (by simp) hk) hok hrev hf k4 k6 k7 k12 (by rw [ZS] at hz; have := beq_eq_false_iff_ne.mp hz; rw [ZY (show (c6.length : Int) > 0 by omega)]; rfl) 0
theorem wrap_wf2 (x : Int) : (Lit.int .i64 (IntKind.wrap .i64 x)).wf = true := by
 have h : -9223372036854775808 ≤ IntKind.wrap .i64 x ∧ IntKind.wrap .i64 x ≤ 9223372036854775807 := by
  rw [IntKind.wrap_i64]
  omega
 exact wf_of h.1 h.2
set_option maxRecDepth 100000 in
theorem sameB (n : Nat) : ∀ (c0 : Int) (c1 : BA) (c2 : Int) (c3 c4 : LD) (e0 : Int) (e1 : BA) (e2 : Int) (e3 e4 : LD),ZB RS lim c3 → c4.length ≤ lim → (∀ x ∈ c4,Yan lim n x) → ZB RS lim e3 → e4.length ≤ lim → (∀ x ∈ e4,Yan lim n x) → ∀ {k : Nat},big + n + 1 ≤ k → ∃ b,Yf.t k c0 c1 c2 c3 c4 e0 e1 e2 e3 e4 = some b := by
 have hlim : lim = 1048576 := rfl
 have hb : big = 2 ^ 64 := rfl
 induction n using Nat.strongRecOn with
 | ind n ih =>
 intro c0 c1 c2 c3 c4 e0 e1 e2 e3 e4 g3 l4 g4 f3 m4 f4 k hk
 have l3 := g3.1
 have m3 := f3.1
 obtain ⟨k,rfl⟩ : ∃ k',k = k' + 1 := ⟨k - 1,by omega⟩
 rw [Yf.t_succ]
 unfold Yf.g Yf.body Yf.m
 cases (c0 != e0)
 case true => exact ⟨_,rfl⟩
 simp only [cond_false]
 cases !(Zae c1 e1)
 case true => exact ⟨_,rfl⟩
 simp only [cond_false]
 cases (c2 != e2)
 case true => exact ⟨_,rfl⟩
 simp only [cond_false]
 cases hl3 : ((c3.length : Int) != (e3.length : Int))
 case true => exact ⟨_,rfl⟩
 simp only [cond_false]
 cases hl4 : ((c4.length : Int) != (e4.length : Int))
 case true => exact ⟨_,rfl⟩
 simp only [cond_false]
 have q3 : c3.length = e3.length := by simp only [bne_eq_false_iff_eq] at hl3; omega
 have q4 : c4.length = e4.length := by simp only [bne_eq_false_iff_eq] at hl4; omega
 refine Ya0 (fun v => ((c3.length : Int) - v).toNat) (fun v => 0 ≤ v ∧ v ≤ (c3.length : Int)) (fun o => ∃ b,o = some b) ?_ (v := (0 : Int)) ⟨by omega,by omega⟩ (by omega)
 rintro v ⟨v0,v1⟩ L hL
 by_cases hv : v < (c3.length : Int)
 ·simp (disch := omega) only [Yf.l0,Yf.m0,atR,rdQ,Q.ask,ZY hv,cond_true,RS.row g3,RS.row f3,Z4,ZaQ,Zan,Z9]
  cases !(Zae (gS c3 v 0) (gS e3 v 0))
  ·simp only [cond_false]
   exact hL _ ⟨by omega,by omega⟩ (by omega)
  ·exact ⟨_,rfl⟩
 ·simp only [Yf.l0,Yf.m0,atR,rdQ,Q.ask,ZZ hv,cond_false]
  refine Ya0 (fun v => ((c4.length : Int) - v).toNat) (fun v => 0 ≤ v ∧ v ≤ (c4.length : Int)) (fun o => ∃ b,o = some b) ?_ (v := (0 : Int)) ⟨by omega,by omega⟩ (by omega)
  rintro w ⟨w0,w1⟩ L2 hL2
  by_cases hw : w < (c4.length : Int)
  ·have part : ∀ (c4 : LD),c4.length ≤ lim → (∀ x ∈ c4,Yan lim n x) → w < (c4.length : Int) → ∃ n',n = n' + 1 ∧ ∃ d0 d1 d2 d3 d4,gR c4 w = [.int .i64 d0,.str d1,.int .i64 d2,.sl d3,.sl d4] ∧ ZB RS lim d3 ∧ d4.length ≤ lim ∧ ∀ x ∈ d4,Yan lim n' x := fun c4 _ g4 hw => by
    have := g4 _ (gR_mem w0 hw)
    generalize gR c4 w = r at this
    cases this with
    | mk e0 e1 e2 e3 e4 w0 p1 w2 p3 p4 p5 => exact ⟨_,rfl,_,_,_,_,_,rfl,p3,p4,p5⟩
   obtain ⟨n1,hn1,d0,d1,d2,d3,d4,ed,w3,w4,w5⟩ := part c4 l4 g4 hw
   obtain ⟨n2,hn2,x0,x1,x2,x3,x4,ex,y3,y4,y5⟩ := part e4 m4 f4 (by omega)
   obtain rfl : n1 = n2 := by omega
   obtain ⟨bb,eb⟩ := ih n1 (by omega) d0 d1 d2 d3 d4 x0 x1 x2 x3 x4 w3 w4 w5 y3 y4 y5 (k := k) (by omega)
   simp (disch := omega) only [Yf.l1,atR,rdQ,Q.ask,ZY hw,cond_true,Zck (xs := c4) (v := w),Zck (xs := e4) (v := w),ed,ex,Z4,Z5,ZaQ,Zbl,Zan,Yf.f_of eb,Z9]
   cases bb
   ·exact ⟨_,rfl⟩
   ·simp only [Bool.not_true,cond_false]
    exact hL2 _ ⟨by omega,by omega⟩ (by omega)
  ·simp only [Yf.l1,atR,rdQ,Q.ask,ZZ hw,cond_false]
   exact ⟨_,rfl⟩
theorem sameB_t {c0 c2 e0 e2 : Int} {c1 e1 : BA} {c3 c4 e3 e4 : LD} (g3 : ZB RS lim c3) (g4 : ZB Yu lim c4) (f3 : ZB RS lim e3) (f4 : ZB Yu lim e4) {k : Nat} (hk : Zai 1 k) : ∃ b,Yf.t k c0 c1 c2 c3 c4 e0 e1 e2 e3 e4 = some b :=
 sameB 1099511627776 c0 c1 c2 c3 c4 e0 e1 e2 e3 e4 g3 g4.1 (value_h g4) f3 f4.1 (value_h f4) (Nat.le_trans (big_lv1 (n := 1099511627776 + 1) (by omega)) hk)
theorem OkB.old4 {O L : LD} {rev next c0 : Int} {c1 : BA} {c2 c3 c4 : Int} {c5 : Bool} {c6 : LD} {c7 : Int} {c8 : BA} {c9 : Int} {c10 c11 : LD} {c12 : Int} {c13 : BA} {c14 : Int} {c15 c16 : LD} (hok : OkB O rev next L) (hf : FndO O [.int .i64 c0,.str c1,.int .i64 c2,.int .i64 c3,.int .i64 c4,.bool c5,.sl c6,.int .i64 c7,.str c8,.int .i64 c9,.sl c10,.sl c11,.int .i64 c12,.str c13,.int .i64 c14,.sl c15,.sl c16]) : inB c4 1 c3 = true := by
 have h := hok.ob.row _ hf.mem
 have h : objV c0 c1 c2 c3 c4 c5 c6 c7 c8 c9 c10 c11 c12 c13 c14 c15 c16 (next - 1) rev false = true := h
 unfold objV at h
 simp only [Bool.and_eq_true] at h
 exact h.2.2.2.2.1
set_option maxRecDepth 100000 in
set_option maxHeartbeats 2000000 in
theorem setStatus_ex {n : Nat} {O L : LD} {rev next : Int} (hB : YaR n O rev next L) (hn : n ≤ 900) {kind r : Int} {name : BA} (hs : name.size ≤ lim) {v0 v2 : Int} {v1 : BA} {v3 v4 : LD} (u0 : (Lit.int .i64 v0).wf = true) (u1 : v1.size ≤ lim) (u2 : (Lit.int .i64 v2).wf = true) (u3 : ZB RS lim v3) (u4 : ZB Yu lim v4) {k : Nat} (hk : Zai 1 k) : OpD O rev next L (n + 1) (Yax.t k O rev next L kind name r v0 v1 v2 v3 v4) := by
 have gO := hB.so (by omega)
 have gL := hB.sl (by omega)
 unfold Yax.t Yax.g
 rw [Yp.fv u1 u3 u4 hk]
 cases hv : Yp.v v0 v1 v2 v3 v4 <;> simp only [cond_true,cond_false] <;> rw [Yr.fv gO gL hs hk]
 ·cases hq : (Yr.v O rev next L kind name false != 0) with
  | true => simp only [cond_true]; rw [Ys.f_of (YaY gO gL hk)]; exact OpD.base hB _
  | false =>
   have := (Ybc gO gL hs (by simpa using hq)).2.2.2.1
   cases this
 ·generalize hfine : decide (r ≥ 0) = fine
  cases hq : (Yr.v O rev next L kind name fine != 0) with
  | true => simp only [cond_true]; rw [Ys.f_of (YaY gO gL hk)]; exact OpD.base hB _
  | false =>
   simp only [cond_false]
   obtain ⟨hok,-,-,-,hrev,-⟩ := Ybc gO gL hs (by simpa using hq)
   obtain ⟨c0,c1,c2,c3,c4,c5,c6,c7,c8,c9,c10,c11,c12,c13,c14,c15,c16,code,hO,hf,e⟩ := at_ex hB hn (kind := kind) (name := name) (rv := r) hk
   unfold Yat.f
   rw [e]
   dsimp only
   cases hc : (code != 0) <;> simp only [cond_true,cond_false]
   ·simp only [ZK]
    have hf := hf (by simpa using hc)
    obtain ⟨k0,k1,k2,k3,k4,k6,k7,k12,ke⟩ := hok.old hf
    exact .chg (puts_ex hB hn (show OW c0 c1 c2 c3 c4 c5 c6 c7 c8 c9 c10 c11 v0 v1 v2 v3 v4 from ⟨hO.k0,hO.k1,hO.k2,hO.k3,hO.k4,hO.k6,hO.k7,hO.k8,hO.k9,hO.k10,hO.k11,u0,u1,u2,u3,u4⟩) (by simp) hk) hok hrev hf k4 k6 k7 hv ke 0
   ·rw [Ys.f_of (YaY gO gL hk)]
    exact OpD.base hB _
set_option maxRecDepth 100000 in
set_option maxHeartbeats 4000000 in
theorem update_ex {n : Nat} {O L : LD} {rev next : Int} (hB : YaR n O rev next L) (hn : n ≤ 900) {kind r : Int} {name : BA} (hs : name.size ≤ lim) {v0 v2 : Int} {v1 : BA} {v3 v4 : LD} (u0 : (Lit.int .i64 v0).wf = true) (u1 : v1.size ≤ lim) (u2 : (Lit.int .i64 v2).wf = true) (u3 : ZB RS lim v3) (u4 : ZB Yu lim v4) {k : Nat} (hk : Zai 1 k) : OpD O rev next L (n + 1) (YaE.t k O rev next L kind name r v0 v1 v2 v3 v4) := by
 have gO := hB.so (by omega)
 have gL := hB.sl (by omega)
 unfold YaE.t YaE.g
 rw [Yp.fv u1 u3 u4 hk]
 cases hv : Yp.v v0 v1 v2 v3 v4 <;> simp only [cond_true,cond_false] <;> rw [Yr.fv gO gL hs hk]
 ·cases hq : (Yr.v O rev next L kind name false != 0) with
  | true => simp only [cond_true]; rw [Ys.f_of (YaY gO gL hk)]; exact OpD.base hB _
  | false =>
   have := (Ybc gO gL hs (by simpa using hq)).2.2.2.1
   cases this
 ·generalize hfine : decide (r ≥ 0) = fine
  cases hq : (Yr.v O rev next L kind name fine != 0) with
  | true => simp only [cond_true]; rw [Ys.f_of (YaY gO gL hk)]; exact OpD.base hB _
  | false =>
   simp only [cond_false]
   obtain ⟨hok,-,-,-,hrev,-⟩ := Ybc gO gL hs (by simpa using hq)
   obtain ⟨c0,c1,c2,c3,c4,c5,c6,c7,c8,c9,c10,c11,c12,c13,c14,c15,c16,code,hO,hf,e⟩ := at_ex hB hn (kind := kind) (name := name) (rv := r) hk
   obtain ⟨sb,es⟩ := sameB_t (c0 := c7) (c1 := c8) (c2 := c9) (e0 := v0) (e1 := v1) (e2 := v2) hO.k10 hO.k11 u3 u4 hk
   unfold Yat.f
   rw [e]
   dsimp only
   simp only [ZK,Yf.f_of es,Ys.f_of (YaY gO gL hk)]
   have b1 : ∀ cd : Int,OpD O rev next L (n + 1) (some (Zc O,rev,next,L,cd)) := fun cd => OpD.base' hB cd
   cases hc : (code != 0) with
   | true =>
    have hc0 : (code == 0) = false := by simpa [bne] using hc
    rw [hc0]
    simp only [cond_true,cond_false]
    first | exact b1 _ | (cases c5 <;> simp only [cond_true,cond_false] <;> exact b1 _)
   | false =>
    have hc0 : (code == 0) = true := by simpa [bne] using hc
    have hf := hf (by simpa using hc)
    obtain ⟨k0,k1,k2,k3,k4,k6,k7,k12,ke⟩ := hok.old hf
    have a3 := YaS.mp k3
    have a4 := YaS.mp (show inB c4 1 c3 = true from (hok.old4 hf))
    have hr1 := hok.r1
    have hw : IntKind.wrap .i64 (c4 + 1) = c4 + 1 := Z9 (by omega) (by omega)
    have b2 : ∀ x : Int,(Lit.int .i64 x).wf = true → inB x 1 (rev + 1) = true → OpD O rev next L (n + 1) (YR.f k O rev next L c0 c1 c2 c3 x c5 c6 v0 v1 v2 v3 v4 c12 c13 c14 c15 c16 false (fun z0 z1 z2 z3 => some (z0,z1,z2,z3,0))) := fun x hx hx2 => .chg (puts_ex hB hn (c4 := x) (show OW c0 c1 c2 c3 x c5 c6 v0 v1 v2 v3 v4 c12 c13 c14 c15 c16 from ⟨hO.k0,hO.k1,hO.k2,hO.k3,hx,hO.k6,u0,u1,u2,u3,u4,hO.k12,hO.k13,hO.k14,hO.k15,hO.k16⟩) (by simp) hk) hok hrev hf hx2 k6 hv k12 ke 0
    rw [hc0]
    cases c5 <;> cases sb <;> simp only [cond_true,cond_false,Bool.not_true,Bool.not_false,show ((6 : Int) != 0) = true from rfl] <;> first | exact b1 _ | exact b2 _ hO.k4 k4 | (rw [hw]; exact b2 _ (wf_of (by omega) (by omega)) (YaS.mpr ⟨by omega,by omega⟩))
theorem strLt_iff {a b : BA} : strLt a b = true ↔ Op.bytesLess a.toList b.toList = true := by
 unfold strLt
 simp
theorem names_iff {xs : LD} : Ya5 xs = true ↔ (∀ r ∈ xs,Yj.v (rS r 0) = true) ∧ xs.Pairwise fun x y => strLt (rS x 0) (rS y 0) = true := by
 have hg : ∀ (i : Nat) (hi : i < xs.length),gS xs (i : Int) 0 = rS xs[i] 0 := fun i hi => by
  rw [← gR_lt hi]
  rfl
 unfold Ya5
 rw [List.all_eq_true]
 constructor
 ·intro h
  have h : ∀ (i : Nat) (_ : i < xs.length),Yj.v (gS xs (i : Int) 0) = true ∧ (!decide ((i : Int) > 0) || strLt (gS xs ((i : Int) - 1) 0) (gS xs (i : Int) 0)) = true := fun i hi => by
   have := h i (List.mem_range.mpr hi)
   rw [Bool.and_eq_true] at this
   exact this
  refine ⟨fun r hr => ?_,List.pairwise_iff_getElem.mpr ?_⟩
  ·obtain ⟨i,hi,rfl⟩ := List.mem_iff_getElem.mp hr
   rw [← hg i hi]
   exact (h i hi).1
  ·have step : ∀ (i : Nat) (hi : i + 1 < xs.length),strLt (rS xs[i] 0) (rS xs[i + 1] 0) = true := fun i hi => by
    have hq := (h (i + 1) hi).2
    rw [ZY (show ((i + 1 : Nat) : Int) > 0 by omega),Bool.not_true,Bool.false_or,show ((i + 1 : Nat) : Int) - 1 = (i : Int) by omega,hg i (by omega),hg (i + 1) hi] at hq
    exact hq
   intro i j hi hj hij
   obtain ⟨d,rfl⟩ : ∃ d,j = i + 1 + d := ⟨j - (i + 1),by omega⟩
   induction d with
   | zero => exact step i hj
   | succ d ih => exact strLt_iff.mpr (bl_trans (strLt_iff.mp (ih (by omega) (by omega))) (strLt_iff.mp (step (i + 1 + d) (by omega))))
 ·rintro ⟨h1,h2⟩ i hi
  have hi := List.mem_range.mp hi
  rw [Bool.and_eq_true]
  refine ⟨by rw [hg i hi]; exact h1 _ (List.getElem_mem _),?_⟩
  by_cases h0 : (i : Int) > 0
  ·have := List.pairwise_iff_getElem.mp h2 (i - 1) i (by omega) hi (by omega)
   rw [show (i : Int) - 1 = ((i - 1 : Nat) : Int) by omega,hg i hi,hg (i - 1) (by omega),this]
   simp
  ·rw [ZZ h0]
   rfl
theorem waits_sub {a o : LD} (ga : ZB RS lim a) (go : ZB RS lim o) (hs : o.Sublist a) (h : Yo.v a = true) : Yo.v o = true := by
 have hk : Zai 1 (lv 1) := by unfold Zai lv; omega
 rw [waits_v ga (up0 hk),Bool.and_eq_true,names_iff,decide_eq_true_iff] at h
 rw [waits_v go (up0 hk),Bool.and_eq_true,names_iff,decide_eq_true_iff]
 have := hs.length_le
 exact ⟨⟨fun r hr => h.1.1 r (hs.subset hr),h.1.2.sublist hs⟩,by omega⟩
theorem map_ok : Yp.v 5 (⟨#[]⟩ : BA) 0 [] [] = true := by
 have hk : Zai 1 (lv 1) := by unfold Zai lv; omega
 have h : some (Yp.v 5 (⟨#[]⟩ : BA) 0 [] []) = some (valB 5 (⟨#[]⟩ : BA) 0 [] []) := (Yp.fv (aB := 5) (aA := (⟨#[]⟩ : BA)) (aC := 0) (by decide) (sl_nil (R := RS)) (sl_nil (R := Yu)) hk some).symm.trans (spec_ValueOk_fv (by decide) sl_nil sl_nil hk some)
 injection h with h
 rw [h]
 have hs : YaZ 5 (⟨#[]⟩ : BA) 0 [] [] = true := by
  unfold YaZ Zae Ya5 Ybi
  simp [ByteArray.toList_eq]
 unfold valB
 rw [show YaL 6 [.int .i64 5,.str (⟨#[]⟩ : BA),.int .i64 0,.sl [],.sl []] = bif sumL (YaL 5) [] 1 == 0 then 0 else bif YaZ 5 (⟨#[]⟩ : BA) 0 [] [] then sumL (YaL 5) [] 1 else 0 from rfl,hs]
 rfl
set_option maxRecDepth 100000 in
set_option maxHeartbeats 2000000 in
theorem create_ex {n : Nat} {O L : LD} {rev next : Int} (hB : YaR n O rev next L) (hn : n ≤ 800) {kind : Int} {name : BA} (hkd : (Lit.int .i64 kind).wf = true) (hs : name.size ≤ lim) {v0 v2 : Int} {v1 : BA} {v3 v4 : LD} (u0 : (Lit.int .i64 v0).wf = true) (u1 : v1.size ≤ lim) (u2 : (Lit.int .i64 v2).wf = true) (u3 : ZB RS lim v3) (u4 : ZB Yu lim v4) {ws : LD} (hw : ZB RS lim ws) {k : Nat} (hk : Zai 1 k) : OpD O rev next L (n + 2) (YaJ.t k O rev next L kind name v0 v1 v2 v3 v4 ws) := by
 have hlim : lim = 1048576 := rfl
 have hm : Z8 = 2 ^ 36 := rfl
 have gO := hB.so (by omega)
 have gL := hB.sl (by omega)
 have hwl := hw.1
 have x0 := hB.x0; have x1 := hB.x1
 have hwn : IntKind.wrap .i64 (next + 1) = next + 1 := Z9 (by omega) (by omega)
 have hB2 : YaR (n + 1) O rev (next + 1) L := ⟨hB.ro,by have := hB.lo; omega,hB.rl,by have := hB.ll; omega,hB.r0,by have := hB.r1; omega,by omega,by omega⟩
 have b1 : ∀ cd : Int,OpD O rev next L (n + 2) (some (Zc O,rev,next,L,cd)) := fun cd => OpD.base' (hB.up (show n ≤ n + 1 by omega)) cd
 have hOW : OW kind name next 0 1 false ws v0 v1 v2 v3 v4 5 (⟨#[]⟩ : BA) 0 [] [] := ⟨hkd,hs,wf_of (by omega) (by omega),by decide,by decide,hw,u0,u1,u2,u3,u4,by decide,by decide,by decide,sl_nil,sl_nil⟩
 unfold YaJ.t YaJ.g
 rw [Yp.fv u1 u3 u4 hk]
 have bad : ∀ {F : Option (LC × Int × Int × LD × Int)},OpD O rev next L (n + 2) (bif (Yr.v O rev next L kind name false != 0) then Ys.f k O rev next L (fun z0 z1 z2 z3 => some (z0,z1,z2,C.immRows z3,Yr.v O rev next L kind name false)) else F) := fun {F} => by
  cases hq : (Yr.v O rev next L kind name false != 0) with
  | true =>
   simp only [cond_true]
   rw [Ys.f_of (YaY gO gL hk),ZK]
   exact b1 _
  | false =>
   have := (Ybc gO gL hs (by simpa using hq)).2.2.2.1
   cases this
 cases hv : Yp.v v0 v1 v2 v3 v4 <;> simp only [cond_true,cond_false]
 ·rw [Yr.fv gO gL hs hk]
  exact bad
 ·rw [Yo.fv hw (up0 hk)]
  cases hws : Yo.v ws with
  | false =>
   rw [Yr.fv gO gL hs hk]
   exact bad
  | true =>
   rw [Yr.fv gO gL hs hk]
   cases hq : (Yr.v O rev next L kind name true != 0) with
   | true =>
    simp only [cond_true]
    rw [Ys.f_of (YaY gO gL hk),ZK]
    exact b1 _
   | false =>
    simp only [cond_false]
    obtain ⟨hok,q0,q1,-,hrev,hnx⟩ := Ybc gO gL hs (by simpa using hq)
    have h60 := hok.ob.len
    have hr0 := hok.r0
    have hn0 := hok.n0
    rw [l7Find_fv gO (up0 hk)]
    by_cases hfd : YaP O kind name ≥ 0
    ·rw [ZY hfd]
     simp only [cond_true]
     rw [Ys.f_of (YaY gO gL hk),ZK]
     exact b1 _
    ·rw [ZZ hfd]
     simp only [cond_false]
     cases hl60 : ((O.length : Int) == 60) with
     | true =>
      simp only [cond_true]
      rw [Ys.f_of (YaY gO gL hk),ZK]
      exact b1 _
     | false =>
      have hl60 := beq_eq_false_iff_ne.mp hl60
      simp only [cond_false]
      rw [Ys.f_of (YaY gO gL hk)]
      simp only [ZK]
      rw [ZH (RS.flat hw.2),ZH (by simp only [List.length_nil,map_len]; omega),l4Copy_fv u3 u4 hk,hwn]
      simp only [ZK,List.nil_append,imm_rows]
      have hr : rowB [.int .i64 kind,.str name,.int .i64 next,.int .i64 (rev + 1),.int .i64 1,.bool false,.sl ws,.int .i64 v0,.str v1,.int .i64 v2,.sl v3,.sl v4,.int .i64 5,.str (⟨#[]⟩ : BA),.int .i64 0,.sl [],.sl []] (next + 1 - 1) (rev + 1) false = true := by
       show objV _ _ _ _ _ _ _ _ _ _ _ _ _ _ _ _ _ _ _ _ = true
       unfold objV
       simp only [Bool.and_eq_true]
       exact ⟨q0,q1,YaS.mpr ⟨hn0,by show next ≤ next + 1 - 1; omega⟩,YaS.mpr ⟨by show (1 : Int) ≤ rev + 1; omega,Int.le_refl _⟩,YaS.mpr ⟨Int.le_refl _,by show (1 : Int) ≤ rev + 1; omega⟩,hws,hv,map_ok,rfl⟩
      exact OpD.put (puts_ex hB2 (by omega) hOW (by simp) hk) hok hrev (by omega) (by omega) rfl hr (hok.ob.with (most' := next + 1 - 1) hr (by omega) (.inr ⟨by show YaP O kind name < 0; omega,by omega,by show next - 1 < next; omega⟩)) (step_withO hr0 (by omega)) 0
theorem gone_or (o : LD) : (((o.length : Int) == 0) || (!true || decide ((o.length : Int) > 0))) = true := by
 by_cases h : (o.length : Int) > 0
 ·rw [ZY h]; simp
 ·rw [show (o.length : Int) = 0 by omega]; rfl
set_option maxRecDepth 100000 in
set_option maxHeartbeats 4000000 in
theorem finish_ex {n : Nat} {O L : LD} {rev next : Int} (hB : YaR n O rev next L) (hn : n ≤ 900) {kind : Int} {name wait : BA} (hs : name.size ≤ lim) (ht : wait.size ≤ lim) {k : Nat} (hk : Zai 1 k) : OpD O rev next L (n + 1) (Y0.t k O rev next L kind name wait) := by
 have hlim : lim = 1048576 := rfl
 have hm : Z8 = 2 ^ 36 := rfl
 have hb : big = 2 ^ 64 := rfl
 have hkb : 2 ^ 65 ≤ k := hk
 have gO := hB.so (by omega)
 have gL := hB.sl (by omega)
 have b1 : ∀ cd : Int,OpD O rev next L (n + 1) (some (Zc O,rev,next,L,cd)) := fun cd => OpD.base' hB cd
 unfold Y0.t Y0.g Y0.m
 rw [Yj.fv ht (up0 hk),Yr.fv gO gL hs hk]
 cases hq : (Yr.v O rev next L kind name _ != 0) <;> simp only [cond_true,cond_false]
 case true => rw [Ys.f_of (YaY gO gL hk),ZK]; exact b1 _
 obtain ⟨hok,-,-,-,hrev,-⟩ := Ybc gO gL hs (by simpa using hq)
 obtain ⟨c0,c1,c2,c3,c4,c5,c6,c7,c8,c9,c10,c11,c12,c13,c14,c15,c16,code,hO,hf,e⟩ := at_ex hB hn (kind := kind) (name := name) (rv := -1) hk
 unfold Yat.f
 rw [e]
 dsimp only
 cases hc : (code != 0) <;> simp only [cond_true,cond_false]
 case true => rw [Ys.f_of (YaY gO gL hk),ZK]; exact b1 _
 have hf := hf (by simpa using hc)
 obtain ⟨k0,k1,k2,k3,k4,k6,k7,k12,ke⟩ := hok.old hf
 rw [ZK,YC.fv hO.k6 ht (up0 hk)]
 cases !(YC.v c6 wait) <;> simp only [cond_true,cond_false]
 case true => rw [Ys.f_of (YaY gO gL hk),ZK]; exact b1 _
 have h6 := hO.k6.1
 have hc6 : Zc c6 = c6.map (·.map C.d) := RS.deep hO.k6.2
 refine Ya0 (fun v => ((c6.length : Int) - v.1).toNat) (fun v => 0 ≤ v.1 ∧ v.1 ≤ (c6.length : Int) ∧ ∃ o : LD,v.2 = o.map (·.map C.d) ∧ (∀ r ∈ o,RS lim r) ∧ (o.length : Int) ≤ v.1 ∧ o.Sublist (c6.take v.1.toNat)) (OpD O rev next L (n + 1)) ?_ (v := ((0 : Int),([] : LC))) ⟨by simp,by simp,[],rfl,by simp,by simp,by simp⟩ (by simp only []; omega)
 rintro ⟨v,out⟩ ⟨v0,v1,o,ho,hor,hol,hsb⟩ L2 hL
 simp only at v0 v1 ho hol hsb
 subst ho
 by_cases hv : v < (c6.length : Int)
 ·have hr := RS.gets hO.k6.2 v0 hv
  simp only [Y0.l0,hc6,map_len,ZY hv,cond_true,ZH (show (0 : Int) ≤ v ∧ v < (c6.length : Int) from ⟨v0,hv⟩),atNat_up v0 hv,hr.1,List.map_cons,List.map_nil,List.drop_zero,Z4,cD_at,ZaQ,Z9 (show -9223372036854775808 ≤ v + 1 by omega) (show v + 1 ≤ 9223372036854775807 by omega)]
  have htk : c6.take (v + 1).toNat = c6.take v.toNat ++ [[.str (gS c6 v 0)]] := by
   rw [show (v + 1).toNat = v.toNat + 1 by omega,List.take_add_one,gR_at v0 hv,hr.1]
   rfl
  cases !(Zae (gS c6 v 0) wait) <;> simp only [cond_true,cond_false]
  ·exact hL _ ⟨by show 0 ≤ v + 1; omega,by show v + 1 ≤ (c6.length : Int); omega,o,rfl,hor,by show (o.length : Int) ≤ v + 1; omega,by rw [htk]; exact hsb.trans (List.sublist_append_left _ _)⟩ (by show ((c6.length : Int) - (v + 1)).toNat < ((c6.length : Int) - v).toNat; omega)
  ·rw [ZH (by simp only [List.length_singleton]; omega)]
   exact hL _ ⟨by show 0 ≤ v + 1; omega,by show v + 1 ≤ (c6.length : Int); omega,o ++ [[.str (gS c6 v 0)]],by rw [List.map_append]; rfl,YaU hor ⟨_,rfl,hr.2.1,trivial⟩,by rw [List.length_append,List.length_singleton]; show ((o.length + 1 : Nat) : Int) ≤ v + 1; omega,by rw [htk]; exact hsb.append (List.Sublist.refl _)⟩ (by show ((c6.length : Int) - (v + 1)).toNat < ((c6.length : Int) - v).toNat; omega)
 ·have hoS : ZB RS lim o := ⟨by omega,hor⟩
  have k6' := waits_sub hO.k6 hoS (hsb.trans (List.take_sublist _ _)) k6
  have hO2 : ∀ e5 : Bool,OW c0 c1 c2 c3 c4 e5 o c7 c8 c9 c10 c11 c12 c13 c14 c15 c16 := fun e5 => ⟨hO.k0,hO.k1,hO.k2,hO.k3,hO.k4,hoS,hO.k7,hO.k8,hO.k9,hO.k10,hO.k11,hO.k12,hO.k13,hO.k14,hO.k15,hO.k16⟩
  simp only [Y0.l0,hc6,map_len,ZZ hv,cond_false,ZK,imm_rows]
  cases c5 <;> simp only [cond_true,cond_false]
  ·exact .chg (puts_ex hB hn (hO2 false) (by simp) hk) hok hrev hf k4 k6' k7 k12 rfl 0
  ·exact .chg (puts_ex hB hn (hO2 true) (fun _ => hf.ge) hk) hok hrev hf k4 k6' k7 k12 (gone_or _) 0
set_option maxRecDepth 100000 in
set_option maxHeartbeats 2000000 in
theorem waiting_ex {k : Nat} {b : LD} {i h : Int} (c : Cur b i) : ∃ (ws : LD) (i' h' : Int),ZB RS lim ws ∧ Cur b i' ∧ Yai.t k b i h = some (ws,b,i',h') := by
 unfold Yai.t Yai.g
 obtain ⟨x,i1,h1,x0,x1,-,hc1,e1⟩ := YaW (k := k) (h := h) (n := 5) c
 have x1 := x1 (by decide)
 rw [Yv.f_of e1]
 have one : ∀ l : List BA,(∀ s ∈ l,s.size ≤ 1000) → l.length ≤ 10 → ZB RS lim (l.map fun s => [D.str s]) := fun l hl hn => ⟨by rw [List.length_map]; exact Nat.le_trans hn (by decide),strs_in hl⟩
 have hx : x = 0 ∨ x = 1 ∨ x = 2 ∨ x = 3 ∨ x = 4 := by omega
 rcases hx with rfl | rfl | rfl | rfl | rfl
 ·exact ⟨_,_,_,one [] (by decide) (by decide),hc1,rfl⟩
 ·exact ⟨_,_,_,one [] (by decide) (by decide),hc1,rfl⟩
 ·exact ⟨_,_,_,one [⟨#[104,117,98]⟩] (by decide) (by decide),hc1,rfl⟩
 ·exact ⟨_,_,_,one [⟨#[104,117,98]⟩,⟨#[110,101,116]⟩] (by decide) (by decide),hc1,rfl⟩
 ·exact ⟨_,_,_,one [⟨#[98]⟩,⟨#[97]⟩] (by decide) (by decide),hc1,rfl⟩
set_option maxRecDepth 100000 in
set_option maxHeartbeats 2000000 in
theorem map_ex {k : Nat} (hk : Zai 1 k) {b : LD} {i h : Int} (c : Cur b i) : ∃ (v0 : Int) (v1 : BA) (v2 : Int) (Y3 Y4 : LC) (i' h' : Int),((Lit.int .i64 v0).wf = true ∧ v1.size ≤ lim ∧ (Lit.int .i64 v2).wf = true ∧ ZB RS lim (C.immRows Y3) ∧ ZB Yu lim (C.immRows Y4)) ∧ Cur b i' ∧ Y2.t k b i h = some (v0,v1,v2,Y3,Y4,b,i',h') := by
 have hlim : lim = 1048576 := rfl
 have hm : Z8 = 2 ^ 36 := rfl
 have hb : big = 2 ^ 64 := rfl
 have hkb : 2 ^ 65 ≤ k := hk
 unfold Y2.t Y2.g
 obtain ⟨l,i2,h2,hl,hll,hc2,e2⟩ := labels_ex (k := k) (h := h) (M := 5) (up0 hk) c (by decide)
 have hll : l.length ≤ 5 := hll
 rw [YN.f_of e2]
 refine Ya0 (fun v => 5 - v.1.toNat) (fun v => 0 ≤ v.1 ∧ v.1 ≤ (l.length : Int) ∧ v.2.1 = b ∧ Cur b v.2.2.1 ∧ ∃ ks o : LD,v.2.2.2.2.1 = ks.map (·.map C.d) ∧ v.2.2.2.2.2 = Zc o ∧ (∀ r ∈ ks,RS lim r) ∧ (∀ r ∈ o,VSm 1000 4 r) ∧ (o.length : Int) = v.1 ∧ (ks.length : Int) = v.1) (fun o => ∃ (v0 : Int) (v1 : BA) (v2 : Int) (Y3 Y4 : LC) (i' h' : Int),((Lit.int .i64 v0).wf = true ∧ v1.size ≤ lim ∧ (Lit.int .i64 v2).wf = true ∧ ZB RS lim (C.immRows Y3) ∧ ZB Yu lim (C.immRows Y4)) ∧ Cur b i' ∧ o = some (v0,v1,v2,Y3,Y4,b,i',h')) ?_ (v := (0,b,i2,h2,[],[])) ⟨by simp,by simp,rfl,hc2,[],[],rfl,by simp only [Zc],by simp,by simp,by simp,by simp⟩ (by show 5 - 0 < k; omega)
 rintro ⟨n,b',i,h,keys,out⟩ ⟨n0,n1,eb,hc,ks,o,e,e',hk',ho,hlen,hlen'⟩ L hL
 simp only at n0 n1 eb hc e e' hlen hlen'
 subst eb e e'
 by_cases hn : n < (l.length : Int)
 ·obtain ⟨c0,c1,c2,c3,c4,i3,h3,hv,hc3,e3⟩ := value_ex 3 (k := k) (h := h) hc (by omega) (by omega)
  rw [show ((3 : Nat) : Int) = 3 from rfl] at e3
  have hr := RSS.gets hl n0 hn
  simp only [Y2.l0,map_len,ZY hn,cond_true,ZH (show (0 : Int) ≤ n ∧ n < (l.length : Int) from ⟨n0,hn⟩),atNat_up n0 hn,hr.1,List.map_cons,List.map_nil,List.drop_zero,Z4,cD_at,ZaQ,Yh.f_of e3,List.length_singleton,Z9 (show -9223372036854775808 ≤ n + 1 by omega) (show n + 1 ≤ 9223372036854775807 by omega)]
  rw [ZH (by omega),ZH (by rw [ZS]; omega),deep_app1]
  exact hL _ ⟨by show 0 ≤ n + 1; omega,by show n + 1 ≤ (l.length : Int); omega,rfl,hc3,ks ++ [[.str (gS l n 0)]],_,by rw [List.map_append]; rfl,rfl,YaU hk' ⟨_,rfl,hr.2.1,trivial⟩,YaU ho hv,by rw [List.length_append,List.length_singleton]; show ((o.length + 1 : Nat) : Int) = n + 1; omega,by rw [List.length_append,List.length_singleton]; show ((ks.length + 1 : Nat) : Int) = n + 1; omega⟩ (by show 5 - (n + 1).toNat < 5 - n.toNat; omega)
 ·simp only [Y2.l0,map_len,ZZ hn,cond_false]
  refine ⟨_,_,_,_,_,_,_,⟨by decide,by decide,by decide,?_,?_⟩,hc,rfl⟩
  ·rw [imm_rows]; exact ⟨by omega,hk'⟩
  ·rw [ZK]
   exact ⟨by omega,fun r hr => ⟨4,fun _ => by decide,(ho r hr).val (by decide)⟩⟩
def ActD (b O₀ : LD) (rev₀ next₀ : Int) (L₀ : LD) (n : Nat) (o : Option (LD × Int × Int × LD × LD × Int × Int)) : Prop := ∃ O rev next L i h,YaR n O rev next L ∧ Goes O₀ rev₀ next₀ L₀ O rev next L ∧ Cur b i ∧ o = some (O,rev,next,L,b,i,h)
theorem OpD.act {b O₀ L₀ : LD} {rev₀ next₀ : Int} {n m : Nat} {o : Option (LC × Int × Int × LD × Int)} (h : OpD O₀ rev₀ next₀ L₀ n o) (hn : n ≤ m) {i g : Int} (c : Cur b i) : ActD b O₀ rev₀ next₀ L₀ m (bd5 o fun y1 y2 y3 y4 _ => some (C.immRows y1,y2,y3,y4,b,i,g)) := by
 obtain ⟨X,rev,next,L,code,hB,hG,rfl⟩ := h
 exact ⟨_,_,_,_,_,_,hB.up hn,hG,c,rfl⟩
set_option maxRecDepth 100000 in
set_option maxHeartbeats 4000000 in
theorem act_ex {n : Nat} {O L : LD} {rev next : Int} (hB : YaR n O rev next L) (hn : n ≤ 700) {k : Nat} (hk : Zai 1 k) {b : LD} {i h : Int} (c : Cur b i) : ActD b O rev next L (n + 2) (YaG.t k b i h O rev next L) := by
 unfold YaG.t YaG.g
 obtain ⟨y,i1,h1,y0,y1,-,hc1,e1⟩ := YaW (k := k) (h := h) (n := 2) c
 have y1 := y1 (by decide)
 rw [Yv.f_of e1]
 have hwk : (Lit.int .i64 (IntKind.wrap .i64 (1 + y))).wf = true := wrap_wf2 _
 generalize IntKind.wrap .i64 (1 + y) = kind at hwk
 have hstr : ∀ r ∈ ([[.str (⟨#[97]⟩ : BA)],[.str (⟨#[98]⟩ : BA)],[.str (⟨#[99]⟩ : BA)]] : LD),RS lim r := by
  intro r hr
  simp only [List.mem_cons,List.not_mem_nil,or_false] at hr
  rcases hr with rfl | rfl | rfl <;> exact ⟨_,rfl,by decide,trivial⟩
 obtain ⟨j,i2,h2,j0,j1,hc2,e2⟩ := str_ex (k := k) (h := h1) hc1 hstr (by decide)
 have hns := (RS.gets hstr j0 j1).2.1
 rw [Yak.f_of e2]
 generalize gS _ j 0 = name at hns
 obtain ⟨c0,c1,c2,c3,c4,c5,c6,c7,c8,c9,c10,c11,c12,c13,c14,c15,c16,ok,hO,hf,e⟩ := get_ex hB (by omega) (kind := kind) (name := name) hk
 unfold YaK.f
 rw [e]
 dsimp only
 obtain ⟨x,i3,h3,x0,x1,-,hc3,e3⟩ := YaW (k := k) (h := h2) (n := 7) hc2
 have x1 := x1 (by decide)
 rw [Yv.f_of e3]
 obtain ⟨v0,v1,v2,Y3,Y4,i4,h4,⟨u0,u1,u2,u3,u4⟩,hc4,e4⟩ := map_ex hk (h := h3) hc3
 obtain ⟨ws,i5,h5,hws,hc5,e5⟩ := waiting_ex (k := k) (h := h4) hc4
 have stay : ActD b O rev next L (n + 2) (some (O,rev,next,L,b,i3,h3)) := ⟨_,_,_,_,_,_,hB.up (by omega),.inl ⟨rfl,rfl,rfl,rfl⟩,hc3,rfl⟩
 have hcr := create_ex hB (by omega) hwk hns u0 u1 u2 u3 u4 hws hk
 have hup := update_ex hB (by omega) (kind := kind) (r := c3) hns u0 u1 u2 u3 u4 hk
 have hst := setStatus_ex hB (by omega) (kind := kind) (r := c3) hns u0 u1 u2 u3 u4 hk
 have hrm := remove_ex hB (by omega) (kind := kind) hns hk
 have hu2 := update_ex hB (by omega) (kind := kind) (r := c3) hns hO.k7 hO.k8 hO.k9 hO.k10 hO.k11 hk
 unfold Y2.f
 rw [e4]
 dsimp only
 rw [Yai.f_of e5]
 simp only [ZK]
 have hx : x = 0 ∨ x = 1 ∨ x = 2 ∨ x = 3 ∨ x = 4 ∨ x = 5 ∨ x = 6 := by omega
 rcases hx with rfl | rfl | rfl | rfl | rfl | rfl | rfl
 ·simp only [Int.reduceBEq,cond_true,cond_false]
  exact hcr.act (by omega) hc5
 ·simp only [Int.reduceBEq,cond_true,cond_false]
  exact hcr.act (by omega) hc5
 ·simp only [Int.reduceBEq,cond_true,cond_false]
  exact hup.act (by omega) hc4
 ·simp only [Int.reduceBEq,cond_true,cond_false]
  exact hst.act (by omega) hc4
 ·simp only [Int.reduceBEq,cond_true,cond_false]
  exact hrm.act (by omega) hc3
 ·simp only [Int.reduceBEq,cond_true,cond_false]
  cases ok <;> simp only [cond_true,cond_false]
  ·exact stay
  ·have hc6 : Zc c6 = c6.map (·.map C.d) := RS.deep hO.k6.2
   rw [hc6,map_len]
   by_cases h0 : (c6.length : Int) > 0
   ·have hr := RS.gets hO.k6.2 (v := 0) (by omega) (by omega)
    have hat : ∀ {β : Type} (F : List C → Option β),ZaR (c6.map (·.map C.d)) (Int.toNat 0) F = F ((gR c6 0).map C.d) := fun F => atNat_up (by omega) (by omega) F
    rw [ZY h0]
    simp only [cond_true]
    rw [ZH ⟨by omega,by omega⟩,hat,hr.1]
    simp only [List.map_cons,List.map_nil,List.drop_zero,Z4,cD_at,ZaQ]
    exact (finish_ex hB (by omega) (kind := kind) hns hr.2.1 hk).act (by omega) hc3
   ·rw [ZZ h0]
    simp only [cond_false]
    exact stay
 ·simp only [Int.reduceBEq,cond_true,cond_false]
  cases ok <;> simp only [cond_true,cond_false]
  ·exact stay
  ·exact hu2.act (by omega) hc3
theorem rows19 {l : LD} (g : ∀ r ∈ l,Rlog lim r) : Zbk 19 l := fun r hr => by
 obtain ⟨c0,c1,c2,c3,c4,c5,c6,c7,c8,c9,c10,c11,c12,c13,c14,c15,c16,c17,c18,rfl,-⟩ := (g r hr).open
 rfl
theorem rows19_sub {l m : LD} (g : ∀ r ∈ l,Rlog lim r) (h : ∀ r ∈ m,r ∈ l) : Zbk 19 m := rows19 fun r hr => g r (h r hr)
theorem stepF_rev {rev : Int} {l : LD} {r : List D} {u : Int × LD} (h : Ya1 rev l r = some u) : rI r 0 = IntKind.wrap .i64 (rev + 1) ∧ u.1 = rI r 0 := by
 unfold Ya1 at h
 cases hs : (rI r 0 != IntKind.wrap .i64 (rev + 1)) <;> rw [hs] at h
 ·refine ⟨by simpa using hs,?_⟩
  cases hb : rB r 1 <;> rw [hb] at h <;> simp only [cond_true,cond_false] at h
  ·injection h with h
   rw [← h]
  ·cases hq : decide (YaP l (rI r 2) (rS r 3) < 0) <;> rw [hq] at h <;> simp only [cond_true,cond_false] at h
   ·cases hq2 : (gI l (YaP l (rI r 2) (rS r 3)) 2 != rI r 4) <;> rw [hq2] at h <;> simp only [cond_true,cond_false] at h
    ·injection h with h
     rw [← h]
    ·cases h
   ·cases h
 ·cases h
theorem stepV_rev {rev : Int} {l : LD} {r : List D} {u : Int × LD} (h : stepV rev l r = some u) : rI r 0 = IntKind.wrap .i64 (rev + 1) ∧ u.1 = rI r 0 := by
 unfold stepV at h
 cases hs : Ya1 rev l r with
 | none => rw [hs] at h; cases h
 | some v =>
  rw [hs] at h
  have h : (bif mirB v.1 v.2 then some v else none) = some u := h
  cases hm : mirB v.1 v.2 <;> rw [hm] at h
  ·cases h
  ·injection h with h
   rw [← h]
   exact stepF_rev hs
theorem follow_rev : ∀ {xs : LD} {rev : Int} {l : LD} {v : Int × LD},0 ≤ rev → rev + xs.length ≤ 4611686018427387904 → YaD rev l xs = some v → v.1 = rev + xs.length ∧ ∀ (j : Nat) (hj : j < xs.length),rI xs[j] 0 = rev + j + 1
 | [],rev,l,v,_,_,h => by
  unfold YaD at h
  injection h with h
  subst h
  exact ⟨by simp,fun j hj => absurd hj (Nat.not_lt_zero _)⟩
 | r :: xs,rev,l,v,h0,h1,h => by
  rw [List.length_cons] at h1
  unfold YaD at h
  cases hs : stepV rev l r with
  | none => rw [hs] at h; cases h
  | some u =>
   rw [hs] at h
   obtain ⟨e1,e2⟩ := stepV_rev hs
   rw [Z9 (by omega) (by omega)] at e1
   obtain ⟨q1,q2⟩ := follow_rev (xs := xs) (by omega) (by omega) h
   refine ⟨by rw [q1,List.length_cons]; omega,fun j hj => ?_⟩
   cases j with
   | zero => show rI r 0 = _; rw [e1]; simp
   | succ j =>
    show rI (xs[j]'(by simpa using hj)) 0 = _
    rw [q2 j (by simpa using hj)]
    omega
theorem stepV_some {rev : Int} {l : LD} {r : List D} {u : Int × LD} (h : stepV rev l r = some u) : Ya1 rev l r = some u ∧ mirB u.1 u.2 = true := by
 unfold stepV at h
 cases hs : Ya1 rev l r with
 | none => rw [hs] at h; cases h
 | some v =>
  rw [hs] at h
  have h : (bif mirB v.1 v.2 then some v else none) = some u := h
  cases hm : mirB v.1 v.2 <;> rw [hm] at h
  ·cases h
  ·injection h with h
   subst h
   exact ⟨rfl,hm⟩
theorem follow_snoc {x : List D} : ∀ {xs : LD} {rev : Int} {l : LD} {v : Int × LD},YaD rev l xs = some v → YaD rev l (xs ++ [x]) = stepV v.1 v.2 x
 | [],rev,l,v,h => by
  unfold YaD at h
  injection h with h
  subst h
  show YaD rev l [x] = _
  unfold YaD
  cases hs : stepV rev l x with
  | none => rfl
  | some u => rfl
 | y :: xs,rev,l,v,h => by
  unfold YaD at h
  show YaD rev l (y :: (xs ++ [x])) = _
  rw [YaD]
  cases hs : stepV rev l y with
  | none => rw [hs] at h; cases h
  | some u =>
   rw [hs] at h
   exact follow_snoc (xs := xs) h
theorem step_ok {O O' L' : LD} {rev rev' next' : Int} {ch : List D} (h : Ya1 rev O ch = some (rev',O')) (hok : OkB O' rev' next' L') : stepV rev O ch = some (rev',O') := by
 unfold stepV
 rw [h]
 have := hok.n1
 show (bif mirB rev' O' then some (rev',O') else none) = _
 rw [hok.ob.mir hok.r0 hok.r1 (by omega)]
 rfl
theorem OkB.goes {O O' L L' : LD} {rev rev' next next' : Int} (h : OkB O rev next L) (hg : Goes O rev next L O' rev' next' L') : OkB O' rev' next' L' := by
 rcases hg with ⟨rfl,rfl,rfl,rfl⟩ | ⟨-,h,-⟩ <;> exact h
structure Runs (O₁ : LD) (rev₁ : Int) (L₁ : LD) (O : LD) (rev next : Int) (L : LD) : Prop where
 ok : OkB O rev next L
 ext : ∃ (xs : LD) (n : Nat),YaD rev₁ O₁ xs = some (rev,O) ∧ rev = rev₁ + xs.length ∧ L = (L₁ ++ xs).drop n ∧ n ≤ (L₁ ++ xs).length
theorem Runs.start {O L : LD} {rev next : Int} (h : OkB O rev next L) : Runs O rev L O rev next L := ⟨h,[],0,by unfold YaD; rfl,by simp,by simp,by simp⟩
theorem Runs.step {O₁ L₁ O O' L L' : LD} {rev₁ rev rev' next next' : Int} (h : Runs O₁ rev₁ L₁ O rev next L) (hg : Goes O rev next L O' rev' next' L') : Runs O₁ rev₁ L₁ O' rev' next' L' := by
 rcases hg with ⟨rfl,rfl,rfl,rfl⟩ | ⟨-,hok,ch,hs,hr,hL⟩
 ·exact h
 ·obtain ⟨xs,n,h1,h2,h3,h4⟩ := h.ext
  have e : L ++ [ch] = (L₁ ++ (xs ++ [ch])).drop n := by
   rw [h3,← List.append_assoc,List.drop_append_of_le_length h4]
  have f : YaD rev₁ O₁ (xs ++ [ch]) = some (rev',O') := by
   rw [follow_snoc h1]
   exact step_ok hs hok
  have g : rev' = rev₁ + (xs ++ [ch]).length := by rw [List.length_append,List.length_singleton]; omega
  have len : (L₁ ++ (xs ++ [ch])).length = (L₁ ++ xs).length + 1 := by simp only [List.length_append,List.length_singleton]; omega
  rw [hL,e]
  rw [hL,e] at hok
  unfold ZbS at hok ⊢
  by_cases hq : (((L₁ ++ (xs ++ [ch])).drop n).length : Int) > 40
  ·rw [ZY hq] at hok ⊢
   simp only [cond_true] at hok ⊢
   exact ⟨hok,xs ++ [ch],n + 1,f,g,by rw [List.drop_drop],by omega⟩
  ·rw [ZZ hq] at hok ⊢
   simp only [cond_false] at hok ⊢
   exact ⟨hok,xs ++ [ch],n,f,g,rfl,by omega⟩
theorem okB_new : OkB [] 0 1 [] := ⟨by decide,by decide,by decide,by decide,⟨by simp,List.Pairwise.nil,List.Pairwise.nil,by simp⟩,by simp,List.Pairwise.nil,by simp⟩
set_option maxRecDepth 100000 in
set_option maxHeartbeats 2000000 in
theorem l7Draw_ex {k : Nat} (hk : Zai 1 k) {b : LD} {i h m : Int} (c : Cur b i) (hm : m ≤ 300) : ∃ (O : LD) (rev next : Int) (L : LD) (i' h' : Int),YaR (2 * m.toNat) O rev next L ∧ OkB O rev next L ∧ Cur b i' ∧ Y6.t k b i h m = some (O,rev,next,L,b,i',h') := by
 have hkb : 2 ^ 65 ≤ k := hk
 unfold Y6.t Y6.g YaF.f YaF.t YaF.g
 obtain ⟨x,i1,h1,x0,x1,x2,hc1,e1⟩ := YaW (k := k) (h := h) (n := m) c
 have hx : x.toNat ≤ m.toNat := by omega
 have hx2 : x ≤ 300 := by omega
 simp only [bd4,C.immRows]
 rw [Yv.f_of e1]
 refine Ya0 (fun v => v.1.toNat) (fun v => 0 ≤ v.1 ∧ v.1 ≤ x ∧ v.2.1 = b ∧ Cur b v.2.2.1 ∧ YaR (2 * (x - v.1).toNat) v.2.2.2.2.1 v.2.2.2.2.2.1 v.2.2.2.2.2.2.1 v.2.2.2.2.2.2.2 ∧ OkB v.2.2.2.2.1 v.2.2.2.2.2.1 v.2.2.2.2.2.2.1 v.2.2.2.2.2.2.2) (fun o => ∃ (O : LD) (rev next : Int) (L : LD) (i' h' : Int),YaR (2 * m.toNat) O rev next L ∧ OkB O rev next L ∧ Cur b i' ∧ o = some (O,rev,next,L,b,i',h')) ?_ (v := (x,b,i1,h1,[],0,1,[])) ⟨x0,Int.le_refl _,rfl,hc1,⟨by simp,by simp,by simp,by simp,Int.le_refl 0,Int.natCast_nonneg _,by show (0 : Int) ≤ 1; decide,by show (1 : Int) ≤ _; omega⟩,okB_new⟩ (by show x.toNat < k; omega)
 rintro ⟨n,b',i,h,O,rev,next,L⟩ ⟨n0,n1,eb,hc,hB,hok⟩ F hF
 replace n0 : 0 ≤ n := n0
 replace n1 : n ≤ x := n1
 replace eb : b' = b := eb
 replace hc : Cur b i := hc
 replace hB : YaR (2 * (x - n).toNat) O rev next L := hB
 replace hok : OkB O rev next L := hok
 subst eb
 by_cases hn : n > 0
 ·obtain ⟨O',rev',next',L',i',h',hB',hG,hc',e⟩ := act_ex hB (by omega) hk (h := h) hc
  simp only [Y6.l0,ZY hn,cond_true]
  unfold YaG.f
  rw [e]
  dsimp only
  rw [Z9 (by omega) (by omega)]
  exact hF _ ⟨by show 0 ≤ n - 1; omega,by show n - 1 ≤ x; omega,rfl,hc',hB'.up (by show 2 * (x - n).toNat + 2 ≤ 2 * (x - (n - 1)).toNat; omega),hok.goes hG⟩ (by show (n - 1).toNat < n.toNat; omega)
 ·simp only [Y6.l0,ZZ hn,cond_false]
  exact ⟨_,_,_,_,_,_,hB.up (by omega),hok,hc,rfl⟩
theorem listV_w {n : Nat} {O L : LD} {rev next : Int} (hB : YaR n O rev next L) : 0 ≤ (YaV O rev next L).1 ∧ (YaV O rev next L).1 ≤ n ∧ (∀ r ∈ C.immRows (YaV O rev next L).2,Robj lim r) ∧ (C.immRows (YaV O rev next L).2).length ≤ n := by
 have := hB.r0; have := hB.r1
 unfold YaV
 cases Ym.v O rev next L
 ·simp only [cond_false,C.immRows]
  exact ⟨by omega,by omega,by simp,by simp⟩
 ·simp only [cond_true,ZK]
  exact ⟨by omega,by omega,hB.ro,hB.lo⟩
set_option maxRecDepth 100000 in
set_option maxHeartbeats 2000000 in
theorem l8Draw_ex {k : Nat} (hk : Zai 1 k) {b : LD} {i h m : Int} (c : Cur b i) (hm : m ≤ 250) : ∃ (O₁ L₁ : LD) (rev₁ next₁ : Int) (O : LD) (rev next : Int) (L : LD) (i' h' : Int),YaR (2 * m.toNat) O₁ rev₁ next₁ L₁ ∧ OkB O₁ rev₁ next₁ L₁ ∧ YaR (2 * m.toNat + 120) O rev next L ∧ Runs O₁ rev₁ L₁ O rev next L ∧ Cur b i' ∧ YZ.t k b i h m = some ((YaV O₁ rev₁ next₁ L₁).1,(YaV O₁ rev₁ next₁ L₁).2,O,rev,next,L,b,i',h') := by
 have hkb : 2 ^ 65 ≤ k := hk
 unfold YZ.t YZ.g YZ.m
 obtain ⟨O₁,rev₁,next₁,L₁,i1,h1,hB₁,hok₁,hc1,e1⟩ := l7Draw_ex hk (h := h) c (Int.le_trans hm (by decide))
 unfold Y6.f
 rw [e1]
 dsimp only
 unfold YaM.f
 rw [spec_List_t (hB₁.so (by omega)) (hB₁.sl (by omega)) hk]
 simp only [bd2]
 obtain ⟨y,i2,h2,hy,hc2,e2⟩ := int_ex (k := k) (h := h1) hc1 [4,8,60] (by decide)
 simp only [List.map_cons,List.map_nil] at e2
 rw [Yap.f_of e2]
 obtain ⟨x,i3,h3,x0,x1,x2,hc3,e3⟩ := YaW (k := k) (h := h2) (n := y) hc2
 have hy' : y = 4 ∨ y = 8 ∨ y = 60 := by simpa using hy
 have hx2 : x ≤ 60 := by omega
 rw [Yv.f_of e3]
 refine ⟨O₁,L₁,rev₁,next₁,?_⟩
 refine Ya0 (fun v => v.1.toNat) (fun v => 0 ≤ v.1 ∧ v.1 ≤ x ∧ v.2.1 = b ∧ Cur b v.2.2.1 ∧ YaR (2 * m.toNat + 2 * (x - v.1).toNat) v.2.2.2.2.1 v.2.2.2.2.2.1 v.2.2.2.2.2.2.1 v.2.2.2.2.2.2.2 ∧ Runs O₁ rev₁ L₁ v.2.2.2.2.1 v.2.2.2.2.2.1 v.2.2.2.2.2.2.1 v.2.2.2.2.2.2.2) (fun o => ∃ (O : LD) (rev next : Int) (L : LD) (i' h' : Int),YaR (2 * m.toNat) O₁ rev₁ next₁ L₁ ∧ OkB O₁ rev₁ next₁ L₁ ∧ YaR (2 * m.toNat + 120) O rev next L ∧ Runs O₁ rev₁ L₁ O rev next L ∧ Cur b i' ∧ o = some ((YaV O₁ rev₁ next₁ L₁).1,(YaV O₁ rev₁ next₁ L₁).2,O,rev,next,L,b,i',h')) ?_ (v := (x,b,i3,h3,O₁,rev₁,next₁,L₁)) ⟨x0,Int.le_refl _,rfl,hc3,hB₁.up (by omega),.start hok₁⟩ (by show x.toNat < k; omega)
 rintro ⟨n,b',i,h,O,rev,next,L⟩ ⟨n0,n1,eb,hc,hB,hR⟩ F hF
 replace n0 : 0 ≤ n := n0
 replace n1 : n ≤ x := n1
 replace eb : b' = b := eb
 replace hc : Cur b i := hc
 replace hB : YaR (2 * m.toNat + 2 * (x - n).toNat) O rev next L := hB
 replace hR : Runs O₁ rev₁ L₁ O rev next L := hR
 subst eb
 by_cases hn : n > 0
 ·obtain ⟨O',rev',next',L',i',h',hB',hG,hc',e⟩ := act_ex hB (by omega) hk (h := h) hc
  simp only [YZ.l0,ZY hn,cond_true]
  unfold YaG.f
  rw [e]
  dsimp only
  rw [Z9 (by omega) (by omega)]
  exact hF _ ⟨by show 0 ≤ n - 1; omega,by show n - 1 ≤ x; omega,rfl,hc',hB'.up (by show 2 * m.toNat + 2 * (x - n).toNat + 2 ≤ 2 * m.toNat + 2 * (x - (n - 1)).toNat; omega),hR.step hG⟩ (by show (n - 1).toNat < n.toNat; omega)
 ·simp only [YZ.l0,ZZ hn,cond_false]
  exact ⟨_,_,_,_,_,_,hB₁,hok₁,hB.up (by omega),hR,hc,rfl⟩
theorem YW.f_of {β : Type} {k aB aA aQ aR aT aV aX bL bM bN bO bP bQ bR bT bU bV bW bX a1_17 a1_18 z0 z1 z2} (h : YW.t k aB aA aQ aR aT aV aX bL bM bN bO bP bQ bR bT bU bV bW bX a1_17 a1_18 = some (z0,z1,z2)) (K : Bool → Int → LC → Option β) : YW.f k aB aA aQ aR aT aV aX bL bM bN bO bP bQ bR bT bU bV bW bX a1_17 a1_18 K = K z0 z1 z2 := by unfold YW.f; rw [h]; rfl
theorem deepRows_at : ∀ {xs : LD} {i : Nat},(Zc xs)[i]? = (xs[i]?).map ZN
 | [],i => by simp only [Zc,List.getElem?_nil,Option.map_none]
 | r :: xs,0 => by simp only [Zc,List.getElem?_cons_zero,Option.map_some]
 | r :: xs,i + 1 => by simp only [Zc,List.getElem?_cons_succ,deepRows_at]
theorem atNat_deepF {β : Type} {xs : LD} {i : Nat} (hi : i < xs.length) (F : List C → Option β) : ZaR (Zc xs) i F = F (ZN xs[i]) := by
 unfold ZaR
 rw [deepRows_at,List.getElem?_eq_getElem hi]
 rfl
set_option maxRecDepth 100000 in
set_option maxHeartbeats 4000000 in
theorem follow_fv {rev : Int} {l : LD} (g : ZB Ya lim l) (ha : AscO l) {s : Int} {gone : Bool} {x0 : Int} {x1 : BA} {x2 x3 x4 : Int} {x5 : Bool} {x6 : LD} {x7 : Int} {x8 : BA} {x9 : Int} {x10 x11 : LD} {x12 : Int} {x13 : BA} {x14 : Int} {x15 x16 : LD} (g6 : ZB RS lim x6) (g10 : ZB RS lim x10) (g11 : ZB Yu lim x11) (g15 : ZB RS lim x15) (g16 : ZB Yu lim x16) {k : Nat} (hk : Zai 1 k) {r : List D} (hr : r = [.int .i64 s,.bool gone,.int .i64 x0,.str x1,.int .i64 x2,.int .i64 x3,.int .i64 x4,.bool x5,.sl x6,.int .i64 x7,.str x8,.int .i64 x9,.sl x10,.sl x11,.int .i64 x12,.str x13,.int .i64 x14,.sl x15,.sl x16]) :
  match Ya1 rev l r with
  | none => ∃ p q,YW.t k rev (Zc l) s gone x0 x1 x2 x3 x4 x5 x6 x7 x8 x9 x10 x11 x12 x13 x14 x15 x16 = some (false,p,q)
  | some v => YW.t k rev (Zc l) s gone x0 x1 x2 x3 x4 x5 x6 x7 x8 x9 x10 x11 x12 x13 x14 x15 x16 = some (true,v.1,Zc v.2) := by
 have hlim : lim = 1048576 := rfl
 have hl := g.1
 have hdl := ZS l
 have e0 : rI r 0 = s := by rw [hr]; rfl
 have e1 : rB r 1 = gone := by rw [hr]; rfl
 have e2 : rI r 2 = x0 := by rw [hr]; rfl
 have e3 : rS r 3 = x1 := by rw [hr]; rfl
 have e4 : rI r 4 = x2 := by rw [hr]; rfl
 have eo : rO r = [.int .i64 x0,.str x1,.int .i64 x2,.int .i64 x3,.int .i64 x4,.bool x5,.sl x6,.int .i64 x7,.str x8,.int .i64 x9,.sl x10,.sl x11,.int .i64 x12,.str x13,.int .i64 x14,.sl x15,.sl x16] := by rw [hr]; rfl
 unfold YW.t YW.g Ya1
 rw [e0,e1,e2,e3,e4,eo]
 by_cases hs : s = IntKind.wrap .i64 (rev + 1)
 ·have hs2 : (s != IntKind.wrap .i64 (rev + 1)) = false := by simp [hs]
  rw [hs2]
  simp only [cond_false]
  rw [← hs]
  cases gone with
  | false =>
   simp only [Bool.not_false,cond_true,cond_false]
   rw [placed_fv g ha g6 g10 g11 g15 g16 hk]
  | true =>
   simp only [Bool.not_true,cond_true,cond_false]
   rw [ZK,objAt_fv g (up0 hk)]
   by_cases hf : YaP l x0 x1 < 0
   ·simp only [ZY hf,cond_true]
    exact ⟨_,_,rfl⟩
   ·obtain ⟨n,hn,hnl⟩ := findO_lt hf
    rw [ZZ hf]
    simp only [cond_false]
    rw [hn]
    obtain ⟨hrow,-⟩ := Ya.gets g.2 (v := (n : Int)) (by omega) (by omega)
    rw [gR_lt hnl] at hrow
    rw [ZH (by omega),Int.toNat_natCast,atNat_deepF hnl,hrow]
    simp only [ZN,deepD,List.drop_succ_cons,List.drop_zero,Z4,cD,Z5]
    cases hq : (gI l (n : Int) 2 != x2)
    ·simp only [cond_false]
     unfold YH.f YH.t dropO
     rw [Z9 (x := (n : Int) + 1) (by omega) (by omega),ZH (by omega),Int.toNat_natCast,show ((n : Int) + 1).toNat = n + 1 by omega,Ybm,Ybn,← Zbb]
    ·simp only [cond_true]
     exact ⟨_,_,rfl⟩
 ·have hs2 : (s != IntKind.wrap .i64 (rev + 1)) = true := by simp [hs]
  rw [hs2]
  simp only [cond_true]
  exact ⟨_,_,rfl⟩
theorem YO.f_of {β : Type} {k aB aA a1 z0 z1 z2} (h : YO.t k aB aA a1 = some (z0,z1,z2)) (K : Int → LC → Bool → Option β) : YO.f k aB aA a1 K = K z0 z1 z2 := by unfold YO.f; rw [h]; rfl
theorem drop_cons_g {xs : LD} {i : Nat} (hi : i < xs.length) : xs.drop i = gR xs (i : Int) :: xs.drop (i + 1) := by
 rw [gR_lt hi]
 exact List.drop_eq_getElem_cons hi
theorem mirrorI_fv {a : Int} {l : LD} (g : ZB Ya lim l) {k : Nat} (hk : Zai 1 k) {β : Type} (K : Bool → Option β) : Yad.f k a l K = K (mirB a l) := Yad.f_of (by
 unfold Yad.t Yad.g mirB
 simp only [Ya4,objsOk_fv g hk]
 cases inB a 0 1000000 <;> rfl) K
theorem Ya8 {a : Int} {l : LD} (g : ZB Ya lim l) {k : Nat} (hk : Zai 1 k) {β : Type} (K : Int → LC → Option β) : Y1.f k a l K = K a (Zc l) := Y1.f_of (by unfold Y1.t Y1.g; rw [copyObjs_fv g hk]) K
noncomputable def endV (a : Int) (l : LD) (o : Option (Int × LD)) : Int × LC × Bool := match o with | some v => (v.1,Zc v.2,true) | none => (a,Zc l,false)
noncomputable def endD (a : Int) (l : LD) (o : Option (Int × LD)) : Int × LD × Bool := match o with | some v => (v.1,v.2,true) | none => (a,l,false)
set_option maxRecDepth 100000 in
set_option maxHeartbeats 4000000 in
theorem impl_Follow_t {a : Int} {l xs : LD} (g : ZB Ya lim l) (gx : ZB Yb lim xs) {k : Nat} (hk : Zai 1 k) :
  YO.t k a l xs = some (bif mirB a l then endV a l (YaD a l xs) else (a,Zc l,false)) := by
 have hlim : lim = 1048576 := rfl
 have hb : big = 2 ^ 64 := rfl
 have hk0 : Fuel k := up0 hk
 have hx := gx.1
 unfold YO.t YO.g
 rw [mirrorI_fv g hk]
 cases hm : mirB a l
 ·simp only [Bool.not_false,cond_true,cond_false]
  rw [Ya8 g hk]
 simp only [Bool.not_true,cond_true,cond_false]
 rw [Ya8 g hk]
 obtain ⟨asc,l60,-,-⟩ := Ybh g hm
 refine Eq.trans (iter_val (fun v : Int × Int × LC => xs.length - v.1.toNat) (fun v => 0 ≤ v.1 ∧ v.1 ≤ (xs.length : Int) ∧ ∃ l',v.2.2 = Zc l' ∧ ZB Ya lim l' ∧ AscO l' ∧ l'.length ≤ 60) (fun v => some (endV a l (YaD v.2.1 (C.immRows v.2.2) (xs.drop v.1.toNat)))) ?_ k (0,a,Zc l) ⟨by simp,by simp,l,rfl,g,asc,l60⟩ (by unfold Fuel at hk0; show xs.length - (0 : Int).toNat < k; omega)) (by
  show some (endV a l (YaD a (C.immRows (Zc l)) (xs.drop 0))) = _
  rw [ZK,List.drop_zero])
 rintro ⟨n,rev,cl⟩ ⟨n0,n1,l',e,gl,al,ll⟩ L hL
 replace n0 : 0 ≤ n := n0
 obtain ⟨i,rfl⟩ : ∃ i : Nat,n = (i : Int) := ⟨n.toNat,by omega⟩
 replace n1 : (i : Int) ≤ (xs.length : Int) := n1
 replace e : cl = Zc l' := e
 subst e
 simp only [ZK,Int.toNat_natCast]
 by_cases hi : i < xs.length
 ·obtain ⟨hrow,k0,k2,k3,k4,k5,k6,k8,k9,k10,k11,k12,k13,k14,k15,k16,k17,k18,-⟩ := Yb.get gx (v := (i : Int)) (by omega) (by omega)
  have hmem : Yb lim (gR xs (i : Int)) := gx.2 _ (gR_mem (by omega) (by omega))
  have hf := follow_fv (rev := rev) gl al k8 k12 k13 k17 k18 hk hrow
  rw [drop_cons_g hi]
  unfold YaD stepV
  simp (disch := omega) only [YO.l0,atR,rdQ,Q.ask,ZY (show (i : Int) < (xs.length : Int) by omega),cond_true,Yb.row gx,Z4,Z5,ZaQ,ZaV,Zbl,Zan]
  cases hs : Ya1 rev l' (gR xs (i : Int)) with
  | none =>
   rw [hs] at hf
   obtain ⟨p,q,hf⟩ := hf
   rw [YW.f_of hf]
   simp only [Bool.not_false,cond_true]
   rw [Ya8 g hk]
   rfl
  | some v =>
   rw [hs] at hf
   have g2 := stepF_ok gl ll hmem hs
   rw [YW.f_of hf]
   simp only [Bool.not_true,cond_false,ZK]
   rw [mirrorI_fv g2 hk]
   cases hv : mirB v.1 v.2 with
   | false =>
    simp only [Bool.not_false,cond_true,cond_false]
    rw [Ya8 g hk]
    rfl
   | true =>
    obtain ⟨a2,l2,-,-⟩ := Ybh g2 hv
    simp only [Bool.not_true,cond_false,cond_true]
    rw [Z9 (x := (i : Int) + 1) (by omega) (by omega)]
    rw [hL ((i : Int) + 1,v.1,Zc v.2) ⟨by show 0 ≤ (i : Int) + 1; omega,by show (i : Int) + 1 ≤ _; omega,v.2,rfl,g2,a2,l2⟩ (by show xs.length - ((i : Int) + 1).toNat < xs.length - (i : Int).toNat; omega)]
    simp only [ZK,show ((i : Int) + 1).toNat = i + 1 by omega]
 ·rw [List.drop_eq_nil_of_le (by omega)]
  simp only [YO.l0,atR,rdQ,Q.ask,ZZ (show ¬ (i : Int) < (xs.length : Int) by omega),cond_false]
  unfold YaD endV
  rfl
theorem Yar.f_of {β : Type} {k aB aA aQ aR aT aV z0 z1 z2} (h : Yar.t k aB aA aQ aR aT aV = some (z0,z1,z2)) (K : Int → LC → Bool → Option β) : Yar.f k aB aA aQ aR aT aV K = K z0 z1 z2 := by unfold Yar.f; rw [h]; rfl
noncomputable def folV (a : Int) (l xs : LD) : Int × LD × Bool := bif mirB a l then endD a l (YaD a l xs) else (a,l,false)
theorem impl_Follow_v {a : Int} {l xs : LD} (g : ZB Ya lim l) (gx : ZB Yb lim xs) {k : Nat} (hk : Zai 1 k) : YO.t k a l xs = some ((folV a l xs).1,Zc (folV a l xs).2.1,(folV a l xs).2.2) := by
 rw [impl_Follow_t g gx hk]
 unfold folV endV endD
 cases mirB a l
 ·rfl
 ·cases YaD a l xs <;> rfl
theorem folV_ok {a : Int} {l xs : LD} (g : ZB Ya lim l) (gx : ZB Yb lim xs) : ZB Ya lim (folV a l xs).2.1 ∧ Zu (folV a l xs).2.1 ≤ Zu l + Zu xs := by
 have hn : ZB Ya lim l ∧ Zu l ≤ Zu l + Zu xs := ⟨g,by omega⟩
 unfold folV
 cases hm : mirB a l
 ·exact hn
 ·obtain ⟨-,l60,-,-⟩ := Ybh g hm
  unfold endD
  cases hf : YaD a l xs with
  | none => exact hn
  | some v => exact followL_ok g l60 gx.2 hf
theorem sinceV_ok {a : LD} {b c n : Int} {d : LD} (g : ZB Yb lim d) : ZB Yb lim (C.immRows (YaT a b c d n).1) ∧ Zu (C.immRows (YaT a b c d n).1) ≤ Zu d := by
 have hn : ZB Yb lim (C.immRows ([] : LC)) ∧ Zu (C.immRows ([] : LC)) ≤ Zu d := ⟨⟨Nat.zero_le _,fun r hr => by cases hr⟩,Nat.zero_le _⟩
 unfold YaT
 cases Ym.v a b c d && inB n 0 b
 ·exact hn
 simp only [cond_true]
 cases decide (((sinceL d n).length : Int) < IntKind.wrap .i64 (b - n))
 ·simp only [cond_false,ZK]
  exact ⟨sinceL_ok g,wt_filter _ _⟩
 ·exact hn
theorem listV_deep {a : LD} {b c : Int} {d : LD} : Zc (C.immRows (YaV a b c d).2) = (YaV a b c d).2 := by
 unfold YaV
 cases Ym.v a b c d
 ·rfl
 ·simp only [cond_true,ZK]
theorem listV_ok {a : LD} {b c : Int} {d : LD} (g : ZB Ya lim a) : ZB Ya lim (C.immRows (YaV a b c d).2) ∧ Zu (C.immRows (YaV a b c d).2) ≤ Zu a := by
 unfold YaV
 cases Ym.v a b c d
 ·exact ⟨⟨Nat.zero_le _,fun r hr => by cases hr⟩,Nat.zero_le _⟩
 ·simp only [cond_true,ZK]
  exact ⟨g,Nat.le_refl _⟩
noncomputable def catchV (a : Int) (l b0 : LD) (b1 b2 : Int) (d : LD) : Int × LD × Bool :=
 bif (YaT b0 b1 b2 d a).2 && (folV a l (C.immRows (YaT b0 b1 b2 d a).1)).2.2 then ((folV a l (C.immRows (YaT b0 b1 b2 d a).1)).1,(folV a l (C.immRows (YaT b0 b1 b2 d a).1)).2.1,true) else ((YaV b0 b1 b2 d).1,C.immRows (YaV b0 b1 b2 d).2,false)
theorem impl_CatchUp_t {a : Int} {l b0 : LD} {b1 b2 : Int} {d : LD} (g : ZB Ya lim l) (g0 : ZB Ya lim b0) (gd : ZB Yb lim d) {k : Nat} (hk : Zai 1 k) : Yar.t k a l b0 b1 b2 d = some ((catchV a l b0 b1 b2 d).1,Zc (catchV a l b0 b1 b2 d).2.1,(catchV a l b0 b1 b2 d).2.2) := by
 have ft := impl_Follow_v (a := a) g (sinceV_ok (a := b0) (b := b1) (c := b2) (n := a) gd).1 hk
 have hl := listV_deep (a := b0) (b := b1) (c := b2) (d := d)
 have st : Yau.t k b0 b1 b2 d a = some ((YaT b0 b1 b2 d a).1,(YaT b0 b1 b2 d a).2) := impl_Since_t g0 gd hk
 have lt : Yaz.t k b0 b1 b2 d = some ((YaV b0 b1 b2 d).1,(YaV b0 b1 b2 d).2) := impl_List_t g0 gd hk
 unfold Yar.t Yar.g catchV
 simp only [Yau.f_of st,YO.f_of ft,Yaz.f_of lt]
 cases (YaT b0 b1 b2 d a).2
 ·simp only [Bool.not_false,cond_true,cond_false,Bool.false_and,hl]
 ·cases (folV a l (C.immRows (YaT b0 b1 b2 d a).1)).2.2
  ·simp only [Bool.not_false,Bool.not_true,cond_true,cond_false,Bool.and_false,hl]
  ·simp only [Bool.not_true,cond_true,cond_false,Bool.and_true]
theorem YD.f_of {β : Type} {k a0 a1 z0} (h : YD.t k a0 a1 = some z0) (K : Bool → Option β) : YD.f k a0 a1 K = K z0 := by unfold YD.f; rw [h]; rfl
set_option maxRecDepth 100000 in
set_option maxHeartbeats 4000000 in
theorem sameObjs_t {a : LD} (g : ZB Robj lim a) {k : Nat} (hk : Zai 1 k) : YD.t k a a = some true := by
 have hlim : lim = 1048576 := rfl
 have hl := g.1
 have hkb : 2 ^ 65 ≤ k := hk
 unfold YD.t YD.g
 simp only [bne_self_eq_false,cond_false]
 refine iter_seq (f := fun t => (t : Int)) (n := a.length) (by omega) (fun L t ht => ?_) (fun L => ?_)
 ·obtain ⟨-,-,k1,-,-,-,k6,-,k8,-,k10,k11,-,k13,-,k15,k16,-⟩ := Ya.get g (v := (t : Int)) (by omega) (by omega)
  simp (maxSteps := 4000000) (disch := omega) only [YD.l0,atR,rdQ,Q.ask,ZY (show (t : Int) < (a.length : Int) by omega),cond_true,Ya.row g,Z4,Z5,ZaQ,ZaV,Zbl,Zan,bne_self_eq_false,cond_false,strEq_self,BEq.rfl,sameValue_f k10 k11 hk,sameValue_f k15 k16 hk,Bool.not_true,Z9]
  rfl
 ·simp only [YD.l0,atR,rdQ,Q.ask,ZZ (show ¬ (a.length : Int) < (a.length : Int) by omega),cond_false]
set_option maxHeartbeats 2000000 in
theorem since_runs {O₁ L₁ O L : LD} {rev₁ next₁ rev next : Int} (wO : ZB Robj lim O) (wL : ZB Rlog lim L) (h₁ : OkB O₁ rev₁ next₁ L₁) (hR : Runs O₁ rev₁ L₁ O rev next L) : YaT O rev next L rev₁ = ([],false) ∨ ∃ xs,YaT O rev next L rev₁ = (Zc xs,true) ∧ YaD rev₁ O₁ xs = some (rev,O) ∧ ZB Rlog lim xs := by
 obtain ⟨xs,n,e1,e2,e3,e4⟩ := hR.ext
 have r0 := h₁.r0; have r1 := hR.ok.r1
 have hs : sinceL L rev₁ = xs.drop (n - L₁.length) := by
  unfold sinceL
  rw [e3,List.drop_append,List.filter_append]
  have a : (L₁.drop n).filter (fun r => !decide (rI r 0 ≤ rev₁)) = [] := List.filter_eq_nil_iff.mpr fun r hr => by
   have := (logB_rev (h₁.lr r (List.mem_of_mem_drop hr))).2
   rw [ZY this]
   decide
  have b : (xs.drop (n - L₁.length)).filter (fun r => !decide (rI r 0 ≤ rev₁)) = xs.drop (n - L₁.length) := List.filter_eq_self.mpr fun r hr => by
   obtain ⟨j,hj,rfl⟩ := List.mem_iff_getElem.mp (List.mem_of_mem_drop hr)
   have := (follow_rev r0 (by omega) e1).2 j hj
   rw [ZZ (by omega)]
   rfl
  rw [a,b,List.nil_append]
 unfold YaT
 rw [base_v wO wL,base_iff.mpr hR.ok,YaS.mpr ⟨r0,by omega⟩,Z9 (x := rev - rev₁) (by omega) (by omega)]
 simp only [Bool.and_self,cond_true]
 by_cases hq : ((sinceL L rev₁).length : Int) < rev - rev₁
 ·rw [ZY hq]
  exact .inl rfl
 ·rw [ZZ hq]
  simp only [cond_false]
  have hx : xs.drop (n - L₁.length) = xs := by
   rw [hs,List.length_drop] at hq
   by_cases hz : n - L₁.length = 0
   ·rw [hz,List.drop_zero]
   ·have : xs.length = 0 := by omega
    rw [List.eq_nil_of_length_eq_zero this,List.drop_nil]
  refine .inr ⟨sinceL L rev₁,rfl,by rw [hs,hx]; exact e1,sinceL_ok wL⟩
theorem listV_good {O L : LD} {rev next : Int} (wO : ZB Robj lim O) (wL : ZB Rlog lim L) (h : OkB O rev next L) : YaV O rev next L = (rev,Zc O) := by
 unfold YaV
 rw [base_v wO wL,base_iff.mpr h]
 rfl
theorem catch_runs {O₁ L₁ O L : LD} {rev₁ next₁ rev next : Int} (wO : ZB Robj lim O) (wL : ZB Rlog lim L) (h₁ : OkB O₁ rev₁ next₁ L₁) (hR : Runs O₁ rev₁ L₁ O rev next L) : catchV rev₁ O₁ O rev next L = (rev,O,(YaT O rev next L rev₁).2) := by
 have hn := h₁.n1
 unfold catchV
 rcases since_runs wO wL h₁ hR with e | ⟨xs,e,hf,-⟩
 ·rw [e,listV_good wO wL hR.ok]
  simp only [Bool.false_and,cond_false,ZK]
 ·rw [e]
  simp only [ZK,Bool.true_and]
  unfold folV
  rw [h₁.ob.mir h₁.r0 h₁.r1 (by omega),hf]
  rfl
set_option maxHeartbeats 2000000 in
theorem drawMirror_ex {a : LD} (g : ZB RI8 lim a) {k : Nat} (hk : Zai 1 k) : ∃ (O₁ L₁ : LD) (rev₁ next₁ : Int) (O : LD) (rev next : Int) (L : LD),ZB Robj lim O₁ ∧ OkB O₁ rev₁ next₁ L₁ ∧ ZB Robj lim O ∧ ZB Rlog lim L ∧ Runs O₁ rev₁ L₁ O rev next L ∧ Yaq.t k a = some (rev₁,Zc O₁,O,rev,next,L) := by
 unfold Yaq.t Yaq.g
 obtain ⟨h0,e0⟩ := new_ex g (up0 hk)
 rw [Y5.f_of e0]
 obtain ⟨n,n3,n40,e1⟩ := size_ex (m := 40) g (by decide) (k := k)
 rw [YaA.f_of e1]
 obtain ⟨O₁,L₁,rev₁,next₁,O,rev,next,L,i1,h1,hB₁,hok₁,hB,hR,hc1,e2⟩ := l8Draw_ex hk (h := h0) (Cur.new g) (m := n) (by omega)
 unfold YZ.f
 rw [e2]
 dsimp only
 rw [listV_good (hB₁.so (by omega)) (hB₁.sl (by omega)) hok₁]
 exact ⟨O₁,L₁,rev₁,next₁,O,rev,next,L,hB₁.so (by omega),hok₁,hB.so (by omega),hB.sl (by omega),hR,rfl⟩
set_option maxRecDepth 100000 in
set_option maxHeartbeats 4000000 in
theorem YQ.T {a0 : LD} (g0 : ZB RI8 maxLen a0) : Tm (Zai 1) (fun k => YQ.t k a0) (fun r => r = true) := by
 refine Tm.of (v := true) (fun k hk => ?_) rfl
 have hlim : lim = 1048576 := rfl
 have hkb : 2 ^ 65 ≤ k := hk
 have hbig : ∀ {β : Type} (K : Bool → Option β),YaO.f k a0 K = K (decide ((a0.length : Int) > 1048576)) := fun K => YaO.f_of rfl K
 unfold YQ.t YQ.g YQ.m
 rw [hbig]
 by_cases hl : (a0.length : Int) > 1048576
 ·rw [ZY hl]; rfl
 rw [ZZ hl]
 simp only [cond_false]
 have g : ZB RI8 lim a0 := ⟨by omega,fun r hr => let ⟨x,q⟩ := g0.2 r hr; ⟨x,q⟩⟩
 obtain ⟨O₁,L₁,rev₁,next₁,O,rev,next,L,wO₁,h₁,wO,wL,hR,e1⟩ := drawMirror_ex g hk
 have hn := hR.ok.n1
 have hn₁ := h₁.n1
 unfold Yaq.f
 rw [e1]
 dsimp only
 have hm : mirB rev O = true := hR.ok.ob.mir hR.ok.r0 hR.ok.r1 (by omega)
 have same : ∀ {β : Type} (K : Bool → Option β),YD.f k O O K = K true := fun K => YD.f_of (sameObjs_t wO hk) K
 have hS : Yau.t k O rev next L rev₁ = some ((YaT O rev next L rev₁).1,(YaT O rev next L rev₁).2) := impl_Since_t wO wL hk
 have hL : Yaz.t k O rev next L = some (rev,Zc O) := by rw [impl_List_t wO wL hk,listV_good wO wL hR.ok]
 have hC : Yar.t k rev₁ O₁ O rev next L = some (rev,Zc O,(YaT O rev next L rev₁).2) := by rw [impl_CatchUp_t wO₁ wO wL hk,catch_runs wO wL h₁ hR]
 simp only [ZK]
 rw [Yar.f_of hC,Yaz.f_of hL,bne_self_eq_false]
 simp only [cond_false,ZK]
 rw [same,same]
 simp only [Bool.not_true,cond_false]
 rw [mirrorI_fv wO hk,hm]
 simp only [Bool.not_true,cond_false]
 rw [Yau.f_of hS]
 simp only [BEq.rfl,Bool.not_true,cond_false]
 rcases since_runs wO wL h₁ hR with e | ⟨xs,e,hf,gx⟩
 ·rw [e]
  simp only [C.immRows]
  refine iter_seq (f := fun _ => ((0 : Int),rev₁,Zc O₁)) (n := 0) (by omega) (fun L t ht => absurd ht (Nat.not_lt_zero _)) (fun L => ?_)
  rfl
 ·rw [e]
  simp only [ZK]
  have hxl := gx.1
  refine Ya0 (fun v => ((xs.length : Int) - v.1).toNat) (fun v => 0 ≤ v.1 ∧ v.1 ≤ (xs.length : Int) ∧ ∃ l,v.2.2 = Zc l ∧ ZB Robj lim l ∧ mirB v.2.1 l = true ∧ YaD v.2.1 l (xs.drop v.1.toNat) = some (rev,O)) (fun o => o = some true) ?_ (v := ((0 : Int),rev₁,Zc O₁)) ⟨by simp,by simp,O₁,rfl,wO₁,h₁.ob.mir h₁.r0 h₁.r1 (by omega),hf⟩ (by show ((xs.length : Int) - 0).toNat < k; omega)
  rintro ⟨n,a,cl⟩ ⟨n0,n1,l,ecl,gl,ml,fl⟩ F hF
  replace n0 : 0 ≤ n := n0
  replace n1 : n ≤ (xs.length : Int) := n1
  replace ecl : cl = Zc l := ecl
  replace ml : mirB a l = true := ml
  replace fl : YaD a l (xs.drop n.toNat) = some (rev,O) := fl
  subst ecl
  by_cases hlt : n < (xs.length : Int)
  ·have hni : n.toNat < xs.length := by omega
   have hnn : ((n.toNat : Nat) : Int) = n := Int.toNat_of_nonneg n0
   rw [drop_cons_g hni] at fl
   have hr := gx.2 _ (gR_mem n0 hlt)
   rw [hnn] at fl
   unfold YaD at fl
   cases hs : stepV a l (gR xs n) with
   | none => rw [hs] at fl; cases fl
   | some u =>
    rw [hs] at fl
    have fl : YaD u.1 u.2 (xs.drop (n.toNat + 1)) = some (rev,O) := fl
    obtain ⟨q1,q2⟩ := stepV_some hs
    obtain ⟨-,l60,-,-⟩ := Ybh gl ml
    have gu := stepF_ok gl l60 hr q1
    have hone : YaD a l [gR xs n] = some u := by
     unfold YaD
     rw [hs]
     rfl
    have gone : ZB Rlog lim [gR xs n] := ⟨by rw [List.length_singleton]; omega,fun r q => by rw [List.mem_singleton] at q; rw [q]; exact hr⟩
    have key : YO.t k a l [gR xs n] = some (u.1,Zc u.2,true) := by
     rw [impl_Follow_t gl gone hk,ml,hone]
     rfl
    have hw : IntKind.wrap .i64 (n + 1) = n + 1 := Z9 (by omega) (by omega)
    have htk : (xs.drop n.toNat).take ((n + 1).toNat - n.toNat) = [gR xs n] := by
     rw [drop_cons_g hni,hnn,show (n + 1).toNat - n.toNat = 1 by omega]
     rfl
    simp only [YQ.l0,ZY hlt,cond_true,hw]
    rw [ZH ⟨n0,by omega,by omega,rows19 gx.2⟩,htk,ZK,YO.f_of key]
    simp only [Bool.not_true,cond_false]
    exact hF _ ⟨by show 0 ≤ n + 1; omega,by show n + 1 ≤ (xs.length : Int); omega,u.2,rfl,gu,q2,by show YaD u.1 u.2 (xs.drop (n + 1).toNat) = _; rw [show (n + 1).toNat = n.toNat + 1 by omega]; exact fl⟩ (by show ((xs.length : Int) - (n + 1)).toNat < ((xs.length : Int) - n).toNat; omega)
  ·have hdn : xs.drop n.toNat = [] := List.drop_eq_nil_of_le (by omega)
   rw [hdn] at fl
   unfold YaD at fl
   injection fl with fl
   injection fl with f1 f2
   subst f1 f2
   simp only [YQ.l0,ZZ hlt,cond_false,Bool.not_true,BEq.rfl,cond_true,ZK]
   rw [same]
end Go.Proofs.Ytpgplbalenfgfaa
