/- Printed,and by hand: the functions that FnSkipped reaches come to their end; the program's answer as the reference's. -/
import Derived.Test.YtpgplbalenfgfaaYFnSkipped0
import Derived.KernelRfl
set_option linter.unusedVariables false
set_option linter.unusedSimpArgs false
namespace Go.Proofs.Ytpgplbalenfgfaa
open Go Go.T Go.Proofs
theorem cmp_zero : ∀ (a b : List UInt8),(Go.Lib.compareBytes a b == 0) = (a == b)
 | [],[] => by simp [Go.Lib.compareBytes]
 | [],_ :: _ => by simp [Go.Lib.compareBytes]
 | _ :: _,[] => by simp [Go.Lib.compareBytes]
 | x :: a,y :: b => by
  have ih := cmp_zero a b
  unfold Go.Lib.compareBytes
  by_cases h : x < y
  ·have : x ≠ y := fun e => by subst e; exact absurd h (UInt8.lt_irrefl _)
   simp [h,this]
  ·by_cases h2 : y < x
   ·have : x ≠ y := fun e => by subst e; exact absurd h2 (UInt8.lt_irrefl _)
    simp [h,h2,this]
   ·have e : x = y := by
     refine UInt8.toNat_inj.mp ?_
     have h1 : ¬ x.toNat < y.toNat := fun q => h (UInt8.lt_iff_toNat_lt.mpr q)
     have h3 : ¬ y.toNat < x.toNat := fun q => h2 (UInt8.lt_iff_toNat_lt.mpr q)
     omega
    subst e
    simpa [h] using ih
theorem cmpObjs2 {x0 : Int} {x1 : BA} {x2 x3 x4 : Int} {x5 : Bool} {x6 : LD} {x7 : Int} {x8 : BA} {x9 : Int} {x10 x11 : LD} {x12 : Int} {x13 : BA} {x14 : Int} {x15 x16 : LD} {y0 : Int} {y1 : BA} {y2 y3 y4 : Int} {y5 : Bool} {y6 : LD} {y7 : Int} {y8 : BA} {y9 : Int} {y10 y11 : LD} {y12 : Int} {y13 : BA} {y14 : Int} {y15 y16 : LD} {k : Nat} :
  ∃ c : Int,decide (c < 0) = lessV x0 x1 y0 y1 ∧ (c == 0) = ((x0 == y0) && Zae x1 y1) ∧ ∀ {β : Type} (K : Int → Option β),Y9.f k x0 x1 x2 x3 x4 x5 x6 x7 x8 x9 x10 x11 x12 x13 x14 x15 x16 y0 y1 y2 y3 y4 y5 y6 y7 y8 y9 y10 y11 y12 y13 y14 y15 y16 K = K c := by
 have hn : ∀ {n : Int} {β : Type} (K : Bool → Option β),Yab.f k n K = K false := fun {n β} K => Yab.f_of (by unfold Yab.t Yab.g; simp) K
 have hc : ∀ {β : Type} (K : Int → Option β),Y5.f k x0 y0 K = K (if x0 < y0 then -1 else if x0 > y0 then 1 else 0) := fun K => Y5.f_of (by
  unfold Y5.t Y5.g
  simp only [hn,cond_false]
  by_cases h1 : x0 < y0
  ·simp [h1]
  ·by_cases h2 : x0 > y0 <;> simp [h1,h2]) K
 have hs : ∀ {β : Type} (K : Int → Option β),Y2.f k x1 y1 K = K (cmpS x1 y1) := fun K => Y2.f_of (by unfold Y2.t Y2.g; rfl) K
 refine ⟨if x0 < y0 then -1 else if x0 > y0 then 1 else cmpS x1 y1,?_,?_,fun {β} K => Y9.f_of ?_ K⟩
 ·have hneg : ∀ c : Int,decide (c < 0) = !decide (c ≥ 0) := fun c => by by_cases h : c < 0 <;> simp [h]; omega
  unfold lessV
  by_cases h1 : x0 < y0
  ·simp [h1]
  ·by_cases h2 : x0 > y0
   ·have h3 : ¬ x0 = y0 := by omega
    simp [h1,h2,h3]
   ·have h3 : x0 = y0 := by omega
    subst h3
    simp only [h1,gt_iff_lt,if_false,decide_false,Bool.false_or,beq_self_eq_true,Bool.true_and]
    rw [hneg,cmpS_less,Bool.not_not]
 ·by_cases h1 : x0 < y0
  ·have h3 : ¬ x0 = y0 := by omega
   simp [h1,h3]
  ·by_cases h2 : x0 > y0
   ·have h3 : ¬ x0 = y0 := by omega
    simp [h1,h2,h3]
   ·have h3 : x0 = y0 := by omega
    subst h3
    simp only [h1,gt_iff_lt,if_false,beq_self_eq_true,Bool.true_and]
    unfold cmpS Zae
    rw [cmp_zero,Go.Lib.toList_data,Go.Lib.toList_data]
 ·unfold Y9.t Y9.g
  simp only [hc,hs]
  by_cases h1 : x0 < y0
  ·simp [h1]
  ·by_cases h2 : x0 > y0 <;> simp [h1,h2]
theorem Yaa.f_of {β : Type} {k aB aA z0} (h : Yaa.t k aB aA = some z0) (K : Bool → Option β) : Yaa.f k aB aA K = K z0 := by unfold Yaa.f; rw [h]; rfl
theorem YJ.f_of {β : Type} {k a0 z0} (h : YJ.t k a0 = some z0) (K : LC → Option β) : YJ.f k a0 K = K z0 := by unfold YJ.f; rw [h]; rfl
theorem clone_string_fv {a : LD} (g : ZB RS lim a) {k : Nat} {β : Type} (K : LC → Option β) : YJ.f k a K = K (a.map (·.map C.d)) := YJ.f_of (by
 have hl := g.1
 have hlim : lim = 1048576 := rfl
 have hm : Z8 = 2 ^ 36 := rfl
 unfold YJ.t YJ.g
 rw [ZH (RS.flat g.2),ZH (by simp only [List.length_nil,map_len]; omega),List.nil_append]
 exact nilSl_same) K
theorem Yk.f_of {β : Type} {k aB aA aC aD aI z0 z1 z2 z3 z4} (h : Yk.t k aB aA aC aD aI = some (z0,z1,z2,z3,z4)) (K : Int → BA → Int → LC → LC → Option β) : Yk.f k aB aA aC aD aI K = K z0 z1 z2 z3 z4 := by unfold Yk.f Yk.w; rw [h]; rfl
set_option maxRecDepth 100000 in
theorem copyVal (n : Nat) : ∀ (c0 : Int) (c1 : BA) (c2 : Int) (c3 c4 : LD),ZB RS lim c3 → c4.length ≤ lim → (∀ x ∈ c4,Yak lim n x) → ∀ {k : Nat},big + n + 1 ≤ k → Yk.t k c0 c1 c2 c3 c4 = some (c0,c1,c2,Zc c3,Zc c4) := by
 have hm : Z8 = 2 ^ 36 := rfl
 have hlim : lim = 1048576 := rfl
 have hb : big = 2 ^ 64 := rfl
 induction n using Nat.strongRecOn with
 | ind n ih =>
 intro c0 c1 c2 c3 c4 g3 l4 g4 k hk
 obtain ⟨k,rfl⟩ : ∃ k',k = k' + 1 := ⟨k - 1,by omega⟩
 rw [Yk.t_succ]
 unfold Yk.g Yk.body
 rw [clone_string_fv g3]
 refine (ZbT (xs := c4) (r := some (c0,c1,c2,c3.map (·.map C.d),Zc c4)) (by omega) (fun L i hi => ?_) (fun L => ?_)).trans (by rw [RS.deep g3.2])
 ·have hl : (Zc (c4.take i)).length = i := by rw [ZS,List.length_take]; omega
  obtain ⟨n',hn',d0,d1,d2,d3,d4,e,w0,w1,w2,w3,w4,w5⟩ : ∃ n',n = n' + 1 ∧ ∃ d0 d1 d2 d3 d4,gR c4 (i : Int) = [.int .i64 d0,.str d1,.int .i64 d2,.sl d3,.sl d4] ∧ (Lit.int .i64 d0).wf = true ∧ d1.size ≤ lim ∧ (Lit.int .i64 d2).wf = true ∧ ZB RS lim d3 ∧ d4.length ≤ lim ∧ ∀ x ∈ d4,Yak lim n' x := by
   have := g4 _ (gR_mem (xs := c4) (v := (i : Int)) (by omega) (by omega))
   generalize gR c4 (i : Int) = r at this
   cases this with
   | mk e0 e1 e2 e3 e4 w0 p1 w2 p3 p4 p5 => exact ⟨_,rfl,_,_,_,_,_,rfl,w0,p1,w2,p3,p4,p5⟩
  simp (disch := omega) only [Yk.l0,atR,rdQ,Q.ask,ZY (show (i : Int) < c4.length by omega),cond_true,Zck (xs := c4) (v := (i : Int)),e,Z4,Z5,ZaQ,Zbl,Zan,Yk.f_of (ih n' (by omega) d0 d1 d2 d3 d4 w3 w4 w5 (k := k) (by omega)),Z9]
  rw [ZH (by rw [hl,List.length_singleton]; omega)]
  simp only [ZN,deepD]
 ·simp only [Yk.l0,atR,rdQ,Q.ask,ZZ (show ¬ (c4.length : Int) < c4.length by omega),cond_false]
set_option maxRecDepth 100000 in
theorem l4CopyVal (n : Nat) : ∀ (c0 : Int) (c1 : BA) (c2 : Int) (c3 c4 : LD),ZB RS lim c3 → c4.length ≤ lim → (∀ x ∈ c4,Yak lim n x) → ∀ {k : Nat},big + n + 1 ≤ k → Yt.t k c0 c1 c2 c3 c4 = some (c0,c1,c2,Zc c3,Zc c4) := by
 have hm : Z8 = 2 ^ 36 := rfl
 have hlim : lim = 1048576 := rfl
 have hb : big = 2 ^ 64 := rfl
 induction n using Nat.strongRecOn with
 | ind n ih =>
 intro c0 c1 c2 c3 c4 g3 l4 g4 k hk
 have l3 := g3.1
 obtain ⟨k,rfl⟩ : ∃ k',k = k' + 1 := ⟨k - 1,by omega⟩
 rw [Yt.t_succ]
 unfold Yt.g Yt.body
 rw [ZH (RS.flat g3.2),ZH (by simp only [List.length_nil,map_len]; omega),List.nil_append]
 refine (ZbT (xs := c4) (r := some (c0,c1,c2,c3.map (·.map C.d),Zc c4)) (by omega) (fun L i hi => ?_) (fun L => ?_)).trans (by rw [RS.deep g3.2])
 ·have hl : (Zc (c4.take i)).length = i := by rw [ZS,List.length_take]; omega
  obtain ⟨n',hn',d0,d1,d2,d3,d4,e,w0,w1,w2,w3,w4,w5⟩ : ∃ n',n = n' + 1 ∧ ∃ d0 d1 d2 d3 d4,gR c4 (i : Int) = [.int .i64 d0,.str d1,.int .i64 d2,.sl d3,.sl d4] ∧ (Lit.int .i64 d0).wf = true ∧ d1.size ≤ lim ∧ (Lit.int .i64 d2).wf = true ∧ ZB RS lim d3 ∧ d4.length ≤ lim ∧ ∀ x ∈ d4,Yak lim n' x := by
   have := g4 _ (gR_mem (xs := c4) (v := (i : Int)) (by omega) (by omega))
   generalize gR c4 (i : Int) = r at this
   cases this with
   | mk e0 e1 e2 e3 e4 w0 p1 w2 p3 p4 p5 => exact ⟨_,rfl,_,_,_,_,_,rfl,w0,p1,w2,p3,p4,p5⟩
  simp (disch := omega) only [Yt.l0,atR,rdQ,Q.ask,ZY (show (i : Int) < c4.length by omega),cond_true,Zck (xs := c4) (v := (i : Int)),e,Z4,Z5,ZaQ,Zbl,Zan,Yt.f_of (ih n' (by omega) d0 d1 d2 d3 d4 w3 w4 w5 (k := k) (by omega)),Z9]
  rw [ZH (by rw [hl,List.length_singleton]; omega)]
  simp only [ZN,deepD]
 ·simp only [Yt.l0,atR,rdQ,Q.ask,ZZ (show ¬ (c4.length : Int) < c4.length by omega),cond_false]
theorem value_h {xs : LD} (g : ZB Ys lim xs) : ∀ x ∈ xs,Yak lim 1099511627776 x := fun x hx => by
 obtain ⟨h,hh,hx⟩ := g.2 x hx
 exact hx.mono (hh (by decide))
theorem copyValue_fv {c0 c2 : Int} {c1 : BA} {c3 c4 : LD} (g3 : ZB RS lim c3) (g4 : ZB Ys lim c4) {k : Nat} (hk : Zai 1 k) {β : Type} (K : Int → BA → Int → LC → LC → Option β) : Yk.f k c0 c1 c2 c3 c4 K = K c0 c1 c2 (Zc c3) (Zc c4) :=
 Yk.f_of (copyVal 1099511627776 c0 c1 c2 c3 c4 g3 g4.1 (value_h g4) (Nat.le_trans (big_lv1 (n := 1099511627776 + 1) (by omega)) hk)) K
theorem l4Copy_fv {c0 c2 : Int} {c1 : BA} {c3 c4 : LD} (g3 : ZB RS lim c3) (g4 : ZB Ys lim c4) {k : Nat} (hk : Zai 1 k) {β : Type} (K : Int → BA → Int → LC → LC → Option β) : Yt.f k c0 c1 c2 c3 c4 K = K c0 c1 c2 (Zc c3) (Zc c4) :=
 Yt.f_of (l4CopyVal 1099511627776 c0 c1 c2 c3 c4 g3 g4.1 (value_h g4) (Nat.le_trans (big_lv1 (n := 1099511627776 + 1) (by omega)) hk)) K
set_option maxRecDepth 100000 in
theorem sameVal (n : Nat) : ∀ (c0 : Int) (c1 : BA) (c2 : Int) (c3 c4 : LD),ZB RS lim c3 → c4.length ≤ lim → (∀ x ∈ c4,Yak lim n x) → ∀ {k : Nat},big + n + 1 ≤ k → Yf.t k c0 c1 c2 c3 c4 c0 c1 c2 c3 c4 = some true := by
 have hlim : lim = 1048576 := rfl
 have hb : big = 2 ^ 64 := rfl
 induction n using Nat.strongRecOn with
 | ind n ih =>
 intro c0 c1 c2 c3 c4 g3 l4 g4 k hk
 have l3 := g3.1
 obtain ⟨k,rfl⟩ : ∃ k',k = k' + 1 := ⟨k - 1,by omega⟩
 rw [Yf.t_succ]
 unfold Yf.g Yf.body Yf.m
 simp only [bne_self_eq_false,strEq_self,Bool.not_true,cond_false]
 refine iter_seq (f := fun t => (t : Int)) (n := c3.length) (by omega) (fun L t ht => ?_) (fun L => ?_)
 ·simp (disch := omega) only [Yf.l0,Yf.m0,atR,rdQ,Q.ask,ZY (show (t : Int) < (c3.length : Int) by omega),cond_true,RS.row g3,Z4,ZaQ,Zan,strEq_self,Bool.not_true,cond_false,Z9]
  rfl
 ·simp only [Yf.l0,Yf.m0,atR,rdQ,Q.ask]
  rw [ZZ (by omega)]
  simp only [cond_false]
  refine iter_seq (f := fun t => (t : Int)) (n := c4.length) (by omega) (fun L i hi => ?_) (fun L => ?_)
  ·obtain ⟨n',hn',d0,d1,d2,d3,d4,e,w0,w1,w2,w3,w4,w5⟩ : ∃ n',n = n' + 1 ∧ ∃ d0 d1 d2 d3 d4,gR c4 (i : Int) = [.int .i64 d0,.str d1,.int .i64 d2,.sl d3,.sl d4] ∧ (Lit.int .i64 d0).wf = true ∧ d1.size ≤ lim ∧ (Lit.int .i64 d2).wf = true ∧ ZB RS lim d3 ∧ d4.length ≤ lim ∧ ∀ x ∈ d4,Yak lim n' x := by
    have := g4 _ (gR_mem (xs := c4) (v := (i : Int)) (by omega) (by omega))
    generalize gR c4 (i : Int) = r at this
    cases this with
    | mk e0 e1 e2 e3 e4 w0 p1 w2 p3 p4 p5 => exact ⟨_,rfl,_,_,_,_,_,rfl,w0,p1,w2,p3,p4,p5⟩
   simp (disch := omega) only [Yf.l1,atR,rdQ,Q.ask,ZY (show (i : Int) < (c4.length : Int) by omega),cond_true,Zck (xs := c4) (v := (i : Int)),e,Z4,Z5,ZaQ,Zbl,Zan,Yf.f_of (ih n' (by omega) d0 d1 d2 d3 d4 w3 w4 w5 (k := k) (by omega)),Bool.not_true,cond_false,Z9]
   rfl
  ·simp only [Yf.l1,atR,rdQ,Q.ask]
   rw [ZZ (by omega)]
   rfl
theorem sameValue_f {c0 c2 : Int} {c1 : BA} {c3 c4 : LD} (g3 : ZB RS lim c3) (g4 : ZB Ys lim c4) {k : Nat} (hk : Zai 1 k) {β : Type} (K : Bool → Option β) : Yf.f k c0 c1 c2 c3 c4 c0 c1 c2 c3 c4 K = K true :=
 Yf.f_of (sameVal 1099511627776 c0 c1 c2 c3 c4 g3 g4.1 (value_h g4) (Nat.le_trans (big_lv1 (n := 1099511627776 + 1) (by omega)) hk)) K
theorem Yai.f_of {β : Type} {k : Nat} {aB : Int} {aA : BA} {aC aD aI : Int} {bV : Bool} {bJ : LD} {bQ : Int} {bK : BA} {bR : Int} {bL bM : LD} {bT : Int} {bN : BA} {bU : Int} {bO bP : LD} {z0 : Int} {z1 : BA} {z2 z3 z4 : Int} {z5 : Bool} {z6 : LC} {z7 : Int} {z8 : BA} {z9 : Int} {z10 z11 : LC} {z12 : Int} {z13 : BA} {z14 : Int} {z15 z16 : LC} (h : Yai.t k aB aA aC aD aI bV bJ bQ bK bR bL bM bT bN bU bO bP = some (z0,z1,z2,z3,z4,z5,z6,z7,z8,z9,z10,z11,z12,z13,z14,z15,z16)) (K : Int → BA → Int → Int → Int → Bool → LC → Int → BA → Int → LC → LC → Int → BA → Int → LC → LC → Option β) : Yai.f k aB aA aC aD aI bV bJ bQ bK bR bL bM bT bN bU bO bP K = K z0 z1 z2 z3 z4 z5 z6 z7 z8 z9 z10 z11 z12 z13 z14 z15 z16 := by
 unfold Yai.f
 rw [h]
theorem YaU {x0 : Int} {x1 : BA} {x2 x3 x4 : Int} {x5 : Bool} {x6 : LD} {x7 : Int} {x8 : BA} {x9 : Int} {x10 x11 : LD} {x12 : Int} {x13 : BA} {x14 : Int} {x15 x16 : LD} (g6 : ZB RS lim x6) (g10 : ZB RS lim x10) (g11 : ZB Ys lim x11) (g15 : ZB RS lim x15) (g16 : ZB Ys lim x16) {k : Nat} (hk : Zai 1 k) {β : Type} (K : Int → BA → Int → Int → Int → Bool → LC → Int → BA → Int → LC → LC → Int → BA → Int → LC → LC → Option β) : Y6.f k x0 x1 x2 x3 x4 x5 x6 x7 x8 x9 x10 x11 x12 x13 x14 x15 x16 K = K x0 x1 x2 x3 x4 x5 (Zc x6) x7 x8 x9 (Zc x10) (Zc x11) x12 x13 x14 (Zc x15) (Zc x16) := Y6.f_of (by
 have hm : Z8 = 2 ^ 36 := rfl
 have hlim : lim = 1048576 := rfl
 have l := g6.1
 unfold Y6.t Y6.g
 rw [ZH (RS.flat g6.2),ZH (by simp only [List.length_nil,map_len]; omega),List.nil_append,l4Copy_fv g10 g11 hk,l4Copy_fv g15 g16 hk,← RS.deep g6.2]) K
theorem copyObj_fv {x0 : Int} {x1 : BA} {x2 x3 x4 : Int} {x5 : Bool} {x6 : LD} {x7 : Int} {x8 : BA} {x9 : Int} {x10 x11 : LD} {x12 : Int} {x13 : BA} {x14 : Int} {x15 x16 : LD} (g6 : ZB RS lim x6) (g10 : ZB RS lim x10) (g11 : ZB Ys lim x11) (g15 : ZB RS lim x15) (g16 : ZB Ys lim x16) {k : Nat} (hk : Zai 1 k) {β : Type} (K : Int → BA → Int → Int → Int → Bool → LC → Int → BA → Int → LC → LC → Int → BA → Int → LC → LC → Option β) : Yai.f k x0 x1 x2 x3 x4 x5 x6 x7 x8 x9 x10 x11 x12 x13 x14 x15 x16 K = K x0 x1 x2 x3 x4 x5 (Zc x6) x7 x8 x9 (Zc x10) (Zc x11) x12 x13 x14 (Zc x15) (Zc x16) := Yai.f_of (by
 unfold Yai.t Yai.g
 rw [clone_string_fv g6,copyValue_fv g10 g11 hk,copyValue_fv g15 g16 hk,← RS.deep g6.2]) K
set_option maxRecDepth 10000 in
theorem l7CopyLog_fv {a : LD} (g : ZB Yb lim a) {k : Nat} (hk : Zai 1 k) {β : Type} (K : LC → Option β) : YD.f k a K = K (Zc a) := YD.f_of (by
 have hm : Z8 = 2 ^ 36 := rfl
 have hlim : lim = 1048576 := rfl
 have hb : big = 2 ^ 64 := rfl
 have hk0 : big ≤ k := up0 hk
 have l := g.1
 unfold YD.t YD.g
 refine ZbT (xs := a) (by omega) (fun L i hi => ?_) (fun L => ?_)
 ·have hl : (Zc (a.take i)).length = i := by rw [ZS,List.length_take]; omega
  obtain ⟨e,-,-,-,-,-,-,k6,-,-,-,k10,k11,-,-,-,k15,k16,-⟩ := Yb.get g (v := (i : Int)) (by omega) (by omega)
  unfold YD.l0; simp only [atR,rdQ,Q.ask]
  simp (disch := omega) only [ZY (show (i : Int) < a.length by omega),cond_true,Zck (xs := a) (v := (i : Int)),e,Z4,Z5,ZaQ,ZaV,Zbl,Zan,YaU k6 k10 k11 k15 k16 hk,Z9]
  rw [ZH (by rw [hl,List.length_singleton]; omega)]
  simp only [ZN,deepD]
 ·unfold YD.l0; simp only [atR,rdQ,Q.ask]
  simp only [ZZ (show ¬ (a.length : Int) < a.length by omega),cond_false]) K
def sinceL (d : LD) (n : Int) : LD := d.filter fun r => !decide (rI r 0 ≤ n)
noncomputable def sinceV (a : LD) (b c : Int) (d : LD) (n : Int) : LC × Bool :=
 bif Yr.v a b c d && inB n 0 b then (bif decide (((sinceL d n).length : Int) < IntKind.wrap .i64 (b - n)) then ([],false) else (Zc (sinceL d n),true)) else ([],false)
theorem sinceL_ok {d : LD} {n : Int} {B : Nat} (g : ZB Yb B d) : ZB Yb B (sinceL d n) := ⟨Nat.le_trans (List.length_filter_le _ _) g.1,fun r hr => g.2 r (List.mem_filter.mp hr).1⟩
set_option maxRecDepth 100000 in
theorem spec_Since_t {a : LD} {b c n : Int} {d : LD} (g0 : ZB Ya lim a) (g3 : ZB Yb lim d) {k : Nat} (hk : Zai 1 k) : Y7.t k a b c d n = some (sinceV a b c d n) := by
 have hm : Z8 = 2 ^ 36 := rfl
 have hlim : lim = 1048576 := rfl
 have hb : big = 2 ^ 64 := rfl
 have hk0 : big ≤ k := up0 hk
 have l := g3.1
 unfold Y7.t Y7.g sinceV
 rw [Yr.fv g0 g3 hk]
 simp only [l1In_fv]
 cases Yr.v a b c d
 ·rfl
 cases inB n 0 b
 ·rfl
 simp only [Bool.not_true,cond_false,cond_true,Bool.true_and]
 refine iter_seq (f := fun j => ((j : Int),(sinceL (d.take j) n).map (·.map C.d))) (n := d.length) (by omega) (fun L i hi => ?_) (fun L => ?_)
 ·obtain ⟨e,-⟩ := Yb.get g3 (v := (i : Int)) (by omega) (by omega)
  have ht : d.take (i + 1) = d.take i ++ [gR d (i : Int)] := by
   have := gR_at (xs := d) (v := (i : Int)) (by omega) (by omega)
   rw [Int.toNat_natCast] at this
   rw [List.take_add_one,this]; rfl
  have hdl : (sinceL (d.take i) n).length ≤ i := Nat.le_trans (List.length_filter_le _ _) (by rw [List.length_take]; omega)
  have hdr : sinceL (d.take (i + 1)) n = sinceL (d.take i) n ++ (bif decide (gI d (i : Int) 0 ≤ n) then [] else [gR d (i : Int)]) := by
   unfold sinceL
   rw [ht,List.filter_append]
   congr 1
   rw [List.filter_cons]
   show (if (!decide (gI d (i : Int) 0 ≤ n)) = true then _ else _) = _
   cases decide (gI d (i : Int) 0 ≤ n) <;> rfl
  rw [hdr]
  simp (disch := omega) only [Y7.l0,atR,rdQ,Q.ask,ZY (show (i : Int) < d.length by omega),cond_true,Yb.row g3,Z4,Z5,ZaQ,ZaV,Zbl,Zan,Z9]
  by_cases h : gI d (i : Int) 0 ≤ n
  ·rw [ZY h,ZZ (show ¬ gI d (i : Int) 0 > n by omega)]
   simp
  ·rw [ZZ h,ZY (show gI d (i : Int) 0 > n by omega)]
   simp only [cond_true,cond_false]
   rw [ZH (by simp only [map_len,List.length_singleton]; omega),e]
   simp
 ·rw [List.take_length]
  simp only [Y7.l0,atR,rdQ,Q.ask,ZZ (show ¬ (d.length : Int) < d.length by omega),cond_false,map_len,imm_rows,l7CopyLog_fv (sinceL_ok g3) hk]
  cases decide (((sinceL d n).length : Int) < IntKind.wrap .i64 (b - n)) <;> rfl
theorem wt_filter (p : List D → Bool) : ∀ (d : LD),Zu (d.filter p) ≤ Zu d
 | [] => Nat.le_refl _
 | r :: d => by
  have := wt_filter p d
  rw [List.filter_cons]
  split
  ·simp only [Zu]; omega
  ·simp only [Zu]; omega
theorem with_step {l : LD} {o o' : List D} {i : Nat} (hi : i < l.length) {put : Bool} : YaK Yat YaO o o' put (l.drop i) = (if !put && !Yat l[i] o then [o'] else []) ++ ((if YaO l[i] o then [] else [l[i]]) ++ YaK Yat YaO o o' (put || !Yat l[i] o) (l.drop (i + 1))) := by
 rw [List.drop_eq_getElem_cons hi]
 conv => lhs; unfold YaK
theorem withF_nil {α : Type} {less same : α → α → Bool} {o o' : α} {put : Bool} : YaK less same o o' put [] = if put then [] else [o'] := by unfold YaK; rfl
theorem gR_lt {l : LD} {i : Nat} (hi : i < l.length) : gR l (i : Int) = l[i] := by
 unfold gR
 rw [Int.toNat_natCast,List.getD_eq_getElem?_getD,List.getElem?_eq_getElem hi]
 rfl
theorem less_gR {l : LD} {i : Nat} (hi : i < l.length) (o : List D) : Yat l[i] o = lessV (gI l (i : Int) 0) (gS l (i : Int) 1) (rI o 0) (rS o 1) := by
 rw [← gR_lt hi]
 rfl
theorem same_gR {l : LD} {i : Nat} (hi : i < l.length) (o : List D) : YaO l[i] o = ((gI l (i : Int) 0 == rI o 0) && Zae (gS l (i : Int) 1) (rS o 1)) := by
 rw [← gR_lt hi]
 rfl
set_option maxRecDepth 100000 in
set_option maxHeartbeats 8000000 in
theorem l7With_fv {l : LD} (g : ZB Ya lim l) {x0 : Int} {x1 : BA} {x2 x3 x4 : Int} {x5 : Bool} {x6 : LD} {x7 : Int} {x8 : BA} {x9 : Int} {x10 x11 : LD} {x12 : Int} {x13 : BA} {x14 : Int} {x15 x16 : LD} (g6 : ZB RS lim x6) (g10 : ZB RS lim x10) (g11 : ZB Ys lim x11) (g15 : ZB RS lim x15) (g16 : ZB Ys lim x16) {k : Nat} (hk : Zai 1 k) :
  ∃ ys,YM.t k l x0 x1 x2 x3 x4 x5 x6 x7 x8 x9 x10 x11 x12 x13 x14 x15 x16 = some ys ∧ C.immRows ys = YaK Yat YaO [.int .i64 x0,.str x1,.int .i64 x2,.int .i64 x3,.int .i64 x4,.bool x5,.sl x6,.int .i64 x7,.str x8,.int .i64 x9,.sl x10,.sl x11,.int .i64 x12,.str x13,.int .i64 x14,.sl x15,.sl x16] [.int .i64 x0,.str x1,.int .i64 x2,.int .i64 x3,.int .i64 x4,.bool x5,.sl x6,.int .i64 x7,.str x8,.int .i64 x9,.sl x10,.sl x11,.int .i64 x12,.str x13,.int .i64 x14,.sl x15,.sl x16] false l := by
 have hlim : lim = 1048576 := rfl
 have hm : Z8 = 2 ^ 36 := rfl
 have hb : big = 2 ^ 64 := rfl
 have hl := g.1
 have hk0 : Fuel k := up0 hk
 generalize ho : ([.int .i64 x0,.str x1,.int .i64 x2,.int .i64 x3,.int .i64 x4,.bool x5,.sl x6,.int .i64 x7,.str x8,.int .i64 x9,.sl x10,.sl x11,.int .i64 x12,.str x13,.int .i64 x14,.sl x15,.sl x16] : List D) = o
 have hcp : C.immRows ([[.d (.int .i64 x0),.d (.str x1),.d (.int .i64 x2),.d (.int .i64 x3),.d (.int .i64 x4),.d (.bool x5),.own (Zc x6),.d (.int .i64 x7),.d (.str x8),.d (.int .i64 x9),.own (Zc x10),.own (Zc x11),.d (.int .i64 x12),.d (.str x13),.d (.int .i64 x14),.own (Zc x15),.own (Zc x16)]] : LC) = [o] := by
  simp only [C.immRows,C.immCells,C.imm,ZK,ho]
 have hr0 : rI o 0 = x0 := by rw [← ho]; rfl
 have hr1 : rS o 1 = x1 := by rw [← ho]; rfl
 unfold YM.t YM.g
 refine YaR (fun v => (l.length : Int).toNat - v.2.1.toNat) (fun v => 0 ≤ v.2.1 ∧ v.2.1 ≤ (l.length : Int) ∧ (v.2.2.length : Int) ≤ v.2.1 + (bif v.1 then 1 else 0) ∧ C.immRows v.2.2 ++ YaK Yat YaO o o v.1 (l.drop v.2.1.toNat) = YaK Yat YaO o o false l) (fun z => ∃ ys,z = some ys ∧ C.immRows ys = YaK Yat YaO o o false l) ?_ (v := (false,0,[])) ⟨by simp,by simp,by simp,by simp [C.immRows]⟩ (by unfold Fuel at hk0; show (l.length : Int).toNat - 0 < k; omega)
 rintro ⟨put,n,out⟩ ⟨n0,n1,hlen,heq⟩ L hL
 replace n0 : 0 ≤ n := n0
 obtain ⟨i,rfl⟩ : ∃ i : Nat,n = (i : Int) := ⟨n.toNat,by omega⟩
 replace n1 : (i : Int) ≤ (l.length : Int) := n1
 replace hlen : (out.length : Int) ≤ (i : Int) + (bif put then 1 else 0) := hlen
 have hput : (bif put then (1 : Int) else 0) ≤ 1 := by cases put <;> decide
 replace heq : C.immRows out ++ YaK Yat YaO o o put (l.drop (i : Int).toNat) = YaK Yat YaO o o false l := heq
 rw [Int.toNat_natCast] at heq
 have hw1 : IntKind.wrap .i64 ((i : Int) + 1) = (i : Int) + 1 := Z9 (by omega) (by omega)
 by_cases hi : i < l.length
 ·obtain ⟨hrow,-⟩ := Ya.gets g.2 (v := (i : Int)) (by omega) (by omega)
  rw [with_step hi,less_gR hi,same_gR hi,hr0,hr1] at heq
  rw [gR_lt hi] at hrow
  rw [hrow] at heq
  have next : ∀ (put' : Bool) (out' : LC),(out'.length : Int) ≤ (i : Int) + 1 + (bif put' then 1 else 0) → C.immRows out' ++ YaK Yat YaO o o put' (l.drop (i + 1)) = YaK Yat YaO o o false l → ∃ ys,L (put',(i : Int) + 1,out') = some ys ∧ C.immRows ys = YaK Yat YaO o o false l := fun put' out' q1 q2 =>
   hL _ ⟨by show 0 ≤ (i : Int) + 1; omega,by show (i : Int) + 1 ≤ _; omega,q1,by show C.immRows out' ++ YaK Yat YaO o o put' (l.drop ((i : Int) + 1).toNat) = _; rw [show ((i : Int) + 1).toNat = i + 1 by omega]; exact q2⟩ (by show (l.length : Int).toNat - ((i : Int) + 1).toNat < (l.length : Int).toNat - (i : Int).toNat; omega)
  simp (config := {maxSteps := 4000000}) (disch := omega) only [YM.l0,atR,rdQ,Q.ask,ZY (show (i : Int) < (l.length : Int) by omega),cond_true,Ya.row g,Z4,Z5,ZaQ,ZaV,Zbl,Zan,l7Less_fv,YaU g6 g10 g11 g15 g16 hk,hw1,List.length_append,List.length_singleton]
  have gd : ∀ {β : Type} (F : Option β),Zd (out.length + 1 ≤ Z8) F = F := fun F => ZH (by omega)
  have gd2 : ∀ {β : Type} (F : Option β),Zd (out.length + 1 + 1 ≤ Z8) F = F := fun F => ZH (by omega)
  simp only [gd,gd2]
  have hcl : C.immRows ([[.d (.int .i64 (gI l (i : Int) 0)),.d (.str (gS l (i : Int) 1)),.d (.int .i64 (gI l (i : Int) 2)),.d (.int .i64 (gI l (i : Int) 3)),.d (.int .i64 (gI l (i : Int) 4)),.d (.bool (gB l (i : Int) 5)),.d (.sl (gL l (i : Int) 6)),.d (.int .i64 (gI l (i : Int) 7)),.d (.str (gS l (i : Int) 8)),.d (.int .i64 (gI l (i : Int) 9)),.d (.sl (gL l (i : Int) 10)),.d (.sl (gL l (i : Int) 11)),.d (.int .i64 (gI l (i : Int) 12)),.d (.str (gS l (i : Int) 13)),.d (.int .i64 (gI l (i : Int) 14)),.d (.sl (gL l (i : Int) 15)),.d (.sl (gL l (i : Int) 16))]] : LC) = [l[i]] := by
   rw [hrow]
   simp only [C.immRows,C.immCells,C.imm]
  rw [← hrow] at heq
  generalize ([[.d (.int .i64 x0),.d (.str x1),.d (.int .i64 x2),.d (.int .i64 x3),.d (.int .i64 x4),.d (.bool x5),.own (Zc x6),.d (.int .i64 x7),.d (.str x8),.d (.int .i64 x9),.own (Zc x10),.own (Zc x11),.d (.int .i64 x12),.d (.str x13),.d (.int .i64 x14),.own (Zc x15),.own (Zc x16)]] : LC) = cp at hcp ⊢
  generalize ([[.d (.int .i64 (gI l (i : Int) 0)),.d (.str (gS l (i : Int) 1)),.d (.int .i64 (gI l (i : Int) 2)),.d (.int .i64 (gI l (i : Int) 3)),.d (.int .i64 (gI l (i : Int) 4)),.d (.bool (gB l (i : Int) 5)),.d (.sl (gL l (i : Int) 6)),.d (.int .i64 (gI l (i : Int) 7)),.d (.str (gS l (i : Int) 8)),.d (.int .i64 (gI l (i : Int) 9)),.d (.sl (gL l (i : Int) 10)),.d (.sl (gL l (i : Int) 11)),.d (.int .i64 (gI l (i : Int) 12)),.d (.str (gS l (i : Int) 13)),.d (.int .i64 (gI l (i : Int) 14)),.d (.sl (gL l (i : Int) 15)),.d (.sl (gL l (i : Int) 16))]] : LC) = cl at hcl ⊢
  have lcp : cp.length = 1 := by have := congrArg List.length hcp; rwa [YaZ,List.length_map] at this
  have lcl : cl.length = 1 := by have := congrArg List.length hcl; rwa [YaZ,List.length_map] at this
  generalize l[i] = li at *
  generalize lessV (gI l (i : Int) 0) (gS l (i : Int) 1) x0 x1 = bl at *
  generalize Zae (gS l (i : Int) 1) x1 = bs at *
  simp only [bne]
  generalize (gI l (i : Int) 0 == x0) = be at *
  cases put <;> cases bl <;> cases be <;> cases bs
  all_goals
   simp only [Bool.not_true,Bool.not_false,cond_true,cond_false,Bool.and_true,Bool.and_false,Bool.true_and,Bool.false_and,Bool.or_true,Bool.or_false,Bool.false_or,Bool.true_or,if_true,if_false,Bool.false_eq_true,List.nil_append] at heq ⊢
   simp only [cond_true,cond_false] at hlen
   first
   | exact next _ _ (by simp only [cond_true,cond_false]; omega) heq
   | exact next _ _ (by simp only [cond_true,cond_false,List.length_append]; omega) (by rw [Za3,hcl,List.append_assoc]; exact heq)
   | exact next _ _ (by simp only [cond_true,cond_false,List.length_append]; omega) (by rw [Za3,hcp,List.append_assoc]; exact heq)
   | exact next _ _ (by simp only [cond_true,cond_false,List.length_append]; omega) (by rw [Za3,Za3,hcp,hcl,List.append_assoc,List.append_assoc]; exact heq)
 ·have hle : l.length ≤ i := by omega
  rw [List.drop_eq_nil_of_le hle] at heq
  simp (config := {maxSteps := 4000000}) (disch := omega) only [YM.l0,atR,rdQ,Q.ask,ZZ (show ¬ (i : Int) < (l.length : Int) by omega),cond_false,YaU g6 g10 g11 g15 g16 hk,List.length_singleton]
  rw [withF_nil] at heq
  cases put with
  | true => exact ⟨out,rfl,by simpa using heq⟩
  | false =>
   rw [Bool.not_false,cond_true,ZH (by omega)]
   exact ⟨_,rfl,by rw [Za3,hcp]; simpa using heq⟩
theorem YG.f_of {β : Type} {k a0 z0} (h : YG.t k a0 = some z0) (K : LC → Option β) : YG.f k a0 K = K z0 := by unfold YG.f; rw [h]; rfl
set_option maxRecDepth 100000 in
theorem Ya5 {a : LD} (g : ZB Ya lim a) {k : Nat} (hk : Zai 1 k) {β : Type} (K : LC → Option β) : Yw.f k a K = K (Zc a) := Yw.f_of (by
 have hm : Z8 = 2 ^ 36 := rfl
 have hlim : lim = 1048576 := rfl
 have hb : big = 2 ^ 64 := rfl
 have hk0 : big ≤ k := up0 hk
 have l := g.1
 unfold Yw.t Yw.g
 refine ZbT (xs := a) (by omega) (fun L i hi => ?_) (fun L => ?_)
 ·have hl : (Zc (a.take i)).length = i := by rw [ZS,List.length_take]; omega
  obtain ⟨e,-,-,-,-,-,k6,-,-,-,k10,k11,-,-,-,k15,k16,-⟩ := Ya.get g (v := (i : Int)) (by omega) (by omega)
  simp (disch := omega) only [Yw.l0,atR,rdQ,Q.ask,ZY (show (i : Int) < a.length by omega),cond_true,Zck (xs := a) (v := (i : Int)),e,Z4,Z5,ZaQ,ZaV,Zbl,Zan,YaU k6 k10 k11 k15 k16 hk,Z9]
  rw [ZH (by rw [hl,List.length_singleton]; omega)]
  simp only [ZN,deepD]
 ·simp only [Yw.l0,atR,rdQ,Q.ask,ZZ (show ¬ (a.length : Int) < a.length by omega),cond_false]) K
set_option maxRecDepth 100000 in
theorem copyObjs_fv {a : LD} (g : ZB Ya lim a) {k : Nat} (hk : Zai 1 k) {β : Type} (K : LC → Option β) : YG.f k a K = K (Zc a) := YG.f_of (by
 have hm : Z8 = 2 ^ 36 := rfl
 have hlim : lim = 1048576 := rfl
 have hb : big = 2 ^ 64 := rfl
 have hk0 : big ≤ k := up0 hk
 have l := g.1
 unfold YG.t YG.g
 refine ZbT (xs := a) (by omega) (fun L i hi => ?_) (fun L => ?_)
 ·have hl : (Zc (a.take i)).length = i := by rw [ZS,List.length_take]; omega
  obtain ⟨e,-,-,-,-,-,k6,-,-,-,k10,k11,-,-,-,k15,k16,-⟩ := Ya.get g (v := (i : Int)) (by omega) (by omega)
  simp (disch := omega) only [YG.l0,atR,rdQ,Q.ask,ZY (show (i : Int) < a.length by omega),cond_true,Zck (xs := a) (v := (i : Int)),e,Z4,Z5,ZaQ,ZaV,Zbl,Zan,copyObj_fv k6 k10 k11 k15 k16 hk,Z9]
  rw [ZH (by rw [hl,List.length_singleton]; omega)]
  simp only [ZN,deepD]
 ·simp only [YG.l0,atR,rdQ,Q.ask,ZZ (show ¬ (a.length : Int) < a.length by omega),cond_false]) K
noncomputable def listV (a : LD) (b c : Int) (d : LD) : Int × LC := bif Yr.v a b c d then (b,Zc a) else (0,[])
theorem spec_List_t {a0 : LD} {a1 a2 : Int} {a3 : LD} (g0 : ZB Ya lim a0) (g3 : ZB Yb lim a3) {k : Nat} (hk : Zai 1 k) : YaG.t k a0 a1 a2 a3 = some (listV a0 a1 a2 a3) := by
 unfold YaG.t YaG.g listV
 rw [Yr.fv g0 g3 hk,Ya5 g0 hk]
 cases Yr.v a0 a1 a2 a3 <;> rfl
theorem YV.f_of {β : Type} {k aB aA z0 z1} (h : YV.t k aB aA = some (z0,z1)) (K : Int → LC → Option β) : YV.f k aB aA K = K z0 z1 := by unfold YV.f; rw [h]; rfl
theorem Yc.f_of {β : Type} {k a0 aP aQ aR aS aU aX aY aZ bA bB bC bD bE bF bG bH bI z0 z1} (h : Yc.t k a0 aP aQ aR aS aU aX aY aZ bA bB bC bD bE bF bG bH bI = some (z0,z1)) (K : Int → Bool → Option β) : Yc.f k a0 aP aQ aR aS aU aX aY aZ bA bB bC bD bE bF bG bH bI K = K z0 z1 := by unfold Yc.f; rw [h]; rfl
theorem halfF {x : Int} (h0 : 0 ≤ x) (h1 : x < 4611686018427387904) : Int.fdiv (IntKind.wrap .u64 (IntKind.wrap .i64 x)) (2 ^ (min (1 : Int).toNat 64)) = x / 2 := by
 rw [Z9 (by omega) (by omega)]
 have : IntKind.wrap .u64 x = x := by simp only [IntKind.wrap,IntKind.signed,IntKind.bits]; simp; omega
 rw [this,show (min (1 : Int).toNat 64) = 1 from rfl,Int.pow_one,Int.fdiv_eq_ediv_of_nonneg _ (by decide)]
def AscO (l : LD) : Prop := l.Pairwise fun x y => Yat x y = true
set_option maxRecDepth 100000 in
set_option maxHeartbeats 4000000 in
theorem binObj_fv {l : LD} (g : ZB Ya lim l) (ha : AscO l) {x0 : Int} {x1 : BA} {x2 x3 x4 : Int} {x5 : Bool} {x6 : LD} {x7 : Int} {x8 : BA} {x9 : Int} {x10 x11 : LD} {x12 : Int} {x13 : BA} {x14 : Int} {x15 x16 : LD} {o : List D} (h0 : rI o 0 = x0) (h1 : rS o 1 = x1) {k : Nat} (hk : Fuel k) {β : Type} (K : Int → Bool → Option β) :
  Yc.f k l x0 x1 x2 x3 x4 x5 x6 x7 x8 x9 x10 x11 x12 x13 x14 x15 x16 K = K (lbF Yat o l : Int) (hitF Yat YaO o l) := by
 have hlim : lim = 1048576 := rfl
 have hb : big = 2 ^ 64 := rfl
 have hl := g.1
 have hle : lbF Yat o l ≤ l.length := (List.takeWhile_sublist _).length_le
 refine Yc.f_of ?_ K
 unfold Yc.t Yc.g
 refine iter_val (fun v : Int × Int => (v.2 - v.1).toNat) (fun v => 0 ≤ v.1 ∧ v.1 ≤ (lbF Yat o l : Int) ∧ (lbF Yat o l : Int) ≤ v.2 ∧ v.2 ≤ (l.length : Int)) (fun _ => some ((lbF Yat o l : Int),hitF Yat YaO o l)) ?_ k _ ⟨by simp,by simp,by simp; omega,by simp⟩ (by show ((l.length : Int) - 0).toNat < k; unfold Fuel at hk; omega)
 rintro ⟨i,j⟩ ⟨i0,i1,j0,j1⟩ L hL
 simp only [] at i0 i1 j0 j1 hL
 simp only [Yc.l0,atR,rdQ,Q.ask]
 by_cases h : i < j
 ·obtain ⟨m,hm⟩ : ∃ m : Nat,(i + j) / 2 = (m : Int) := ⟨((i + j) / 2).toNat,by omega⟩
  have hml : m < l.length := by omega
  obtain ⟨c,hc1,-,hc3⟩ := cmpObjs2 (x0 := gI l (m : Int) 0) (x1 := gS l (m : Int) 1) (x2 := gI l (m : Int) 2) (x3 := gI l (m : Int) 3) (x4 := gI l (m : Int) 4) (x5 := gB l (m : Int) 5) (x6 := gL l (m : Int) 6) (x7 := gI l (m : Int) 7) (x8 := gS l (m : Int) 8) (x9 := gI l (m : Int) 9) (x10 := gL l (m : Int) 10) (x11 := gL l (m : Int) 11) (x12 := gI l (m : Int) 12) (x13 := gS l (m : Int) 13) (x14 := gI l (m : Int) 14) (x15 := gL l (m : Int) 15) (x16 := gL l (m : Int) 16) (y0 := x0) (y1 := x1) (y2 := x2) (y3 := x3) (y4 := x4) (y5 := x5) (y6 := x6) (y7 := x7) (y8 := x8) (y9 := x9) (y10 := x10) (y11 := x11) (y12 := x12) (y13 := x13) (y14 := x14) (y15 := x15) (y16 := x16) (k := k)
  have hless : Yat l[m] o = decide (c < 0) := by rw [less_gR hml,h0,h1,hc1]
  rw [ZY h]
  simp only [cond_true]
  rw [halfF (by omega) (by omega),hm,Z9 (x := (m : Int)) (by omega) (by omega),ZH (by decide),Ya.row g (by omega) (by omega)]
  simp only [Z4,Z5,ZaQ,ZaV,Zbl,Zan,hc3]
  by_cases hq : c < 0
  ·rw [ZY hq] at hless
   have : m < lbF Yat o l := by
    rcases Nat.lt_or_ge m (lbF Yat o l) with z | z
    ·exact z
    ·rw [lbF_above orderR ha hml z] at hless; cases hless
   rw [ZY hq,cond_true,Z9 (by omega) (by omega)]
   exact hL _ ⟨by show 0 ≤ (m : Int) + 1; omega,by show (m : Int) + 1 ≤ _; omega,j0,j1⟩ (by simp only []; omega)
  ·rw [ZZ hq] at hless
   have : lbF Yat o l ≤ m := by
    rcases Nat.lt_or_ge m (lbF Yat o l) with z | z
    ·rw [lbF_below hml z] at hless; cases hless
    ·exact z
   rw [ZZ hq,cond_false]
   exact hL _ ⟨i0,i1,by show _ ≤ (m : Int); omega,by show (m : Int) ≤ _; omega⟩ (by simp only []; omega)
 ·rw [ZZ h]
  simp only [cond_false]
  obtain rfl : i = (lbF Yat o l : Int) := by omega
  unfold hitF
  by_cases hlt : lbF Yat o l < l.length
  ·obtain ⟨c,-,hc2,hc3⟩ := cmpObjs2 (x0 := gI l (lbF Yat o l : Int) 0) (x1 := gS l (lbF Yat o l : Int) 1) (x2 := gI l (lbF Yat o l : Int) 2) (x3 := gI l (lbF Yat o l : Int) 3) (x4 := gI l (lbF Yat o l : Int) 4) (x5 := gB l (lbF Yat o l : Int) 5) (x6 := gL l (lbF Yat o l : Int) 6) (x7 := gI l (lbF Yat o l : Int) 7) (x8 := gS l (lbF Yat o l : Int) 8) (x9 := gI l (lbF Yat o l : Int) 9) (x10 := gL l (lbF Yat o l : Int) 10) (x11 := gL l (lbF Yat o l : Int) 11) (x12 := gI l (lbF Yat o l : Int) 12) (x13 := gS l (lbF Yat o l : Int) 13) (x14 := gI l (lbF Yat o l : Int) 14) (x15 := gL l (lbF Yat o l : Int) 15) (x16 := gL l (lbF Yat o l : Int) 16) (y0 := x0) (y1 := x1) (y2 := x2) (y3 := x3) (y4 := x4) (y5 := x5) (y6 := x6) (y7 := x7) (y8 := x8) (y9 := x9) (y10 := x10) (y11 := x11) (y12 := x12) (y13 := x13) (y14 := x14) (y15 := x15) (y16 := x16) (k := k)
   rw [ZY (show (lbF Yat o l : Int) < (l.length : Int) by omega),cond_true,Ya.row g (by omega) (by omega),List.getElem?_eq_getElem hlt]
   simp only [Z4,Z5,ZaQ,ZaV,Zbl,Zan,hc3]
   rw [same_gR hlt,h0,h1,hc2]
  ·rw [ZZ (show ¬ (lbF Yat o l : Int) < (l.length : Int) by omega),cond_false,List.getElem?_eq_none (by omega)]
theorem Yau.f_of {β : Type} {k a0 aP aQ aR aS aU aX aY aZ bA bB bC bD bE bF bG bH bI z0} (h : Yau.t k a0 aP aQ aR aS aU aX aY aZ bA bB bC bD bE bF bG bH bI = some z0) (K : LC → Option β) : Yau.f k a0 aP aQ aR aS aU aX aY aZ bA bB bC bD bE bF bG bH bI K = K z0 := by unfold Yau.f; rw [h]; rfl
theorem Ya8 : ∀ r : List D,(ZN r).length = r.length
 | [] => by simp only [ZN,List.length_nil]
 | d :: r => by simp only [ZN,List.length_cons,Ya8 r]
theorem deepRows_mod {f : List C → List C} {o : List D} : ∀ {l : LD} {i : Nat},i < l.length → (∀ r,l[i]? = some r → f (ZN r) = ZN o) → (Zc l).modify i f = Zc (l.take i ++ o :: l.drop (i + 1))
 | [],i,h,_ => absurd h (by simp)
 | r :: xs,0,_,h2 => by
  simp only [Zc,List.modify_zero_cons,List.take_zero,List.nil_append,List.drop_succ_cons,List.drop_zero]
  rw [h2 r rfl]
 | r :: xs,i + 1,h1,h2 => by
  simp only [Zc,List.modify_succ_cons,List.take_succ_cons,List.cons_append,List.drop_succ_cons]
  rw [deepRows_mod (by simpa using h1) fun x hx => h2 x (by simpa using hx)]
theorem Ya6 : ∀ {l : LD} {i : Nat},(Zc l).take i = Zc (l.take i)
 | [],i => by simp only [Zc,List.take_nil]
 | _ :: _,0 => by simp only [Zc,List.take_zero]
 | r :: xs,i + 1 => by simp only [Zc,List.take_succ_cons,Ya6]
theorem Ya7 : ∀ {l : LD} {i : Nat},(Zc l).drop i = Zc (l.drop i)
 | [],i => by simp only [Zc,List.drop_nil]
 | _ :: _,0 => by simp only [Zc,List.drop_zero]
 | r :: xs,i + 1 => by simp only [Zc,List.drop_succ_cons,Ya7]
theorem splice_full {α : Type} {c n : List α} (h : c.length = n.length) : Zs c 0 n = n := by
 unfold Zs
 rw [List.take_zero,List.nil_append,Nat.zero_add,List.drop_eq_nil_of_le (by omega),List.append_nil]
set_option maxRecDepth 100000 in
set_option maxHeartbeats 4000000 in
theorem placed_fv {l : LD} (g : ZB Ya lim l) (ha : AscO l) {x0 : Int} {x1 : BA} {x2 x3 x4 : Int} {x5 : Bool} {x6 : LD} {x7 : Int} {x8 : BA} {x9 : Int} {x10 x11 : LD} {x12 : Int} {x13 : BA} {x14 : Int} {x15 x16 : LD} (g6 : ZB RS lim x6) (g10 : ZB RS lim x10) (g11 : ZB Ys lim x11) (g15 : ZB RS lim x15) (g16 : ZB Ys lim x16) {k : Nat} (hk : Zai 1 k) {β : Type} (K : LC → Option β) :
  Yau.f k (Zc l) x0 x1 x2 x3 x4 x5 x6 x7 x8 x9 x10 x11 x12 x13 x14 x15 x16 K = K (Zc (YaK Yat YaO [.int .i64 x0,.str x1,.int .i64 x2,.int .i64 x3,.int .i64 x4,.bool x5,.sl x6,.int .i64 x7,.str x8,.int .i64 x9,.sl x10,.sl x11,.int .i64 x12,.str x13,.int .i64 x14,.sl x15,.sl x16] [.int .i64 x0,.str x1,.int .i64 x2,.int .i64 x3,.int .i64 x4,.bool x5,.sl x6,.int .i64 x7,.str x8,.int .i64 x9,.sl x10,.sl x11,.int .i64 x12,.str x13,.int .i64 x14,.sl x15,.sl x16] false l)) := Yau.f_of (by
 have hlim : lim = 1048576 := rfl
 have hm : Z8 = 2 ^ 36 := rfl
 have hl := g.1
 have hdl := ZS l
 generalize ho : ([.int .i64 x0,.str x1,.int .i64 x2,.int .i64 x3,.int .i64 x4,.bool x5,.sl x6,.int .i64 x7,.str x8,.int .i64 x9,.sl x10,.sl x11,.int .i64 x12,.str x13,.int .i64 x14,.sl x15,.sl x16] : List D) = o
 have hc : ([.d (.int .i64 x0),.d (.str x1),.d (.int .i64 x2),.d (.int .i64 x3),.d (.int .i64 x4),.d (.bool x5),.own (Zc x6),.d (.int .i64 x7),.d (.str x8),.d (.int .i64 x9),.own (Zc x10),.own (Zc x11),.d (.int .i64 x12),.d (.str x13),.d (.int .i64 x14),.own (Zc x15),.own (Zc x16)] : List C) = ZN o := by
  rw [← ho]; simp only [ZN,deepD]
 have hol : o.length = 17 := by rw [← ho]; rfl
 have hle : lbF Yat o l ≤ l.length := (List.takeWhile_sublist _).length_le
 unfold Yau.t Yau.g
 rw [ZK,binObj_fv g ha (o := o) (by rw [← ho]; rfl) (by rw [← ho]; rfl) (up0 hk),withF_eq orderR ha]
 cases hh : hitF Yat YaO o l with
 | true =>
  have hlt : lbF Yat o l < l.length := by
   rcases Nat.lt_or_ge (lbF Yat o l) l.length with q | q
   ·exact q
   ·unfold hitF at hh
    rw [List.getElem?_eq_none q] at hh
    cases hh
  rw [cond_true,copyObj_fv g6 g10 g11 g15 g16 hk,ZH (by omega),ZH (by omega),hc,Int.toNat_natCast,if_pos rfl]
  refine congrArg some (deepRows_mod hlt fun r hr => splice_full ?_)
  obtain ⟨hrow,-⟩ := Ya.gets g.2 (v := (lbF Yat o l : Int)) (by omega) (by omega)
  rw [gR_lt hlt] at hrow
  rw [List.getElem?_eq_getElem hlt] at hr
  injection hr with hr
  rw [Ya8,Ya8,hol,← hr,hrow]
  rfl
 | false =>
  rw [cond_false,copyObj_fv g6 g10 g11 g15 g16 hk]
  unfold YB.f YB.t
  rw [ZH (by simp only [List.length_singleton]; omega),hc,Int.toNat_natCast,if_neg (by decide),Nat.add_zero,Ya6,Ya7]
  simp only [Zbb,Zc,List.append_assoc,List.cons_append,List.nil_append]) K
theorem Yap.f_of {β : Type} {k aB aA aC aD aI bV bJ bQ bK bR bL bM bT bN bU bO bP f0_0 f1_0 z0} (h : Yap.t k aB aA aC aD aI bV bJ bQ bK bR bL bM bT bN bU bO bP f0_0 f1_0 = some z0) (K : Bool → Option β) : Yap.f k aB aA aC aD aI bV bJ bQ bK bR bL bM bT bN bU bO bP f0_0 f1_0 K = K z0 := by unfold Yap.f; rw [h]; rfl
theorem Ye.f_of {β : Type} {k a0 a1_0_0 a1_1_0 z0} (h : Ye.t k a0 a1_0_0 a1_1_0 = some z0) (K : Int → Option β) : Ye.f k a0 a1_0_0 a1_1_0 K = K z0 := by unfold Ye.f; rw [h]; rfl
theorem YaB.f_of {β : Type} {k a0 a1 a2 z0} (h : YaB.t k a0 a1 a2 = some z0) (K : Int → Option β) : YaB.f k a0 a1 a2 K = K z0 := by unfold YaB.f; rw [h]; rfl
noncomputable def YaN (l : LD) (x : Int) (y : BA) : Int := ZbV (fun i => (gI l (i : Int) 0 == x) && Zae (gS l (i : Int) 1) y) l.length
set_option maxRecDepth 100000 in
theorem l7Find_fv {l : LD} (g : ZB Ya lim l) {x : Int} {y : BA} {k : Nat} (hk : Fuel k) {β : Type} (K : Int → Option β) : YF.f k l x y K = K (YaN l x y) := YF.f_of (by
 have hb : big = 2 ^ 64 := rfl
 have hlim : lim = 1048576 := rfl
 have hl := g.1
 unfold YF.t YF.g
 refine iter_findI (n := l.length) _ some (by unfold Fuel at hk; omega) (fun L i hi => ?_) (fun L => by simp [YF.l0,atR,rdQ,Q.ask])
 simp (disch := omega) only [YF.l0,atR,rdQ,Q.ask,ZY (show (i : Int) < l.length by omega),cond_true,Ya.row g,Z4,Z5,ZaQ,ZaV,Zbl,Zan,Z9]
 cases (gI l (i : Int) 0 == x) <;> cases Zae (gS l (i : Int) 1) y <;> rfl) K
set_option maxRecDepth 100000 in
theorem objAt_fv {l : LD} (g : ZB Ya lim l) {x : Int} {y : BA} {k : Nat} (hk : Fuel k) {β : Type} (K : Int → Option β) : YaB.f k l x y K = K (YaN l x y) := YaB.f_of (by
 have hb : big = 2 ^ 64 := rfl
 have hlim : lim = 1048576 := rfl
 have hl := g.1
 unfold YaB.t YaB.g
 rw [Ye.f_of (z0 := YaN l x y)]
 unfold Ye.t Ye.g
 refine iter_findI (n := l.length) _ some (by unfold Fuel at hk; omega) (fun L i hi => ?_) (fun L => by simp [Ye.l0,atR,rdQ,Q.ask])
 have hs : ∀ {x0 : Int} {x1 : BA} {x2 : Int} {x3 : Int} {x4 : Int} {x5 : Bool} {x6 : LD} {x7 : Int} {x8 : BA} {x9 : Int} {x10 : LD} {x11 : LD} {x12 : Int} {x13 : BA} {x14 : Int} {x15 : LD} {x16 : LD} {β : Type} (K : Bool → Option β),Yap.f k x0 x1 x2 x3 x4 x5 x6 x7 x8 x9 x10 x11 x12 x13 x14 x15 x16 x y K = K ((x0 == x) && Zae x1 y) := fun K => Yap.f_of (by unfold Yap.t Yap.g; rename_i x0 x1 _ _ _ _ _ _ _ _ _ _ _ _ _ _ _ _; cases (x0 == x) <;> rfl) K
 simp (disch := omega) only [Ye.l0,atR,rdQ,Q.ask,ZY (show (i : Int) < l.length by omega),cond_true,Ya.row g,Z4,Z5,ZaQ,ZaV,Zbl,Zan,hs,Z9]) K
theorem findO_lt {l : LD} {x : Int} {y : BA} (h : ¬ YaN l x y < 0) : ∃ n : Nat,YaN l x y = (n : Int) ∧ n < l.length := by
 unfold YaN at h ⊢
 obtain ⟨h1,-,h3,-⟩ := findI_some (p := fun i => (gI l (i : Int) 0 == x) && Zae (gS l (i : Int) 1) y) (n := l.length) (by omega)
 exact ⟨_,h3.symm,h1⟩
theorem YQ.f_of {β : Type} {k aB aA aP aQ aR aS aU aX aY aZ bA bB bC bD bE bF bG bH bI a1_17 a1_18 z0 z1 z2} (h : YQ.t k aB aA aP aQ aR aS aU aX aY aZ bA bB bC bD bE bF bG bH bI a1_17 a1_18 = some (z0,z1,z2)) (K : Bool → Int → LC → Option β) : YQ.f k aB aA aP aQ aR aS aU aX aY aZ bA bB bC bD bE bF bG bH bI a1_17 a1_18 K = K z0 z1 z2 := by unfold YQ.f; rw [h]; rfl
theorem YL.f_of {β : Type} {k aB aA a1 z0 z1 z2} (h : YL.t k aB aA a1 = some (z0,z1,z2)) (K : Int → LC → Bool → Option β) : YL.f k aB aA a1 K = K z0 z1 z2 := by unfold YL.f; rw [h]; rfl
theorem Y1.f_of {β : Type} {k aB aA z0 z1} (h : Y1.t k aB aA = some (z0,z1)) (K : Int → LC → Option β) : Y1.f k aB aA K = K z0 z1 := by unfold Y1.f; rw [h]; rfl
theorem Yo.f_of {β : Type} {k aB aA z0} (h : Yo.t k aB aA = some z0) (K : Bool → Option β) : Yo.f k aB aA K = K z0 := by unfold Yo.f; rw [h]; rfl
theorem Yo.T {aB : Int} {aA : LD} (ga0_1 : ZB Ya lim aA) : Tm (Zai 1) (fun k => Yo.t k aB aA) (fun _ => True) := by
 unfold Yo.t Yo.g
 have hm := maxLen_eq
 have hlim : lim = 1048576 := rfl
 have la0_1 := ga0_1.1
 refine YA.tm (fun i hi => up0 hi) (YA.T) (fun y2 hy1 => ?_)
 refine Tm.ite (fun h3 => ?_) (fun h3 => ?_)
 ·try simp only [bz0,bz1,bz2,bz3,bz4,bz5,bz6,bz7,bz8,bz9,bza] at h3
  have z4 := hy1 h3
  refine Yj.tm (fun i hi => hi) (Yj.T (by first | assumption | omega)) (fun y6 hy5 => ?_)
  exact Tm.ret (by trivial)
 ·try simp only [bz0,bz1,bz2,bz3,bz4,bz5,bz6,bz7,bz8,bz9,bza] at h3
  exact Tm.ret (by trivial)
noncomputable def Yo.v (aB : Int) (aA : LD) : Bool := (Yo.t (lv 1) aB aA).getD default
theorem Yo.tv {aB : Int} {aA : LD} (ga0_1 : ZB Ya lim aA) {k : Nat} (hk : (Zai 1) k) : Yo.t k aB aA = some (Yo.v aB aA) := (Yo.T ga0_1).val hk
theorem Yo.fv {aB : Int} {aA : LD} (ga0_1 : ZB Ya lim aA) {k : Nat} (hk : (Zai 1) k) {β : Type} (K : Bool → Option β) : Yo.f k aB aA K = K (Yo.v aB aA) := Yo.f_of (Yo.tv ga0_1 hk) K
theorem Yaa.same {aB : Int} {aA : LD} (g1 : ZB Ya lim aA) {k : Nat} (hk : Zai 1 k) : Yaa.t k aB aA = Yo.t k aB aA := by
 unfold Yaa.t Yo.t Yaa.g Yo.g
 simp only [within_fv,l1In_fv,objsOk_fv g1 hk,l7Objs_fv g1 hk]
 rfl
theorem mirror_v {a : Int} {l : LD} (g : ZB Ya lim l) : Yo.v a l = (inB a 0 1000000 && objsB l 1000000 a) := by
 have hk : Zai 1 (lv 1) := by unfold Zai lv; omega
 have hv := Yo.tv (aB := a) g hk
 unfold Yo.t Yo.g at hv
 rw [l1In_fv,l7Objs_fv g hk,show IntKind.wrap .i64 (1000001 - 1) = 1000000 from rfl] at hv
 cases hb : inB a 0 1000000 <;> rw [hb] at hv <;> injection hv with hv <;> exact hv.symm
theorem asc_of {l : LD} (h : ∀ (i : Nat) (hi : i + 1 < l.length),Yat l[i] l[i + 1] = true) : AscO l := by
 unfold AscO
 rw [List.pairwise_iff_getElem]
 intro i j hi hj hij
 obtain ⟨d,rfl⟩ : ∃ d,j = i + 1 + d := ⟨j - (i + 1),by omega⟩
 induction d with
 | zero => exact h i hj
 | succ d ih => exact orderR.trans _ _ _ (ih (by omega) (by omega)) (h (i + 1 + d) (by omega))
theorem Ya1 {a : Int} {l : LD} (g : ZB Ya lim l) (h : Yo.v a l = true) : AscO l ∧ l.length ≤ 60 ∧ 0 ≤ a ∧ a ≤ 1000000 := by
 rw [mirror_v g,Bool.and_eq_true] at h
 obtain ⟨h1,h2⟩ := h
 unfold inB at h1
 unfold objsB at h2
 rw [Bool.and_eq_true] at h1 h2
 obtain ⟨h2,h3⟩ := h2
 refine ⟨asc_of fun i hi => ?_,by have := of_decide_eq_true h3; omega,by simpa using h1.1,by simpa using h1.2⟩
 have hq := List.all_eq_true.mp h2 (i + 1) (by simpa using hi)
 unfold objsP at hq
 rw [Bool.and_eq_true,Bool.and_eq_true] at hq
 have hq := hq.2.1
 rw [ZY (show ((i + 1 : Nat) : Int) > 0 by omega),Bool.not_true,Bool.false_or,show ((i + 1 : Nat) : Int) - 1 = (i : Int) by omega] at hq
 rw [less_gR (by omega),← gR_lt hi]
 exact hq
def rB (r : List D) (j : Nat) : Bool := dB (r.getD j (.bool false))
noncomputable def rO (r : List D) : List D := [.int .i64 (rI r 2),.str (rS r 3),.int .i64 (rI r 4),.int .i64 (rI r 5),.int .i64 (rI r 6),.bool (rB r 7),.sl (rL r 8),.int .i64 (rI r 9),.str (rS r 10),.int .i64 (rI r 11),.sl (rL r 12),.sl (rL r 13),.int .i64 (rI r 14),.str (rS r 15),.int .i64 (rI r 16),.sl (rL r 17),.sl (rL r 18)]
def dropO (l : LD) (i : Int) : LD := l.take i.toNat ++ l.drop (i.toNat + 1)
noncomputable def stepF (rev : Int) (l : LD) (r : List D) : Option (Int × LD) :=
 bif rI r 0 != IntKind.wrap .i64 (rev + 1) then none else
 bif rB r 1 then (bif decide (YaN l (rI r 2) (rS r 3) < 0) then none else bif gI l (YaN l (rI r 2) (rS r 3)) 2 != rI r 4 then none else some (rI r 0,dropO l (YaN l (rI r 2) (rS r 3))))
 else some (rI r 0,YaK Yat YaO (rO r) (rO r) false l)
noncomputable def stepV (rev : Int) (l : LD) (r : List D) : Option (Int × LD) :=
 match stepF rev l r with
 | none => none
 | some v => bif Yo.v v.1 v.2 then some v else none
noncomputable def YaF : Int → LD → LD → Option (Int × LD)
 | rev,l,[] => some (rev,l)
 | rev,l,r :: rs => match stepV rev l r with | none => none | some v => YaF v.1 v.2 rs
noncomputable def followV (a : Int) (l xs : LD) : Int × LD × Bool :=
 bif Yo.v a l then (match YaF a l xs with | some v => (v.1,v.2,true) | none => (a,l,false)) else (a,l,false)
theorem deepRows_at : ∀ {xs : LD} {i : Nat},(Zc xs)[i]? = (xs[i]?).map ZN
 | [],i => by simp only [Zc,List.getElem?_nil,Option.map_none]
 | r :: xs,0 => by simp only [Zc,List.getElem?_cons_zero,Option.map_some]
 | r :: xs,i + 1 => by simp only [Zc,List.getElem?_cons_succ,deepRows_at]
theorem atNat_deepF {β : Type} {xs : LD} {i : Nat} (hi : i < xs.length) (F : List C → Option β) : ZaR (Zc xs) i F = F (ZN xs[i]) := by
 unfold ZaR
 rw [deepRows_at,List.getElem?_eq_getElem hi]
 rfl
set_option maxRecDepth 100000 in
set_option maxHeartbeats 4000000 in
theorem follow_fv {rev : Int} {l : LD} (g : ZB Ya lim l) (ha : AscO l) {s : Int} {gone : Bool} {x0 : Int} {x1 : BA} {x2 x3 x4 : Int} {x5 : Bool} {x6 : LD} {x7 : Int} {x8 : BA} {x9 : Int} {x10 x11 : LD} {x12 : Int} {x13 : BA} {x14 : Int} {x15 x16 : LD} (g6 : ZB RS lim x6) (g10 : ZB RS lim x10) (g11 : ZB Ys lim x11) (g15 : ZB RS lim x15) (g16 : ZB Ys lim x16) {k : Nat} (hk : Zai 1 k) {r : List D} (hr : r = [.int .i64 s,.bool gone,.int .i64 x0,.str x1,.int .i64 x2,.int .i64 x3,.int .i64 x4,.bool x5,.sl x6,.int .i64 x7,.str x8,.int .i64 x9,.sl x10,.sl x11,.int .i64 x12,.str x13,.int .i64 x14,.sl x15,.sl x16]) :
  match stepF rev l r with
  | none => ∃ p q,YQ.t k rev (Zc l) s gone x0 x1 x2 x3 x4 x5 x6 x7 x8 x9 x10 x11 x12 x13 x14 x15 x16 = some (false,p,q)
  | some v => YQ.t k rev (Zc l) s gone x0 x1 x2 x3 x4 x5 x6 x7 x8 x9 x10 x11 x12 x13 x14 x15 x16 = some (true,v.1,Zc v.2) := by
 have hlim : lim = 1048576 := rfl
 have hl := g.1
 have hdl := ZS l
 have e0 : rI r 0 = s := by rw [hr]; rfl
 have e1 : rB r 1 = gone := by rw [hr]; rfl
 have e2 : rI r 2 = x0 := by rw [hr]; rfl
 have e3 : rS r 3 = x1 := by rw [hr]; rfl
 have e4 : rI r 4 = x2 := by rw [hr]; rfl
 have eo : rO r = [.int .i64 x0,.str x1,.int .i64 x2,.int .i64 x3,.int .i64 x4,.bool x5,.sl x6,.int .i64 x7,.str x8,.int .i64 x9,.sl x10,.sl x11,.int .i64 x12,.str x13,.int .i64 x14,.sl x15,.sl x16] := by rw [hr]; rfl
 unfold YQ.t YQ.g stepF
 rw [e0,e1,e2,e3,e4,eo]
 by_cases hs : s = IntKind.wrap .i64 (rev + 1)
 ·have hs2 : (s != IntKind.wrap .i64 (rev + 1)) = false := by simp [hs]
  rw [hs2]
  simp only [cond_false]
  rw [← hs]
  cases gone with
  | false =>
   simp only [Bool.not_false,cond_true,cond_false]
   rw [placed_fv g ha g6 g10 g11 g15 g16 hk]
  | true =>
   simp only [Bool.not_true,cond_true,cond_false]
   rw [ZK,objAt_fv g (up0 hk)]
   by_cases hf : YaN l x0 x1 < 0
   ·simp only [ZY hf,cond_true]
    exact ⟨_,_,rfl⟩
   ·obtain ⟨n,hn,hnl⟩ := findO_lt hf
    rw [ZZ hf]
    simp only [cond_false]
    rw [hn]
    obtain ⟨hrow,-⟩ := Ya.gets g.2 (v := (n : Int)) (by omega) (by omega)
    rw [gR_lt hnl] at hrow
    rw [ZH (by omega),Int.toNat_natCast,atNat_deepF hnl,hrow]
    simp only [ZN,deepD,List.drop_succ_cons,List.drop_zero,Z4,cD,Z5]
    cases hq : (gI l (n : Int) 2 != x2)
    ·simp only [cond_false]
     unfold YE.f YE.t dropO
     rw [Z9 (x := (n : Int) + 1) (by omega) (by omega),ZH (by omega),Int.toNat_natCast,show ((n : Int) + 1).toNat = n + 1 by omega,Ya6,Ya7,← Zbb]
    ·simp only [cond_true]
     exact ⟨_,_,rfl⟩
 ·have hs2 : (s != IntKind.wrap .i64 (rev + 1)) = true := by simp [hs]
  rw [hs2]
  simp only [cond_true]
  exact ⟨_,_,rfl⟩
theorem withF_mem {α : Type} {less same : α → α → Bool} {o o' : α} : ∀ {l : List α} {put : Bool} {x : α},x ∈ YaK less same o o' put l → x ∈ l ∨ x = o'
 | [],put,x,h => by
  rw [withF_nil] at h
  cases put
  ·exact .inr (by simpa using h)
  ·cases h
 | y :: ys,put,x,h => by
  unfold YaK at h
  rw [List.mem_append,List.mem_append] at h
  rcases h with h | h | h
  ·split at h
   ·exact .inr (by simpa using h)
   ·cases h
  ·split at h
   ·cases h
   ·exact .inl (by rw [List.mem_singleton] at h; rw [h]; exact List.mem_cons_self ..)
  ·rcases withF_mem h with h | h
   ·exact .inl (List.mem_cons_of_mem _ h)
   ·exact .inr h
theorem withF_len {α : Type} {less same : α → α → Bool} {o o' : α} : ∀ {l : List α} {put : Bool},(YaK less same o o' put l).length ≤ l.length + (bif put then 0 else 1)
 | [],put => by rw [withF_nil]; cases put <;> simp
 | y :: ys,put => by
  unfold YaK
  have ih := withF_len (less := less) (same := same) (o := o) (o' := o') (l := ys) (put := put || !less y o)
  rw [List.length_append,List.length_append,List.length_cons]
  generalize YaK less same o o' (put || !less y o) ys = w at *
  generalize less y o = b1 at *
  generalize same y o = b2 at *
  cases put <;> cases b1 <;> cases b2 <;> simp at ih ⊢ <;> omega
theorem rO_ok {B : Nat} {r : List D} (h : Yb B r) : Ya B (rO r) := by
 obtain ⟨c0,c1,c2,c3,c4,c5,c6,c7,c8,c9,c10,c11,c12,c13,c14,c15,c16,c17,c18,rfl,k0,k2,k3,k4,k5,k6,k8,k9,k10,k11,k12,k13,k14,k15,k16,k17,k18,_⟩ := h
 exact ⟨c2,c3,c4,c5,c6,c7,c8,c9,c10,c11,c12,c13,c14,c15,c16,c17,c18,rfl,k2,k3,k4,k5,k6,k8,k9,k10,k11,k12,k13,k14,k15,k16,k17,k18,trivial⟩
theorem stepF_ok {rev : Int} {l : LD} {r : List D} {v : Int × LD} (g : ZB Ya lim l) (h60 : l.length ≤ 60) (hr : Yb lim r) (h : stepF rev l r = some v) : ZB Ya lim v.2 := by
 have hlim : lim = 1048576 := rfl
 unfold stepF at h
 cases hs : (rI r 0 != IntKind.wrap .i64 (rev + 1)) <;> rw [hs] at h
 ·simp only [cond_false] at h
  cases hb : rB r 1 <;> rw [hb] at h
  ·simp only [cond_false] at h
   injection h with h
   subst h
   have := withF_len (less := Yat) (same := YaO) (o := rO r) (o' := rO r) (l := l) (put := false)
   simp only [cond_false] at this
   refine ⟨by show (YaK _ _ _ _ _ _).length ≤ _; omega,fun x hx => ?_⟩
   rcases withF_mem hx with hx | hx
   ·exact g.2 x hx
   ·rw [hx]; exact rO_ok hr
  ·simp only [cond_true] at h
   cases hf : decide (YaN l (rI r 2) (rS r 3) < 0) <;> rw [hf] at h
   ·simp only [cond_false] at h
    cases hq : (gI l (YaN l (rI r 2) (rS r 3)) 2 != rI r 4) <;> rw [hq] at h
    ·simp only [cond_false] at h
     injection h with h
     subst h
     unfold dropO
     refine ⟨by rw [List.length_append,List.length_take,List.length_drop]; omega,fun x hx => ?_⟩
     rcases List.mem_append.mp hx with hx | hx
     ·exact g.2 x (List.mem_of_mem_take hx)
     ·exact g.2 x (List.mem_of_mem_drop hx)
    ·cases h
   ·cases h
 ·cases h
theorem drop_cons_g {xs : LD} {i : Nat} (hi : i < xs.length) : xs.drop i = gR xs (i : Int) :: xs.drop (i + 1) := by
 rw [gR_lt hi]
 exact List.drop_eq_getElem_cons hi
theorem mirrorI_fv {a : Int} {l : LD} (g : ZB Ya lim l) {k : Nat} (hk : Zai 1 k) {β : Type} (K : Bool → Option β) : Yaa.f k a l K = K (Yo.v a l) := Yaa.f_of (by rw [Yaa.same g hk]; exact Yo.tv g hk) K
theorem YaX {a : Int} {l : LD} (g : ZB Ya lim l) {k : Nat} (hk : Zai 1 k) {β : Type} (K : Int → LC → Option β) : YV.f k a l K = K a (Zc l) := YV.f_of (by unfold YV.t YV.g; rw [copyObjs_fv g hk]) K
theorem l8Mirror_fv {a : Int} {l : LD} (g : ZB Ya lim l) {k : Nat} (hk : Zai 1 k) {β : Type} (K : Int → LC → Option β) : Y1.f k a l K = K a (Zc l) := Y1.f_of (by unfold Y1.t Y1.g; rw [Ya5 g hk]) K
noncomputable def endV (a : Int) (l : LD) (o : Option (Int × LD)) : Int × LC × Bool := match o with | some v => (v.1,Zc v.2,true) | none => (a,Zc l,false)
noncomputable def endD (a : Int) (l : LD) (o : Option (Int × LD)) : Int × LD × Bool := match o with | some v => (v.1,v.2,true) | none => (a,l,false)
set_option maxRecDepth 100000 in
set_option maxHeartbeats 4000000 in
theorem impl_Follow_t {a : Int} {l xs : LD} (g : ZB Ya lim l) (gx : ZB Yb lim xs) {k : Nat} (hk : Zai 1 k) :
  YL.t k a l xs = some (bif Yo.v a l then endV a l (YaF a l xs) else (a,Zc l,false)) := by
 have hlim : lim = 1048576 := rfl
 have hb : big = 2 ^ 64 := rfl
 have hk0 : Fuel k := up0 hk
 have hx := gx.1
 unfold YL.t YL.g
 rw [mirrorI_fv g hk]
 cases hm : Yo.v a l
 ·simp only [Bool.not_false,cond_true,cond_false]
  rw [YaX g hk]
 simp only [Bool.not_true,cond_true,cond_false]
 rw [YaX g hk]
 obtain ⟨asc,l60,-,-⟩ := Ya1 g hm
 refine Eq.trans (iter_val (fun v : Int × Int × LC => xs.length - v.1.toNat) (fun v => 0 ≤ v.1 ∧ v.1 ≤ (xs.length : Int) ∧ ∃ l',v.2.2 = Zc l' ∧ ZB Ya lim l' ∧ AscO l' ∧ l'.length ≤ 60) (fun v => some (endV a l (YaF v.2.1 (C.immRows v.2.2) (xs.drop v.1.toNat)))) ?_ k (0,a,Zc l) ⟨by simp,by simp,l,rfl,g,asc,l60⟩ (by unfold Fuel at hk0; show xs.length - (0 : Int).toNat < k; omega)) (by
  show some (endV a l (YaF a (C.immRows (Zc l)) (xs.drop 0))) = _
  rw [ZK,List.drop_zero])
 rintro ⟨n,rev,cl⟩ ⟨n0,n1,l',e,gl,al,ll⟩ L hL
 replace n0 : 0 ≤ n := n0
 obtain ⟨i,rfl⟩ : ∃ i : Nat,n = (i : Int) := ⟨n.toNat,by omega⟩
 replace n1 : (i : Int) ≤ (xs.length : Int) := n1
 replace e : cl = Zc l' := e
 subst e
 simp only [ZK,Int.toNat_natCast]
 by_cases hi : i < xs.length
 ·obtain ⟨hrow,k0,k2,k3,k4,k5,k6,k8,k9,k10,k11,k12,k13,k14,k15,k16,k17,k18,-⟩ := Yb.get gx (v := (i : Int)) (by omega) (by omega)
  have hmem : Yb lim (gR xs (i : Int)) := gx.2 _ (gR_mem (by omega) (by omega))
  have hf := follow_fv (rev := rev) gl al k8 k12 k13 k17 k18 hk hrow
  rw [drop_cons_g hi]
  unfold YaF stepV
  simp (disch := omega) only [YL.l0,atR,rdQ,Q.ask,ZY (show (i : Int) < (xs.length : Int) by omega),cond_true,Yb.row gx,Z4,Z5,ZaQ,ZaV,Zbl,Zan]
  cases hs : stepF rev l' (gR xs (i : Int)) with
  | none =>
   rw [hs] at hf
   obtain ⟨p,q,hf⟩ := hf
   rw [YQ.f_of hf]
   simp only [Bool.not_false,cond_true]
   rw [YaX g hk]
   rfl
  | some v =>
   rw [hs] at hf
   have g2 := stepF_ok gl ll hmem hs
   rw [YQ.f_of hf]
   simp only [Bool.not_true,cond_false,ZK]
   rw [mirrorI_fv g2 hk]
   cases hv : Yo.v v.1 v.2 with
   | false =>
    simp only [Bool.not_false,cond_true,cond_false]
    rw [YaX g hk]
    rfl
   | true =>
    obtain ⟨a2,l2,-,-⟩ := Ya1 g2 hv
    simp only [Bool.not_true,cond_false,cond_true]
    rw [Z9 (x := (i : Int) + 1) (by omega) (by omega)]
    rw [hL ((i : Int) + 1,v.1,Zc v.2) ⟨by show 0 ≤ (i : Int) + 1; omega,by show (i : Int) + 1 ≤ _; omega,v.2,rfl,g2,a2,l2⟩ (by show xs.length - ((i : Int) + 1).toNat < xs.length - (i : Int).toNat; omega)]
    simp only [ZK,show ((i : Int) + 1).toNat = i + 1 by omega]
 ·rw [List.drop_eq_nil_of_le (by omega)]
  simp only [YL.l0,atR,rdQ,Q.ask,ZZ (show ¬ (i : Int) < (xs.length : Int) by omega),cond_false]
  unfold YaF endV
  rfl
abbrev Robj : Nat → List D → Prop := Ya
abbrev Rlog : Nat → List D → Prop := Yb
structure OW (c0 : Int) (c1 : BA) (c2 : Int) (c3 : Int) (c4 : Int) (c5 : Bool) (c6 : LD) (c7 : Int) (c8 : BA) (c9 : Int) (c10 : LD) (c11 : LD) (c12 : Int) (c13 : BA) (c14 : Int) (c15 : LD) (c16 : LD) : Prop where
 k0 : (Lit.int .i64 c0).wf = true
 k1 : c1.size ≤ lim
 k2 : (Lit.int .i64 c2).wf = true
 k3 : (Lit.int .i64 c3).wf = true
 k4 : (Lit.int .i64 c4).wf = true
 k6 : ZB RS lim c6
 k7 : (Lit.int .i64 c7).wf = true
 k8 : c8.size ≤ lim
 k9 : (Lit.int .i64 c9).wf = true
 k10 : ZB RS lim c10
 k11 : ZB Ys lim c11
 k12 : (Lit.int .i64 c12).wf = true
 k13 : c13.size ≤ lim
 k14 : (Lit.int .i64 c14).wf = true
 k15 : ZB RS lim c15
 k16 : ZB Ys lim c16
theorem OW.row {c0 : Int} {c1 : BA} {c2 c3 c4 : Int} {c5 : Bool} {c6 : LD} {c7 : Int} {c8 : BA} {c9 : Int} {c10 c11 : LD} {c12 : Int} {c13 : BA} {c14 : Int} {c15 c16 : LD} (h : OW c0 c1 c2 c3 c4 c5 c6 c7 c8 c9 c10 c11 c12 c13 c14 c15 c16) : Robj lim [.int .i64 c0,.str c1,.int .i64 c2,.int .i64 c3,.int .i64 c4,.bool c5,.sl c6,.int .i64 c7,.str c8,.int .i64 c9,.sl c10,.sl c11,.int .i64 c12,.str c13,.int .i64 c14,.sl c15,.sl c16] :=
 ⟨_,_,_,_,_,_,_,_,_,_,_,_,_,_,_,_,_,rfl,h.k0,h.k1,h.k2,h.k3,h.k4,h.k6,h.k7,h.k8,h.k9,h.k10,h.k11,h.k12,h.k13,h.k14,h.k15,h.k16,trivial⟩
theorem OW.log {c0 : Int} {c1 : BA} {c2 c3 c4 : Int} {c5 : Bool} {c6 : LD} {c7 : Int} {c8 : BA} {c9 : Int} {c10 c11 : LD} {c12 : Int} {c13 : BA} {c14 : Int} {c15 c16 : LD} (h : OW c0 c1 c2 c3 c4 c5 c6 c7 c8 c9 c10 c11 c12 c13 c14 c15 c16) {r : Int} (hr : (Lit.int .i64 r).wf = true) {b : Bool} : Rlog lim (.int .i64 r :: .bool b :: [.int .i64 c0,.str c1,.int .i64 c2,.int .i64 c3,.int .i64 c4,.bool c5,.sl c6,.int .i64 c7,.str c8,.int .i64 c9,.sl c10,.sl c11,.int .i64 c12,.str c13,.int .i64 c14,.sl c15,.sl c16]) :=
 ⟨_,_,_,_,_,_,_,_,_,_,_,_,_,_,_,_,_,_,_,rfl,hr,h.k0,h.k1,h.k2,h.k3,h.k4,h.k6,h.k7,h.k8,h.k9,h.k10,h.k11,h.k12,h.k13,h.k14,h.k15,h.k16,trivial⟩
theorem OW.of {r : List D} (h : Robj lim r) : ∃ (c0 : Int) (c1 : BA) (c2 : Int) (c3 : Int) (c4 : Int) (c5 : Bool) (c6 : LD) (c7 : Int) (c8 : BA) (c9 : Int) (c10 : LD) (c11 : LD) (c12 : Int) (c13 : BA) (c14 : Int) (c15 : LD) (c16 : LD),r = [.int .i64 c0,.str c1,.int .i64 c2,.int .i64 c3,.int .i64 c4,.bool c5,.sl c6,.int .i64 c7,.str c8,.int .i64 c9,.sl c10,.sl c11,.int .i64 c12,.str c13,.int .i64 c14,.sl c15,.sl c16] ∧ OW c0 c1 c2 c3 c4 c5 c6 c7 c8 c9 c10 c11 c12 c13 c14 c15 c16 := by
 obtain ⟨c0,c1,c2,c3,c4,c5,c6,c7,c8,c9,c10,c11,c12,c13,c14,c15,c16,e,h0,h1,h2,h3,h4,h6,h7,h8,h9,h10,h11,h12,h13,h14,h15,h16,_⟩ := h.open
 exact ⟨c0,c1,c2,c3,c4,c5,c6,c7,c8,c9,c10,c11,c12,c13,c14,c15,c16,e,⟨h0,h1,h2,h3,h4,h6,h7,h8,h9,h10,h11,h12,h13,h14,h15,h16⟩⟩
structure YaL (n : Nat) (O : LD) (rev next : Int) (L : LD) : Prop where
 ro : ∀ r ∈ O,Robj lim r
 lo : O.length ≤ n
 rl : ∀ r ∈ L,Rlog lim r
 ll : L.length ≤ n
 r0 : 0 ≤ rev
 r1 : rev ≤ n
 x0 : 0 ≤ next
 x1 : next ≤ n + 1
theorem YaL.up {n m : Nat} {O L : LD} {rev next : Int} (h : YaL n O rev next L) (hm : n ≤ m) : YaL m O rev next L :=
 ⟨h.ro,Nat.le_trans h.lo hm,h.rl,Nat.le_trans h.ll hm,h.r0,by have := h.r1; omega,h.x0,by have := h.x1; omega⟩
theorem YaL.so {n : Nat} {O L : LD} {rev next : Int} (h : YaL n O rev next L) (hn : n ≤ 1000) : ZB Robj lim O := ⟨Nat.le_trans h.lo (Nat.le_trans hn (by decide)),h.ro⟩
theorem YaL.sl {n : Nat} {O L : LD} {rev next : Int} (h : YaL n O rev next L) (hn : n ≤ 1000) : ZB Rlog lim L := ⟨Nat.le_trans h.ll (Nat.le_trans hn (by decide)),h.rl⟩
theorem YaW {O L : LD} {rev next : Int} (gO : ZB Robj lim O) (gL : ZB Rlog lim L) {k : Nat} (hk : Zai 1 k) : Yv.t k O rev next L = some (Zc O,rev,next,Zc L) := by
 unfold Yv.t Yv.g
 rw [Ya5 gO hk,l7CopyLog_fv gL hk]
theorem rows17' {l : LD} (g : ∀ r ∈ l,Robj lim r) : Zbk 17 l := fun r hr => by
 obtain ⟨c0,c1,c2,c3,c4,c5,c6,c7,c8,c9,c10,c11,c12,c13,c14,c15,c16,rfl,-⟩ := (g r hr).open
 rfl
theorem rows17_sub {l m : LD} (g : ∀ r ∈ l,Robj lim r) (h : ∀ r ∈ m,r ∈ l) : Zbk 17 m := rows17' fun r hr => g r (h r hr)
def PutsD (n : Nat) (o : Option (LC × Int × Int × LD)) : Prop := ∃ X rev next L,YaL n (C.immRows X) rev next L ∧ o = some (X,rev,next,L)
set_option maxRecDepth 100000 in
set_option maxHeartbeats 4000000 in
theorem puts_ex {n : Nat} {O L : LD} {rev next : Int} (hB : YaL n O rev next L) (hn : n ≤ 900) {c0 : Int} {c1 : BA} {c2 c3 c4 : Int} {c5 : Bool} {c6 : LD} {c7 : Int} {c8 : BA} {c9 : Int} {c10 c11 : LD} {c12 : Int} {c13 : BA} {c14 : Int} {c15 c16 : LD} (hO : OW c0 c1 c2 c3 c4 c5 c6 c7 c8 c9 c10 c11 c12 c13 c14 c15 c16) {gone : Bool} (hg : gone = true → 0 ≤ YaN O c0 c1) {k : Nat} (hk : Zai 1 k) : PutsD (n + 1) (YN.t k O rev next L c0 c1 c2 c3 c4 c5 c6 c7 c8 c9 c10 c11 c12 c13 c14 c15 c16 gone) := by
 have hlim : lim = 1048576 := rfl
 have hm : Z8 = 2 ^ 36 := rfl
 have hk0 : Fuel k := up0 hk
 have gO := hB.so (by omega)
 have gL := hB.sl (by omega)
 have r0 := hB.r0; have r1 := hB.r1; have lo := hB.lo; have ll := hB.ll
 have hw : IntKind.wrap .i64 (rev + 1) = rev + 1 := Z9 (by omega) (by omega)
 have hwr : (Lit.int .i64 (rev + 1)).wf = true := wf_of (by omega) (by omega)
 have hO' : OW c0 c1 c2 (rev + 1) c4 c5 c6 c7 c8 c9 c10 c11 c12 c13 c14 c15 c16 := { hO with k3 := hwr }
 -- the log
 have logE : ∀ g : Bool,C.immRows (Zc L ++ [[.d (.int .i64 (rev + 1)),.d (.bool g),.d (.int .i64 c0),.d (.str c1),.d (.int .i64 c2),.d (.int .i64 (rev + 1)),.d (.int .i64 c4),.d (.bool c5),.own (Zc c6),.d (.int .i64 c7),.d (.str c8),.d (.int .i64 c9),.own (Zc c10),.own (Zc c11),.d (.int .i64 c12),.d (.str c13),.d (.int .i64 c14),.own (Zc c15),.own (Zc c16)]]) = L ++ ([.int .i64 (rev + 1) :: .bool g :: [.int .i64 c0,.str c1,.int .i64 c2,.int .i64 (rev + 1),.int .i64 c4,.bool c5,.sl c6,.int .i64 c7,.str c8,.int .i64 c9,.sl c10,.sl c11,.int .i64 c12,.str c13,.int .i64 c14,.sl c15,.sl c16]] : LD) := fun g => by
  rw [Za3,ZK]
  simp only [C.immRows,C.immCells,C.imm,ZK]
 have logR : ∀ g : Bool,(∀ r ∈ L ++ ([.int .i64 (rev + 1) :: .bool g :: [.int .i64 c0,.str c1,.int .i64 c2,.int .i64 (rev + 1),.int .i64 c4,.bool c5,.sl c6,.int .i64 c7,.str c8,.int .i64 c9,.sl c10,.sl c11,.int .i64 c12,.str c13,.int .i64 c14,.sl c15,.sl c16]] : LD),Rlog lim r) ∧ (L ++ ([.int .i64 (rev + 1) :: .bool g :: [.int .i64 c0,.str c1,.int .i64 c2,.int .i64 (rev + 1),.int .i64 c4,.bool c5,.sl c6,.int .i64 c7,.str c8,.int .i64 c9,.sl c10,.sl c11,.int .i64 c12,.str c13,.int .i64 c14,.sl c15,.sl c16]] : LD)).length ≤ n + 1 := fun g => by
  refine ⟨fun r hr => ?_,by simp; omega⟩
  rcases List.mem_append.mp hr with hr | hr
  ·exact hB.rl r hr
  ·simp only [List.mem_singleton] at hr
   subst hr
   exact hO'.log hwr
 have x0 := hB.x0; have x1 := hB.x1
 have done : ∀ (X : LC) (g : Bool),(∀ r ∈ C.immRows X,Robj lim r) → (C.immRows X).length ≤ n + 1 → ∀ M : LD,(∀ r ∈ M,r ∈ L ++ ([.int .i64 (rev + 1) :: .bool g :: [.int .i64 c0,.str c1,.int .i64 c2,.int .i64 (rev + 1),.int .i64 c4,.bool c5,.sl c6,.int .i64 c7,.str c8,.int .i64 c9,.sl c10,.sl c11,.int .i64 c12,.str c13,.int .i64 c14,.sl c15,.sl c16]] : LD)) → M.length ≤ n + 1 → PutsD (n + 1) (some (X,rev + 1,next,M)) := fun X g h1 h2 M h3 h4 =>
  ⟨X,rev + 1,next,M,⟨h1,h2,fun r hr => (logR g).1 r (h3 r hr),h4,by omega,by omega,x0,by omega⟩,rfl⟩
 unfold YN.t YN.g
 rw [Yv.f_of (YaW gO gL hk)]
 dsimp only
 rw [ZK,l7Find_fv gO hk0,hw]
 have hlen : ∀ g : Bool,(Zc L ++ ([[.d (.int .i64 (rev + 1)),.d (.bool g),.d (.int .i64 c0),.d (.str c1),.d (.int .i64 c2),.d (.int .i64 (rev + 1)),.d (.int .i64 c4),.d (.bool c5),.own (Zc c6),.d (.int .i64 c7),.d (.str c8),.d (.int .i64 c9),.own (Zc c10),.own (Zc c11),.d (.int .i64 c12),.d (.str c13),.d (.int .i64 c14),.own (Zc c15),.own (Zc c16)]] : LC)).length = L.length + 1 := fun g => by rw [List.length_append,ZS]; rfl
 cases gone with
 | true =>
  simp only [cond_true]
  have hg := hg rfl
  obtain ⟨y,hy,hyl⟩ := findO_lt (l := O) (x := c0) (y := c1) (by omega)
  rw [hy]
  have hwy : IntKind.wrap .i64 ((y : Int) + 1) = ((y + 1 : Nat) : Int) := by rw [Z9 (by omega) (by omega)]; omega
  rw [hwy]
  simp only [Int.toNat_natCast,Int.toNat_zero,List.drop_zero,Nat.sub_zero,List.nil_append]
  rw [ZH ⟨by omega,by omega,by omega,rows17' hB.ro⟩,ZH (rows17_sub hB.ro fun r hr => List.mem_of_mem_take hr),ZH (by simp only [List.length_nil,map_len,List.length_take]; omega),ZH ⟨by omega,by omega,by omega,rows17' hB.ro⟩,ZH (rows17_sub hB.ro fun r hr => List.mem_of_mem_drop (List.mem_of_mem_take hr)),ZH (by simp only [List.length_nil,map_len,List.length_take,List.length_drop]; omega)]
  rw [YaU hO.k6 hO.k10 hO.k11 hO.k15 hO.k16 hk,ZH (by rw [ZS,List.length_singleton]; omega)]
  have hX : C.immRows ((O.take y).map (·.map C.d) ++ ((O.drop (y + 1)).take (O.length - (y + 1))).map (·.map C.d)) = O.take y ++ (O.drop (y + 1)).take (O.length - (y + 1)) := by rw [Za3,imm_rows,imm_rows]
  have hX1 : ∀ r ∈ C.immRows ((O.take y).map (·.map C.d) ++ ((O.drop (y + 1)).take (O.length - (y + 1))).map (·.map C.d)),Robj lim r := fun r hr => by
   rw [hX] at hr
   rcases List.mem_append.mp hr with hr | hr
   ·exact hB.ro r (List.mem_of_mem_take hr)
   ·exact hB.ro r (List.mem_of_mem_drop (List.mem_of_mem_take hr))
  have hX2 : (C.immRows ((O.take y).map (·.map C.d) ++ ((O.drop (y + 1)).take (O.length - (y + 1))).map (·.map C.d))).length ≤ n + 1 := by
   rw [hX]; simp only [List.length_append,List.length_take,List.length_drop]; omega
  rw [hlen true,logE true]
  by_cases h40 : ((L.length + 1 : Nat) : Int) > 40
  ·rw [ZY h40]
   simp only [cond_true]
   rw [ZH ⟨by omega,by omega,by omega⟩]
   exact done _ true hX1 hX2 _ (fun r hr => List.mem_of_mem_drop (List.mem_of_mem_take hr)) (by have := (logR true).2; simp only [List.length_take,List.length_drop]; omega)
  ·rw [ZZ h40]
   simp only [cond_false]
   exact done _ true hX1 hX2 _ (fun r hr => hr) (logR true).2
 | false =>
  simp only [cond_false]
  obtain ⟨ys,e1,e2⟩ := l7With_fv gO (x0 := c0) (x1 := c1) (x2 := c2) (x3 := rev + 1) (x4 := c4) (x5 := c5) (x7 := c7) (x8 := c8) (x9 := c9) (x12 := c12) (x13 := c13) (x14 := c14) hO.k6 hO.k10 hO.k11 hO.k15 hO.k16 hk
  rw [YM.f_of e1,YaU hO.k6 hO.k10 hO.k11 hO.k15 hO.k16 hk,ZH (by rw [ZS,List.length_singleton]; omega)]
  have hX1 : ∀ r ∈ C.immRows ys,Robj lim r := fun r hr => by
   rw [e2] at hr
   rcases withF_mem hr with hr | hr
   ·exact hB.ro r hr
   ·rw [hr]; exact hO'.row
  have hX2 : (C.immRows ys).length ≤ n + 1 := by
   rw [e2]
   refine Nat.le_trans withF_len ?_
   simp only [cond_false]
   omega
  rw [hlen false,logE false]
  by_cases h40 : ((L.length + 1 : Nat) : Int) > 40
  ·rw [ZY h40]
   simp only [cond_true]
   rw [ZH ⟨by omega,by omega,by omega⟩]
   exact done _ false hX1 hX2 _ (fun r hr => List.mem_of_mem_drop (List.mem_of_mem_take hr)) (by have := (logR false).2; simp only [List.length_take,List.length_drop]; omega)
  ·rw [ZZ h40]
   simp only [cond_false]
   exact done _ false hX1 hX2 _ (fun r hr => hr) (logR false).2
theorem strEq_eq2 {a b : BA} (h : Zae a b = true) : a = b := by
 unfold Zae at h
 have h := eq_of_beq h
 rw [ByteArray.toList_eq,ByteArray.toList_eq] at h
 obtain ⟨⟨x⟩⟩ := a
 obtain ⟨⟨y⟩⟩ := b
 simpa using h
theorem sl_nil {R : Nat → List D → Prop} : ZB R lim [] := ⟨Nat.zero_le _,fun r hr => by cases hr⟩
theorem deep_nil : Zc [] = [] := by simp only [Zc]
theorem OW.zero : OW 0 (⟨#[]⟩ : BA) 0 0 0 false [] 0 (⟨#[]⟩ : BA) 0 [] [] 0 (⟨#[]⟩ : BA) 0 [] [] := ⟨by decide,by decide,by decide,by decide,by decide,sl_nil,by decide,by decide,by decide,sl_nil,sl_nil,by decide,by decide,by decide,sl_nil,sl_nil⟩
theorem findO_self {O : LD} {x : Int} {y : BA} {i : Nat} (h : YaN O x y = (i : Int)) (hi : i < O.length) : gI O (i : Int) 0 = x ∧ gS O (i : Int) 1 = y := by
 unfold YaN at h
 obtain ⟨h1,h2,h3,-⟩ := findI_some (p := fun i => (gI O (i : Int) 0 == x) && Zae (gS O (i : Int) 1) y) (n := O.length) (by omega)
 have e : (ZbV (fun i => (gI O (i : Int) 0 == x) && Zae (gS O (i : Int) 1) y) O.length).toNat = i := by omega
 rw [e] at h2
 simp only [Bool.and_eq_true,beq_iff_eq] at h2
 exact ⟨h2.1,(strEq_eq2 h2.2)⟩
set_option maxRecDepth 100000 in
set_option maxHeartbeats 2000000 in
theorem get_ex {n : Nat} {O L : LD} {rev next : Int} (hB : YaL n O rev next L) (hn : n ≤ 900) {kind : Int} {name : BA} {k : Nat} (hk : Zai 1 k) : ∃ (c0 : Int) (c1 : BA) (c2 : Int) (c3 : Int) (c4 : Int) (c5 : Bool) (c6 : LD) (c7 : Int) (c8 : BA) (c9 : Int) (c10 : LD) (c11 : LD) (c12 : Int) (c13 : BA) (c14 : Int) (c15 : LD) (c16 : LD) (ok : Bool),OW c0 c1 c2 c3 c4 c5 c6 c7 c8 c9 c10 c11 c12 c13 c14 c15 c16 ∧ (ok = true → 0 ≤ YaN O c0 c1) ∧ YaE.t k O rev next L kind name = some (c0,c1,c2,c3,c4,c5,Zc c6,c7,c8,c9,Zc c10,Zc c11,c12,c13,c14,Zc c15,Zc c16,ok) := by
 have gO := hB.so (by omega)
 unfold YaE.t YaE.g; simp only [atR,rdQ,Q.ask]
 rw [l7Find_fv gO (up0 hk)]
 by_cases h : YaN O kind name < 0
 ·rw [ZY h]
  simp only [cond_true]
  refine ⟨0,⟨#[]⟩,0,0,0,false,[],0,⟨#[]⟩,0,[],[],0,⟨#[]⟩,0,[],[],false,OW.zero,by simp,?_⟩
  rw [deep_nil]
 ·rw [ZZ h]
  simp only [cond_false]
  obtain ⟨i,hi,hil⟩ := findO_lt h
  rw [hi]
  have hrow := hB.ro _ (gR_mem (xs := O) (v := (i : Int)) (by omega) (by omega))
  obtain ⟨c0,c1,c2,c3,c4,c5,c6,c7,c8,c9,c10,c11,c12,c13,c14,c15,c16,e,hO⟩ := OW.of hrow
  obtain ⟨s1,s2⟩ := findO_self hi hil
  have e0 : gI O (i : Int) 0 = c0 := by unfold gI; rw [e]; rfl
  have e1 : gS O (i : Int) 1 = c1 := by unfold gS; rw [e]; rfl
  refine ⟨c0,c1,c2,c3,c4,c5,c6,c7,c8,c9,c10,c11,c12,c13,c14,c15,c16,true,hO,fun _ => ?_,?_⟩
  ·rw [← e0,← e1,s1,s2]; omega
  ·simp (disch := omega) only [atR,rdQ,Q.ask,Zck (xs := O) (v := (i : Int)),e,Z4,Z5,ZaQ,ZaV,Zbl,Zan]
   rw [YaU hO.k6 hO.k10 hO.k11 hO.k15 hO.k16 hk]
theorem at_ex {n : Nat} {O L : LD} {rev next : Int} (hB : YaL n O rev next L) (hn : n ≤ 900) {kind rv : Int} {name : BA} {k : Nat} (hk : Zai 1 k) : ∃ (c0 : Int) (c1 : BA) (c2 : Int) (c3 : Int) (c4 : Int) (c5 : Bool) (c6 : LD) (c7 : Int) (c8 : BA) (c9 : Int) (c10 : LD) (c11 : LD) (c12 : Int) (c13 : BA) (c14 : Int) (c15 : LD) (c16 : LD) (code : Int),OW c0 c1 c2 c3 c4 c5 c6 c7 c8 c9 c10 c11 c12 c13 c14 c15 c16 ∧ (code = 0 → 0 ≤ YaN O c0 c1) ∧ Yao.t k O rev next L kind name rv = some (c0,c1,c2,c3,c4,c5,Zc c6,c7,c8,c9,Zc c10,Zc c11,c12,c13,c14,Zc c15,Zc c16,code) := by
 obtain ⟨c0,c1,c2,c3,c4,c5,c6,c7,c8,c9,c10,c11,c12,c13,c14,c15,c16,ok,hO,hf,e⟩ := get_ex hB hn (kind := kind) (name := name) hk
 unfold Yao.t Yao.g YaE.f
 rw [e]
 dsimp only
 cases ok with
 | false =>
  simp only [Bool.not_false,cond_true]
  exact ⟨c0,c1,c2,c3,c4,c5,c6,c7,c8,c9,c10,c11,c12,c13,c14,c15,c16,3,hO,fun q => absurd q (by decide),rfl⟩
 | true =>
  simp only [Bool.not_true,cond_false]
  have hf := hf rfl
  cases decide (rv ≥ 0) <;> cases (c3 != rv) <;> simp only [cond_true,cond_false] <;> first | exact ⟨c0,c1,c2,c3,c4,c5,c6,c7,c8,c9,c10,c11,c12,c13,c14,c15,c16,0,hO,fun _ => hf,rfl⟩ | exact ⟨c0,c1,c2,c3,c4,c5,c6,c7,c8,c9,c10,c11,c12,c13,c14,c15,c16,4,hO,fun q => absurd q (by decide),rfl⟩
def OpD (n : Nat) (o : Option (LC × Int × Int × LD × Int)) : Prop := ∃ X rev next L code,YaL n (C.immRows X) rev next L ∧ o = some (X,rev,next,L,code)
theorem OpD.base {n : Nat} {O L : LD} {rev next : Int} (hB : YaL n O rev next L) (code : Int) : OpD (n + 1) (some (Zc O,rev,next,C.immRows (Zc L),code)) :=
 ⟨_,_,_,_,code,by rw [ZK,ZK]; exact hB.up (by omega),rfl⟩
theorem OpD.puts {n : Nat} {o : Option (LC × Int × Int × LD)} (h : PutsD (n + 1) o) (code : Int) : OpD (n + 1) (bd4 o fun a b c d => some (a,b,c,d,code)) := by
 obtain ⟨X,rev,next,L,hB,rfl⟩ := h
 exact ⟨X,rev,next,L,code,hB,rfl⟩
set_option maxRecDepth 100000 in
set_option maxHeartbeats 2000000 in
theorem remove_ex {n : Nat} {O L : LD} {rev next : Int} (hB : YaL n O rev next L) (hn : n ≤ 900) {kind : Int} {name : BA} (hs : name.size ≤ lim) {k : Nat} (hk : Zai 1 k) : OpD (n + 1) (YaC.t k O rev next L kind name) := by
 have gO := hB.so (by omega)
 have gL := hB.sl (by omega)
 unfold YaC.t YaC.g
 rw [Yz.fv gO gL hs hk]
 cases (Yz.v O rev next L kind name true != 0) with
 | true =>
  simp only [cond_true]
  rw [Yv.f_of (YaW gO gL hk)]
  exact .base hB _
 | false =>
  simp only [cond_false]
  obtain ⟨c0,c1,c2,c3,c4,c5,c6,c7,c8,c9,c10,c11,c12,c13,c14,c15,c16,code,hO,hf,e⟩ := at_ex hB hn (kind := kind) (name := name) (rv := -1) hk
  unfold Yao.f
  rw [e]
  dsimp only
  cases hc : (code != 0) with
  | true =>
   simp only [cond_true]
   rw [Yv.f_of (YaW gO gL hk)]
   exact .base hB _
  | false =>
   have hf := hf (by simpa using hc)
   simp only [cond_false,ZK]
   cases (((Zc c6).length : Int) == 0) with
   | true =>
    simp only [cond_true]
    exact .puts (puts_ex hB hn hO (fun _ => hf) hk) 0
   | false =>
    simp only [cond_false]
    cases c5 with
    | true =>
     simp only [cond_true]
     rw [Yv.f_of (YaW gO gL hk)]
     simp only [ZK]
     have := OpD.base hB 0
     rwa [ZK] at this
    | false =>
     simp only [cond_false]
     exact .puts (puts_ex hB hn (c5 := true) ⟨hO.k0,hO.k1,hO.k2,hO.k3,hO.k4,hO.k6,hO.k7,hO.k8,hO.k9,hO.k10,hO.k11,hO.k12,hO.k13,hO.k14,hO.k15,hO.k16⟩ (by simp) hk) 0
theorem wrap_wf2 (x : Int) : (Lit.int .i64 (IntKind.wrap .i64 x)).wf = true := by
 have h : -9223372036854775808 ≤ IntKind.wrap .i64 x ∧ IntKind.wrap .i64 x ≤ 9223372036854775807 := by
  rw [IntKind.wrap_i64]
  omega
 exact wf_of h.1 h.2
set_option maxRecDepth 100000 in
theorem sameB (n : Nat) : ∀ (c0 : Int) (c1 : BA) (c2 : Int) (c3 c4 : LD) (e0 : Int) (e1 : BA) (e2 : Int) (e3 e4 : LD),ZB RS lim c3 → c4.length ≤ lim → (∀ x ∈ c4,Yak lim n x) → ZB RS lim e3 → e4.length ≤ lim → (∀ x ∈ e4,Yak lim n x) → ∀ {k : Nat},big + n + 1 ≤ k → ∃ b,Yf.t k c0 c1 c2 c3 c4 e0 e1 e2 e3 e4 = some b := by
 have hlim : lim = 1048576 := rfl
 have hb : big = 2 ^ 64 := rfl
 induction n using Nat.strongRecOn with
 | ind n ih =>
 intro c0 c1 c2 c3 c4 e0 e1 e2 e3 e4 g3 l4 g4 f3 m4 f4 k hk
 have l3 := g3.1
 have m3 := f3.1
 obtain ⟨k,rfl⟩ : ∃ k',k = k' + 1 := ⟨k - 1,by omega⟩
 rw [Yf.t_succ]
 unfold Yf.g Yf.body Yf.m
 cases (c0 != e0)
 case true => exact ⟨_,rfl⟩
 simp only [cond_false]
 cases !(Zae c1 e1)
 case true => exact ⟨_,rfl⟩
 simp only [cond_false]
 cases (c2 != e2)
 case true => exact ⟨_,rfl⟩
 simp only [cond_false]
 cases hl3 : ((c3.length : Int) != (e3.length : Int))
 case true => exact ⟨_,rfl⟩
 simp only [cond_false]
 cases hl4 : ((c4.length : Int) != (e4.length : Int))
 case true => exact ⟨_,rfl⟩
 simp only [cond_false]
 have q3 : c3.length = e3.length := by simp only [bne_eq_false_iff_eq] at hl3; omega
 have q4 : c4.length = e4.length := by simp only [bne_eq_false_iff_eq] at hl4; omega
 refine YaR (fun v => ((c3.length : Int) - v).toNat) (fun v => 0 ≤ v ∧ v ≤ (c3.length : Int)) (fun o => ∃ b,o = some b) ?_ (v := (0 : Int)) ⟨by omega,by omega⟩ (by omega)
 rintro v ⟨v0,v1⟩ L hL
 by_cases hv : v < (c3.length : Int)
 ·simp (disch := omega) only [Yf.l0,Yf.m0,atR,rdQ,Q.ask,ZY hv,cond_true,RS.row g3,RS.row f3,Z4,ZaQ,Zan,Z9]
  cases !(Zae (gS c3 v 0) (gS e3 v 0))
  ·simp only [cond_false]
   exact hL _ ⟨by omega,by omega⟩ (by omega)
  ·exact ⟨_,rfl⟩
 ·simp only [Yf.l0,Yf.m0,atR,rdQ,Q.ask,ZZ hv,cond_false]
  refine YaR (fun v => ((c4.length : Int) - v).toNat) (fun v => 0 ≤ v ∧ v ≤ (c4.length : Int)) (fun o => ∃ b,o = some b) ?_ (v := (0 : Int)) ⟨by omega,by omega⟩ (by omega)
  rintro w ⟨w0,w1⟩ L2 hL2
  by_cases hw : w < (c4.length : Int)
  ·have part : ∀ (c4 : LD),c4.length ≤ lim → (∀ x ∈ c4,Yak lim n x) → w < (c4.length : Int) → ∃ n',n = n' + 1 ∧ ∃ d0 d1 d2 d3 d4,gR c4 w = [.int .i64 d0,.str d1,.int .i64 d2,.sl d3,.sl d4] ∧ ZB RS lim d3 ∧ d4.length ≤ lim ∧ ∀ x ∈ d4,Yak lim n' x := fun c4 _ g4 hw => by
    have := g4 _ (gR_mem w0 hw)
    generalize gR c4 w = r at this
    cases this with
    | mk e0 e1 e2 e3 e4 w0 p1 w2 p3 p4 p5 => exact ⟨_,rfl,_,_,_,_,_,rfl,p3,p4,p5⟩
   obtain ⟨n1,hn1,d0,d1,d2,d3,d4,ed,w3,w4,w5⟩ := part c4 l4 g4 hw
   obtain ⟨n2,hn2,x0,x1,x2,x3,x4,ex,y3,y4,y5⟩ := part e4 m4 f4 (by omega)
   obtain rfl : n1 = n2 := by omega
   obtain ⟨bb,eb⟩ := ih n1 (by omega) d0 d1 d2 d3 d4 x0 x1 x2 x3 x4 w3 w4 w5 y3 y4 y5 (k := k) (by omega)
   simp (disch := omega) only [Yf.l1,atR,rdQ,Q.ask,ZY hw,cond_true,Zck (xs := c4) (v := w),Zck (xs := e4) (v := w),ed,ex,Z4,Z5,ZaQ,Zbl,Zan,Yf.f_of eb,Z9]
   cases bb
   ·exact ⟨_,rfl⟩
   ·simp only [Bool.not_true,cond_false]
    exact hL2 _ ⟨by omega,by omega⟩ (by omega)
  ·simp only [Yf.l1,atR,rdQ,Q.ask,ZZ hw,cond_false]
   exact ⟨_,rfl⟩
theorem sameB_t {c0 c2 e0 e2 : Int} {c1 e1 : BA} {c3 c4 e3 e4 : LD} (g3 : ZB RS lim c3) (g4 : ZB Ys lim c4) (f3 : ZB RS lim e3) (f4 : ZB Ys lim e4) {k : Nat} (hk : Zai 1 k) : ∃ b,Yf.t k c0 c1 c2 c3 c4 e0 e1 e2 e3 e4 = some b :=
 sameB 1099511627776 c0 c1 c2 c3 c4 e0 e1 e2 e3 e4 g3 g4.1 (value_h g4) f3 f4.1 (value_h f4) (Nat.le_trans (big_lv1 (n := 1099511627776 + 1) (by omega)) hk)
set_option maxRecDepth 100000 in
set_option maxHeartbeats 2000000 in
theorem setStatus_ex {n : Nat} {O L : LD} {rev next : Int} (hB : YaL n O rev next L) (hn : n ≤ 900) {kind r : Int} {name : BA} (hs : name.size ≤ lim) {v0 v2 : Int} {v1 : BA} {v3 v4 : LD} (u0 : (Lit.int .i64 v0).wf = true) (u1 : v1.size ≤ lim) (u2 : (Lit.int .i64 v2).wf = true) (u3 : ZB RS lim v3) (u4 : ZB Ys lim v4) {k : Nat} (hk : Zai 1 k) : OpD (n + 1) (Yar.t k O rev next L kind name r v0 v1 v2 v3 v4) := by
 have gO := hB.so (by omega)
 have gL := hB.sl (by omega)
 unfold Yar.t Yar.g
 rw [Yn.fv u1 u3 u4 hk]
 cases Yn.v v0 v1 v2 v3 v4 <;> simp only [cond_true,cond_false] <;> rw [Yz.fv gO gL hs hk]
 all_goals
  generalize (Yz.v O rev next L kind name _ ) = q
  cases (q != 0)
 all_goals try simp only [cond_true,cond_false]
 all_goals first
  | (rw [Yv.f_of (YaW gO gL hk)]; exact OpD.base hB _)
  | skip
 all_goals
  obtain ⟨c0,c1,c2,c3,c4,c5,c6,c7,c8,c9,c10,c11,c12,c13,c14,c15,c16,code,hO,hf,e⟩ := at_ex hB hn (kind := kind) (name := name) (rv := r) hk
  unfold Yao.f
  rw [e]
  dsimp only
  cases (code != 0) <;> simp only [cond_true,cond_false]
  ·simp only [ZK]
   exact .puts (puts_ex hB hn (show OW c0 c1 c2 c3 c4 c5 c6 c7 c8 c9 c10 c11 v0 v1 v2 v3 v4 from ⟨hO.k0,hO.k1,hO.k2,hO.k3,hO.k4,hO.k6,hO.k7,hO.k8,hO.k9,hO.k10,hO.k11,u0,u1,u2,u3,u4⟩) (by simp) hk) 0
  ·rw [Yv.f_of (YaW gO gL hk)]
   exact OpD.base hB _
set_option maxRecDepth 100000 in
set_option maxHeartbeats 4000000 in
theorem update_ex {n : Nat} {O L : LD} {rev next : Int} (hB : YaL n O rev next L) (hn : n ≤ 900) {kind r : Int} {name : BA} (hs : name.size ≤ lim) {v0 v2 : Int} {v1 : BA} {v3 v4 : LD} (u0 : (Lit.int .i64 v0).wf = true) (u1 : v1.size ≤ lim) (u2 : (Lit.int .i64 v2).wf = true) (u3 : ZB RS lim v3) (u4 : ZB Ys lim v4) {k : Nat} (hk : Zai 1 k) : OpD (n + 1) (Yay.t k O rev next L kind name r v0 v1 v2 v3 v4) := by
 have gO := hB.so (by omega)
 have gL := hB.sl (by omega)
 unfold Yay.t Yay.g
 rw [Yn.fv u1 u3 u4 hk]
 cases Yn.v v0 v1 v2 v3 v4 <;> simp only [cond_true,cond_false] <;> rw [Yz.fv gO gL hs hk]
 all_goals
  generalize (Yz.v O rev next L kind name _ ) = q
  cases (q != 0)
 all_goals try simp only [cond_true,cond_false]
 all_goals first
  | (rw [Yv.f_of (YaW gO gL hk)]; exact OpD.base hB _)
  | skip
 all_goals
  obtain ⟨c0,c1,c2,c3,c4,c5,c6,c7,c8,c9,c10,c11,c12,c13,c14,c15,c16,code,hO,hf,e⟩ := at_ex hB hn (kind := kind) (name := name) (rv := r) hk
  obtain ⟨sb,es⟩ := sameB_t (c0 := c7) (c1 := c8) (c2 := c9) (e0 := v0) (e1 := v1) (e2 := v2) hO.k10 hO.k11 u3 u4 hk
  unfold Yao.f
  rw [e]
  dsimp only
  simp only [ZK,Yf.f_of es,Yv.f_of (YaW gO gL hk)]
  have b1 : ∀ cd : Int,OpD (n + 1) (some (Zc O,rev,next,L,cd)) := fun cd => by
   have := OpD.base hB cd
   rwa [ZK] at this
  have b2 : ∀ x : Int,(Lit.int .i64 x).wf = true → OpD (n + 1) (YN.f k O rev next L c0 c1 c2 c3 x c5 c6 v0 v1 v2 v3 v4 c12 c13 c14 c15 c16 false (fun z0 z1 z2 z3 => some (z0,z1,z2,z3,0))) := fun x hx => .puts (puts_ex hB hn (c4 := x) (show OW c0 c1 c2 c3 x c5 c6 v0 v1 v2 v3 v4 c12 c13 c14 c15 c16 from ⟨hO.k0,hO.k1,hO.k2,hO.k3,hx,hO.k6,u0,u1,u2,u3,u4,hO.k12,hO.k13,hO.k14,hO.k15,hO.k16⟩) (by simp) hk) 0
  cases (code == 0) <;> cases (code != 0) <;> cases c5 <;> cases sb <;> simp only [cond_true,cond_false,Bool.not_true,Bool.not_false,show ((6 : Int) != 0) = true from rfl] <;> first | exact b1 _ | exact b2 _ hO.k4 | exact b2 _ (wrap_wf2 _)
set_option maxRecDepth 100000 in
set_option maxHeartbeats 2000000 in
theorem create_ex {n : Nat} {O L : LD} {rev next : Int} (hB : YaL n O rev next L) (hn : n ≤ 800) {kind : Int} {name : BA} (hkd : (Lit.int .i64 kind).wf = true) (hs : name.size ≤ lim) {v0 v2 : Int} {v1 : BA} {v3 v4 : LD} (u0 : (Lit.int .i64 v0).wf = true) (u1 : v1.size ≤ lim) (u2 : (Lit.int .i64 v2).wf = true) (u3 : ZB RS lim v3) (u4 : ZB Ys lim v4) {ws : LD} (hw : ZB RS lim ws) {k : Nat} (hk : Zai 1 k) : OpD (n + 2) (YaD.t k O rev next L kind name v0 v1 v2 v3 v4 ws) := by
 have hlim : lim = 1048576 := rfl
 have hm : Z8 = 2 ^ 36 := rfl
 have gO := hB.so (by omega)
 have gL := hB.sl (by omega)
 have hwl := hw.1
 have x0 := hB.x0; have x1 := hB.x1
 have hwn : IntKind.wrap .i64 (next + 1) = next + 1 := Z9 (by omega) (by omega)
 have hB2 : YaL (n + 1) O rev (next + 1) L := ⟨hB.ro,by have := hB.lo; omega,hB.rl,by have := hB.ll; omega,hB.r0,by have := hB.r1; omega,by omega,by omega⟩
 have b1 : ∀ cd : Int,OpD (n + 2) (some (Zc O,rev,next,L,cd)) := fun cd => by
  have := OpD.base (hB.up (show n ≤ n + 1 by omega)) cd
  rwa [ZK] at this
 have hOW : OW kind name next 0 1 false ws v0 v1 v2 v3 v4 5 (⟨#[]⟩ : BA) 0 [] [] := ⟨hkd,hs,wf_of (by omega) (by omega),by decide,by decide,hw,u0,u1,u2,u3,u4,by decide,by decide,by decide,sl_nil,sl_nil⟩
 have b2 : OpD (n + 2) (YN.f k O rev (next + 1) L kind name next 0 1 false ws v0 v1 v2 v3 v4 5 (⟨#[]⟩ : BA) 0 [] [] false (fun z0 z1 z2 z3 => some (z0,z1,z2,z3,0))) := .puts (puts_ex hB2 (by omega) hOW (by simp) hk) 0
 unfold YaD.t YaD.g
 rw [Yn.fv u1 u3 u4 hk]
 cases Yn.v v0 v1 v2 v3 v4 <;> simp only [cond_true,cond_false]
 case' true => rw [Ym.fv hw (up0 hk)]
 all_goals
  rw [Yz.fv gO gL hs hk]
  generalize (Yz.v O rev next L kind name _ ) = q
  cases (q != 0) <;> simp only [cond_true,cond_false]
 all_goals first
  | (rw [Yv.f_of (YaW gO gL hk),ZK]; exact b1 _)
  | skip
 all_goals
  rw [l7Find_fv gO (up0 hk)]
  cases decide (YaN O kind name ≥ 0) <;> cases ((O.length : Int) == 60) <;> simp only [cond_true,cond_false] <;> rw [Yv.f_of (YaW gO gL hk)]
 all_goals simp only [ZK]
 all_goals first
  | exact b1 _
  | (rw [ZH (RS.flat hw.2),ZH (by simp only [List.length_nil,map_len]; omega),l4Copy_fv u3 u4 hk,hwn]; simp only [ZK,List.nil_append,imm_rows]; exact b2)
set_option maxRecDepth 100000 in
set_option maxHeartbeats 4000000 in
theorem finish_ex {n : Nat} {O L : LD} {rev next : Int} (hB : YaL n O rev next L) (hn : n ≤ 900) {kind : Int} {name wait : BA} (hs : name.size ≤ lim) (ht : wait.size ≤ lim) {k : Nat} (hk : Zai 1 k) : OpD (n + 1) (YU.t k O rev next L kind name wait) := by
 have hlim : lim = 1048576 := rfl
 have hm : Z8 = 2 ^ 36 := rfl
 have hb : big = 2 ^ 64 := rfl
 have hkb : 2 ^ 65 ≤ k := hk
 have gO := hB.so (by omega)
 have gL := hB.sl (by omega)
 have b1 : ∀ cd : Int,OpD (n + 1) (some (Zc O,rev,next,L,cd)) := fun cd => by
  have := OpD.base hB cd
  rwa [ZK] at this
 unfold YU.t YU.g YU.m
 rw [Yh.fv ht (up0 hk),Yz.fv gO gL hs hk]
 generalize (Yz.v O rev next L kind name _ ) = q
 cases (q != 0) <;> simp only [cond_true,cond_false]
 case true => rw [Yv.f_of (YaW gO gL hk),ZK]; exact b1 _
 obtain ⟨c0,c1,c2,c3,c4,c5,c6,c7,c8,c9,c10,c11,c12,c13,c14,c15,c16,code,hO,hf,e⟩ := at_ex hB hn (kind := kind) (name := name) (rv := -1) hk
 unfold Yao.f
 rw [e]
 dsimp only
 cases hc : (code != 0) <;> simp only [cond_true,cond_false]
 case true => rw [Yv.f_of (YaW gO gL hk),ZK]; exact b1 _
 have hf := hf (by simpa using hc)
 rw [ZK,YC.fv hO.k6 ht (up0 hk)]
 cases !(YC.v c6 wait) <;> simp only [cond_true,cond_false]
 case true => rw [Yv.f_of (YaW gO gL hk),ZK]; exact b1 _
 have h6 := hO.k6.1
 have hc6 : Zc c6 = c6.map (·.map C.d) := RS.deep hO.k6.2
 refine YaR (fun v => ((c6.length : Int) - v.1).toNat) (fun v => 0 ≤ v.1 ∧ v.1 ≤ (c6.length : Int) ∧ ∃ o : LD,v.2 = o.map (·.map C.d) ∧ (∀ r ∈ o,RS lim r) ∧ (o.length : Int) ≤ v.1) (OpD (n + 1)) ?_ (v := ((0 : Int),([] : LC))) ⟨by simp,by simp,[],rfl,by simp,by simp⟩ (by simp only []; omega)
 rintro ⟨v,out⟩ ⟨v0,v1,o,ho,hor,hol⟩ L2 hL
 simp only at v0 v1 ho hol
 subst ho
 by_cases hv : v < (c6.length : Int)
 ·have hr := RS.gets hO.k6.2 v0 hv
  simp only [YU.l0,hc6,map_len,ZY hv,cond_true,ZH (show (0 : Int) ≤ v ∧ v < (c6.length : Int) from ⟨v0,hv⟩),atNat_up v0 hv,hr.1,List.map_cons,List.map_nil,List.drop_zero,Z4,cD_at,ZaQ,Z9 (show -9223372036854775808 ≤ v + 1 by omega) (show v + 1 ≤ 9223372036854775807 by omega)]
  cases !(Zae (gS c6 v 0) wait) <;> simp only [cond_true,cond_false]
  ·exact hL _ ⟨by show 0 ≤ v + 1; omega,by show v + 1 ≤ (c6.length : Int); omega,o,rfl,hor,by show (o.length : Int) ≤ v + 1; omega⟩ (by show ((c6.length : Int) - (v + 1)).toNat < ((c6.length : Int) - v).toNat; omega)
  ·rw [ZH (by simp only [List.length_singleton]; omega)]
   exact hL _ ⟨by show 0 ≤ v + 1; omega,by show v + 1 ≤ (c6.length : Int); omega,o ++ [[.str (gS c6 v 0)]],by rw [List.map_append]; rfl,YaP hor ⟨_,rfl,hr.2.1,trivial⟩,by rw [List.length_append,List.length_singleton]; show ((o.length + 1 : Nat) : Int) ≤ v + 1; omega⟩ (by show ((c6.length : Int) - (v + 1)).toNat < ((c6.length : Int) - v).toNat; omega)
 ·have hoS : ZB RS lim o := ⟨by omega,hor⟩
  have hO2 : ∀ e5 : Bool,OW c0 c1 c2 c3 c4 e5 o c7 c8 c9 c10 c11 c12 c13 c14 c15 c16 := fun e5 => ⟨hO.k0,hO.k1,hO.k2,hO.k3,hO.k4,hoS,hO.k7,hO.k8,hO.k9,hO.k10,hO.k11,hO.k12,hO.k13,hO.k14,hO.k15,hO.k16⟩
  simp only [YU.l0,hc6,map_len,ZZ hv,cond_false,ZK,imm_rows]
  cases c5 <;> simp only [cond_true,cond_false]
  ·exact .puts (puts_ex hB hn (hO2 false) (by simp) hk) 0
  ·exact .puts (puts_ex hB hn (hO2 true) (fun _ => hf) hk) 0
set_option maxRecDepth 100000 in
set_option maxHeartbeats 2000000 in
theorem waiting_ex {k : Nat} {b : LD} {i h : Int} (c : Cur b i) : ∃ (ws : LD) (i' h' : Int),ZB RS lim ws ∧ Cur b i' ∧ Yaf.t k b i h = some (ws,b,i',h') := by
 unfold Yaf.t Yaf.g
 obtain ⟨x,i1,h1,x0,x1,-,hc1,e1⟩ := YaM (k := k) (h := h) (n := 5) c
 have x1 := x1 (by decide)
 rw [Yp.f_of e1]
 have one : ∀ l : List BA,(∀ s ∈ l,s.size ≤ 1000) → l.length ≤ 10 → ZB RS lim (l.map fun s => [D.str s]) := fun l hl hn => ⟨by rw [List.length_map]; exact Nat.le_trans hn (by decide),strs_in hl⟩
 have hx : x = 0 ∨ x = 1 ∨ x = 2 ∨ x = 3 ∨ x = 4 := by omega
 rcases hx with rfl | rfl | rfl | rfl | rfl
 ·exact ⟨_,_,_,one [] (by decide) (by decide),hc1,rfl⟩
 ·exact ⟨_,_,_,one [] (by decide) (by decide),hc1,rfl⟩
 ·exact ⟨_,_,_,one [⟨#[104,117,98]⟩] (by decide) (by decide),hc1,rfl⟩
 ·exact ⟨_,_,_,one [⟨#[104,117,98]⟩,⟨#[110,101,116]⟩] (by decide) (by decide),hc1,rfl⟩
 ·exact ⟨_,_,_,one [⟨#[98]⟩,⟨#[97]⟩] (by decide) (by decide),hc1,rfl⟩
set_option maxRecDepth 100000 in
set_option maxHeartbeats 2000000 in
theorem map_ex {k : Nat} (hk : Zai 1 k) {b : LD} {i h : Int} (c : Cur b i) : ∃ (v0 : Int) (v1 : BA) (v2 : Int) (Y3 Y4 : LC) (i' h' : Int),((Lit.int .i64 v0).wf = true ∧ v1.size ≤ lim ∧ (Lit.int .i64 v2).wf = true ∧ ZB RS lim (C.immRows Y3) ∧ ZB Ys lim (C.immRows Y4)) ∧ Cur b i' ∧ YW.t k b i h = some (v0,v1,v2,Y3,Y4,b,i',h') := by
 have hlim : lim = 1048576 := rfl
 have hm : Z8 = 2 ^ 36 := rfl
 have hb : big = 2 ^ 64 := rfl
 have hkb : 2 ^ 65 ≤ k := hk
 unfold YW.t YW.g
 obtain ⟨l,i2,h2,hl,hll,hc2,e2⟩ := labels_ex (k := k) (h := h) (M := 5) (up0 hk) c (by decide)
 have hll : l.length ≤ 5 := hll
 rw [YK.f_of e2]
 refine YaR (fun v => 5 - v.1.toNat) (fun v => 0 ≤ v.1 ∧ v.1 ≤ (l.length : Int) ∧ v.2.1 = b ∧ Cur b v.2.2.1 ∧ ∃ ks o : LD,v.2.2.2.2.1 = ks.map (·.map C.d) ∧ v.2.2.2.2.2 = Zc o ∧ (∀ r ∈ ks,RS lim r) ∧ (∀ r ∈ o,VSm 1000 4 r) ∧ (o.length : Int) = v.1 ∧ (ks.length : Int) = v.1) (fun o => ∃ (v0 : Int) (v1 : BA) (v2 : Int) (Y3 Y4 : LC) (i' h' : Int),((Lit.int .i64 v0).wf = true ∧ v1.size ≤ lim ∧ (Lit.int .i64 v2).wf = true ∧ ZB RS lim (C.immRows Y3) ∧ ZB Ys lim (C.immRows Y4)) ∧ Cur b i' ∧ o = some (v0,v1,v2,Y3,Y4,b,i',h')) ?_ (v := (0,b,i2,h2,[],[])) ⟨by simp,by simp,rfl,hc2,[],[],rfl,by simp only [Zc],by simp,by simp,by simp,by simp⟩ (by show 5 - 0 < k; omega)
 rintro ⟨n,b',i,h,keys,out⟩ ⟨n0,n1,eb,hc,ks,o,e,e',hk',ho,hlen,hlen'⟩ L hL
 simp only at n0 n1 eb hc e e' hlen hlen'
 subst eb e e'
 by_cases hn : n < (l.length : Int)
 ·obtain ⟨c0,c1,c2,c3,c4,i3,h3,hv,hc3,e3⟩ := value_ex 3 (k := k) (h := h) hc (by omega) (by omega)
  rw [show ((3 : Nat) : Int) = 3 from rfl] at e3
  have hr := RSS.gets hl n0 hn
  simp only [YW.l0,map_len,ZY hn,cond_true,ZH (show (0 : Int) ≤ n ∧ n < (l.length : Int) from ⟨n0,hn⟩),atNat_up n0 hn,hr.1,List.map_cons,List.map_nil,List.drop_zero,Z4,cD_at,ZaQ,Yg.f_of e3,List.length_singleton,Z9 (show -9223372036854775808 ≤ n + 1 by omega) (show n + 1 ≤ 9223372036854775807 by omega)]
  rw [ZH (by omega),ZH (by rw [ZS]; omega),deep_app1]
  exact hL _ ⟨by show 0 ≤ n + 1; omega,by show n + 1 ≤ (l.length : Int); omega,rfl,hc3,ks ++ [[.str (gS l n 0)]],_,by rw [List.map_append]; rfl,rfl,YaP hk' ⟨_,rfl,hr.2.1,trivial⟩,YaP ho hv,by rw [List.length_append,List.length_singleton]; show ((o.length + 1 : Nat) : Int) = n + 1; omega,by rw [List.length_append,List.length_singleton]; show ((ks.length + 1 : Nat) : Int) = n + 1; omega⟩ (by show 5 - (n + 1).toNat < 5 - n.toNat; omega)
 ·simp only [YW.l0,map_len,ZZ hn,cond_false]
  refine ⟨_,_,_,_,_,_,_,⟨by decide,by decide,by decide,?_,?_⟩,hc,rfl⟩
  ·rw [imm_rows]; exact ⟨by omega,hk'⟩
  ·rw [ZK]
   exact ⟨by omega,fun r hr => ⟨4,fun _ => by decide,(ho r hr).val (by decide)⟩⟩
def ActD (b : LD) (n : Nat) (o : Option (LD × Int × Int × LD × LD × Int × Int)) : Prop := ∃ O rev next L i h,YaL n O rev next L ∧ Cur b i ∧ o = some (O,rev,next,L,b,i,h)
theorem OpD.act {b : LD} {n m : Nat} {o : Option (LC × Int × Int × LD × Int)} (h : OpD n o) (hn : n ≤ m) {i g : Int} (c : Cur b i) : ActD b m (bd5 o fun y1 y2 y3 y4 _ => some (C.immRows y1,y2,y3,y4,b,i,g)) := by
 obtain ⟨X,rev,next,L,code,hB,rfl⟩ := h
 exact ⟨_,_,_,_,_,_,hB.up hn,c,rfl⟩
set_option maxRecDepth 100000 in
set_option maxHeartbeats 4000000 in
theorem act_ex {n : Nat} {O L : LD} {rev next : Int} (hB : YaL n O rev next L) (hn : n ≤ 700) {k : Nat} (hk : Zai 1 k) {b : LD} {i h : Int} (c : Cur b i) : ActD b (n + 2) (YaA.t k b i h O rev next L) := by
 unfold YaA.t YaA.g
 obtain ⟨y,i1,h1,y0,y1,-,hc1,e1⟩ := YaM (k := k) (h := h) (n := 2) c
 have y1 := y1 (by decide)
 rw [Yp.f_of e1]
 have hwk : (Lit.int .i64 (IntKind.wrap .i64 (1 + y))).wf = true := wrap_wf2 _
 generalize IntKind.wrap .i64 (1 + y) = kind at hwk
 have hstr : ∀ r ∈ ([[.str (⟨#[97]⟩ : BA)],[.str (⟨#[98]⟩ : BA)],[.str (⟨#[99]⟩ : BA)]] : LD),RS lim r := by
  intro r hr
  simp only [List.mem_cons,List.not_mem_nil,or_false] at hr
  rcases hr with rfl | rfl | rfl <;> exact ⟨_,rfl,by decide,trivial⟩
 obtain ⟨j,i2,h2,j0,j1,hc2,e2⟩ := str_ex (k := k) (h := h1) hc1 hstr (by decide)
 have hns := (RS.gets hstr j0 j1).2.1
 rw [Yah.f_of e2]
 generalize gS _ j 0 = name at hns
 obtain ⟨c0,c1,c2,c3,c4,c5,c6,c7,c8,c9,c10,c11,c12,c13,c14,c15,c16,ok,hO,hf,e⟩ := get_ex hB (by omega) (kind := kind) (name := name) hk
 unfold YaE.f
 rw [e]
 dsimp only
 obtain ⟨x,i3,h3,x0,x1,-,hc3,e3⟩ := YaM (k := k) (h := h2) (n := 7) hc2
 have x1 := x1 (by decide)
 rw [Yp.f_of e3]
 obtain ⟨v0,v1,v2,Y3,Y4,i4,h4,⟨u0,u1,u2,u3,u4⟩,hc4,e4⟩ := map_ex hk (h := h3) hc3
 obtain ⟨ws,i5,h5,hws,hc5,e5⟩ := waiting_ex (k := k) (h := h4) hc4
 have stay : ActD b (n + 2) (some (O,rev,next,L,b,i3,h3)) := ⟨_,_,_,_,_,_,hB.up (by omega),hc3,rfl⟩
 have hcr := create_ex hB (by omega) hwk hns u0 u1 u2 u3 u4 hws hk
 have hup := update_ex hB (by omega) (kind := kind) (r := c3) hns u0 u1 u2 u3 u4 hk
 have hst := setStatus_ex hB (by omega) (kind := kind) (r := c3) hns u0 u1 u2 u3 u4 hk
 have hrm := remove_ex hB (by omega) (kind := kind) hns hk
 have hu2 := update_ex hB (by omega) (kind := kind) (r := c3) hns hO.k7 hO.k8 hO.k9 hO.k10 hO.k11 hk
 unfold YW.f
 rw [e4]
 dsimp only
 rw [Yaf.f_of e5]
 simp only [ZK]
 have hx : x = 0 ∨ x = 1 ∨ x = 2 ∨ x = 3 ∨ x = 4 ∨ x = 5 ∨ x = 6 := by omega
 rcases hx with rfl | rfl | rfl | rfl | rfl | rfl | rfl
 ·simp only [Int.reduceBEq,cond_true,cond_false]
  exact hcr.act (by omega) hc5
 ·simp only [Int.reduceBEq,cond_true,cond_false]
  exact hcr.act (by omega) hc5
 ·simp only [Int.reduceBEq,cond_true,cond_false]
  exact hup.act (by omega) hc4
 ·simp only [Int.reduceBEq,cond_true,cond_false]
  exact hst.act (by omega) hc4
 ·simp only [Int.reduceBEq,cond_true,cond_false]
  exact hrm.act (by omega) hc3
 ·simp only [Int.reduceBEq,cond_true,cond_false]
  cases ok <;> simp only [cond_true,cond_false]
  ·exact stay
  ·have hc6 : Zc c6 = c6.map (·.map C.d) := RS.deep hO.k6.2
   rw [hc6,map_len]
   by_cases h0 : (c6.length : Int) > 0
   ·have hr := RS.gets hO.k6.2 (v := 0) (by omega) (by omega)
    have hat : ∀ {β : Type} (F : List C → Option β),ZaR (c6.map (·.map C.d)) (Int.toNat 0) F = F ((gR c6 0).map C.d) := fun F => atNat_up (by omega) (by omega) F
    rw [ZY h0]
    simp only [cond_true]
    rw [ZH ⟨by omega,by omega⟩,hat,hr.1]
    simp only [List.map_cons,List.map_nil,List.drop_zero,Z4,cD_at,ZaQ]
    exact (finish_ex hB (by omega) (kind := kind) hns hr.2.1 hk).act (by omega) hc3
   ·rw [ZZ h0]
    simp only [cond_false]
    exact stay
 ·simp only [Int.reduceBEq,cond_true,cond_false]
  cases ok <;> simp only [cond_true,cond_false]
  ·exact stay
  ·exact hu2.act (by omega) hc3
set_option maxRecDepth 100000 in
set_option maxHeartbeats 2000000 in
theorem l7Draw_ex {k : Nat} (hk : Zai 1 k) {b : LD} {i h m : Int} (c : Cur b i) (hm : m ≤ 300) : ∃ (O : LD) (rev next : Int) (L : LD) (i' h' : Int),YaL (2 * m.toNat) O rev next L ∧ Cur b i' ∧ YY.t k b i h m = some (O,rev,next,L,b,i',h') := by
 have hkb : 2 ^ 65 ≤ k := hk
 unfold YY.t YY.g Yaz.f Yaz.t Yaz.g
 obtain ⟨x,i1,h1,x0,x1,x2,hc1,e1⟩ := YaM (k := k) (h := h) (n := m) c
 have hx : x.toNat ≤ m.toNat := by omega
 have hx2 : x ≤ 300 := by omega
 simp only [bd4,C.immRows]
 rw [Yp.f_of e1]
 refine YaR (fun v => v.1.toNat) (fun v => 0 ≤ v.1 ∧ v.1 ≤ x ∧ v.2.1 = b ∧ Cur b v.2.2.1 ∧ YaL (2 * (x - v.1).toNat) v.2.2.2.2.1 v.2.2.2.2.2.1 v.2.2.2.2.2.2.1 v.2.2.2.2.2.2.2) (fun o => ∃ (O : LD) (rev next : Int) (L : LD) (i' h' : Int),YaL (2 * m.toNat) O rev next L ∧ Cur b i' ∧ o = some (O,rev,next,L,b,i',h')) ?_ (v := (x,b,i1,h1,[],0,1,[])) ⟨x0,Int.le_refl _,rfl,hc1,⟨by simp,by simp,by simp,by simp,Int.le_refl 0,Int.natCast_nonneg _,by show (0 : Int) ≤ 1; decide,by show (1 : Int) ≤ _; omega⟩⟩ (by show x.toNat < k; omega)
 rintro ⟨n,b',i,h,O,rev,next,L⟩ ⟨n0,n1,eb,hc,hB⟩ F hF
 replace n0 : 0 ≤ n := n0
 replace n1 : n ≤ x := n1
 replace eb : b' = b := eb
 replace hc : Cur b i := hc
 replace hB : YaL (2 * (x - n).toNat) O rev next L := hB
 subst eb
 by_cases hn : n > 0
 ·obtain ⟨O',rev',next',L',i',h',hB',hc',e⟩ := act_ex hB (by omega) hk (h := h) hc
  simp only [YY.l0,ZY hn,cond_true]
  unfold YaA.f
  rw [e]
  dsimp only
  rw [Z9 (by omega) (by omega)]
  exact hF _ ⟨by show 0 ≤ n - 1; omega,by show n - 1 ≤ x; omega,rfl,hc',hB'.up (by show 2 * (x - n).toNat + 2 ≤ 2 * (x - (n - 1)).toNat; omega)⟩ (by show (n - 1).toNat < n.toNat; omega)
 ·simp only [YY.l0,ZZ hn,cond_false]
  exact ⟨_,_,_,_,_,_,hB.up (by omega),hc,rfl⟩
theorem listV_w {n : Nat} {O L : LD} {rev next : Int} (hB : YaL n O rev next L) : 0 ≤ (listV O rev next L).1 ∧ (listV O rev next L).1 ≤ n ∧ (∀ r ∈ C.immRows (listV O rev next L).2,Robj lim r) ∧ (C.immRows (listV O rev next L).2).length ≤ n := by
 have := hB.r0; have := hB.r1
 unfold listV
 cases Yr.v O rev next L
 ·simp only [cond_false,C.immRows]
  exact ⟨by omega,by omega,by simp,by simp⟩
 ·simp only [cond_true,ZK]
  exact ⟨by omega,by omega,hB.ro,hB.lo⟩
set_option maxRecDepth 100000 in
set_option maxHeartbeats 2000000 in
theorem l8Draw_ex {k : Nat} (hk : Zai 1 k) {b : LD} {i h m : Int} (c : Cur b i) (hm : m ≤ 250) : ∃ (O₁ L₁ : LD) (rev₁ next₁ : Int) (O : LD) (rev next : Int) (L : LD) (i' h' : Int),YaL (2 * m.toNat) O₁ rev₁ next₁ L₁ ∧ YaL (2 * m.toNat + 120) O rev next L ∧ Cur b i' ∧ YT.t k b i h m = some ((listV O₁ rev₁ next₁ L₁).1,(listV O₁ rev₁ next₁ L₁).2,O,rev,next,L,b,i',h') := by
 have hkb : 2 ^ 65 ≤ k := hk
 unfold YT.t YT.g YT.m
 obtain ⟨O₁,rev₁,next₁,L₁,i1,h1,hB₁,hc1,e1⟩ := l7Draw_ex hk (h := h) c (Int.le_trans hm (by decide))
 unfold YY.f
 rw [e1]
 dsimp only
 unfold YaG.f
 rw [spec_List_t (hB₁.so (by omega)) (hB₁.sl (by omega)) hk]
 simp only [bd2]
 obtain ⟨y,i2,h2,hy,hc2,e2⟩ := int_ex (k := k) (h := h1) hc1 [4,8,60] (by decide)
 simp only [List.map_cons,List.map_nil] at e2
 rw [Yam.f_of e2]
 obtain ⟨x,i3,h3,x0,x1,x2,hc3,e3⟩ := YaM (k := k) (h := h2) (n := y) hc2
 have hy' : y = 4 ∨ y = 8 ∨ y = 60 := by simpa using hy
 have hx2 : x ≤ 60 := by omega
 rw [Yp.f_of e3]
 refine ⟨O₁,L₁,rev₁,next₁,?_⟩
 refine YaR (fun v => v.1.toNat) (fun v => 0 ≤ v.1 ∧ v.1 ≤ x ∧ v.2.1 = b ∧ Cur b v.2.2.1 ∧ YaL (2 * m.toNat + 2 * (x - v.1).toNat) v.2.2.2.2.1 v.2.2.2.2.2.1 v.2.2.2.2.2.2.1 v.2.2.2.2.2.2.2) (fun o => ∃ (O : LD) (rev next : Int) (L : LD) (i' h' : Int),YaL (2 * m.toNat) O₁ rev₁ next₁ L₁ ∧ YaL (2 * m.toNat + 120) O rev next L ∧ Cur b i' ∧ o = some ((listV O₁ rev₁ next₁ L₁).1,(listV O₁ rev₁ next₁ L₁).2,O,rev,next,L,b,i',h')) ?_ (v := (x,b,i3,h3,O₁,rev₁,next₁,L₁)) ⟨x0,Int.le_refl _,rfl,hc3,hB₁.up (by omega)⟩ (by show x.toNat < k; omega)
 rintro ⟨n,b',i,h,O,rev,next,L⟩ ⟨n0,n1,eb,hc,hB⟩ F hF
 replace n0 : 0 ≤ n := n0
 replace n1 : n ≤ x := n1
 replace eb : b' = b := eb
 replace hc : Cur b i := hc
 replace hB : YaL (2 * m.toNat + 2 * (x - n).toNat) O rev next L := hB
 subst eb
 by_cases hn : n > 0
 ·obtain ⟨O',rev',next',L',i',h',hB',hc',e⟩ := act_ex hB (by omega) hk (h := h) hc
  simp only [YT.l0,ZY hn,cond_true]
  unfold YaA.f
  rw [e]
  dsimp only
  rw [Z9 (by omega) (by omega)]
  exact hF _ ⟨by show 0 ≤ n - 1; omega,by show n - 1 ≤ x; omega,rfl,hc',hB'.up (by show 2 * m.toNat + 2 * (x - n).toNat + 2 ≤ 2 * m.toNat + 2 * (x - (n - 1)).toNat; omega)⟩ (by show (n - 1).toNat < n.toNat; omega)
 ·simp only [YT.l0,ZZ hn,cond_false]
  exact ⟨_,_,_,_,_,_,hB₁,hB.up (by omega),hc,rfl⟩
theorem rows19 {l : LD} (g : ∀ r ∈ l,Rlog lim r) : Zbk 19 l := fun r hr => by
 obtain ⟨c0,c1,c2,c3,c4,c5,c6,c7,c8,c9,c10,c11,c12,c13,c14,c15,c16,c17,c18,rfl,-⟩ := (g r hr).open
 rfl
theorem rows19_sub {l m : LD} (g : ∀ r ∈ l,Rlog lim r) (h : ∀ r ∈ m,r ∈ l) : Zbk 19 m := rows19 fun r hr => g r (h r hr)
theorem deepRows_map : ∀ xs : LD,Zc xs = xs.map ZN
 | [] => by simp only [Zc,List.map_nil]
 | r :: xs => by simp only [Zc,List.map_cons,deepRows_map xs]
theorem atNat_deeps {xs : LD} {v : Int} (h0 : 0 ≤ v) (h1 : v < xs.length) {β : Type} (F : List C → Option β) : ZaR (Zc xs) v.toNat F = F (ZN (gR xs v)) := by
 unfold ZaR
 rw [deepRows_map,List.getElem?_map,gR_at h0 h1]
 rfl
theorem imm_map' : ∀ (l : LC),C.immRows l = l.map C.immCells
 | [] => rfl
 | x :: l => by simp only [C.immRows,List.map_cons,imm_map' l]
theorem modify_deep {S : LD} {j : Nat} {f : List C → List C} {r : List D} (h : r ∈ C.immRows ((Zc S).modify j f)) : r ∈ S ∨ (j < S.length ∧ r = C.immCells (f (ZN (gR S (j : Int))))) := by
 rw [imm_map'] at h
 obtain ⟨c,hc,rfl⟩ := List.mem_map.mp h
 obtain ⟨i,hi⟩ := List.mem_iff_getElem?.mp hc
 rw [List.getElem?_modify,deepRows_map,List.getElem?_map] at hi
 by_cases hl : i < S.length
 ·rw [List.getElem?_eq_getElem hl] at hi
  by_cases e : j = i
  ·subst e
   have hi : (if j = j then f (ZN S[j]) else ZN S[j]) = c := by injection hi
   rw [if_pos rfl] at hi
   have hg : gR S (j : Int) = S[j] := by
    have := gR_at (xs := S) (v := (j : Int)) (by omega) (by omega)
    rw [Int.toNat_natCast,List.getElem?_eq_getElem hl] at this
    exact (Option.some.inj this).symm
   exact .inr ⟨hl,by rw [hg,hi]⟩
  ·have hi : (if j = i then f (ZN S[i]) else ZN S[i]) = c := by injection hi
   rw [if_neg e] at hi
   subst hi
   rw [imm_deepCells]
   exact .inl (List.getElem_mem _)
 ·rw [List.getElem?_eq_none (by omega)] at hi
  cases hi
theorem since_rows {O L : LD} {rev next n : Int} : ∃ S,(sinceV O rev next L n).1 = Zc S ∧ (∀ r ∈ S,r ∈ L) ∧ S.length ≤ L.length := by
 unfold sinceV
 have hn : Zc ([] : LD) = [] := by simp only [Zc]
 cases Yr.v O rev next L && inB n 0 rev <;> simp only [cond_true,cond_false]
 ·exact ⟨[],hn.symm,by simp,by simp⟩
 ·cases decide (((sinceL L n).length : Int) < IntKind.wrap .i64 (rev - n)) <;> simp only [cond_true,cond_false]
  ·exact ⟨_,rfl,fun r hr => (List.mem_filter.mp hr).1,List.length_filter_le _ _⟩
  ·exact ⟨[],hn.symm,by simp,by simp⟩
theorem bend_gone {c0 : Int} {c1 : Bool} {c2 : Int} {c3 : BA} {c4 c5 c6 : Int} {c7 : Bool} {c8 : LD} {c9 : Int} {c10 : BA} {c11 : Int} {c12 c13 : LD} {c14 : Int} {c15 : BA} {c16 : Int} {c17 c18 : LD} {z : Bool} : C.immCells (Zs (ZN [.int .i64 c0,.bool c1,.int .i64 c2,.str c3,.int .i64 c4,.int .i64 c5,.int .i64 c6,.bool c7,.sl c8,.int .i64 c9,.str c10,.int .i64 c11,.sl c12,.sl c13,.int .i64 c14,.str c15,.int .i64 c16,.sl c17,.sl c18]) 1 [.d (.bool z)]) = [.int .i64 c0,.bool z,.int .i64 c2,.str c3,.int .i64 c4,.int .i64 c5,.int .i64 c6,.bool c7,.sl c8,.int .i64 c9,.str c10,.int .i64 c11,.sl c12,.sl c13,.int .i64 c14,.str c15,.int .i64 c16,.sl c17,.sl c18] := by
 simp only [Zs,ZN,deepD,List.take_succ_cons,List.take_zero,List.drop_succ_cons,List.drop_zero,List.length_singleton,List.cons_append,List.nil_append,C.immCells,C.imm,ZK,List.singleton_append]
theorem bend_uid {c0 : Int} {c1 : Bool} {c2 : Int} {c3 : BA} {c4 c5 c6 : Int} {c7 : Bool} {c8 : LD} {c9 : Int} {c10 : BA} {c11 : Int} {c12 c13 : LD} {c14 : Int} {c15 : BA} {c16 : Int} {c17 c18 : LD} {z : Int} : C.immCells (Zs (ZN [.int .i64 c0,.bool c1,.int .i64 c2,.str c3,.int .i64 c4,.int .i64 c5,.int .i64 c6,.bool c7,.sl c8,.int .i64 c9,.str c10,.int .i64 c11,.sl c12,.sl c13,.int .i64 c14,.str c15,.int .i64 c16,.sl c17,.sl c18]) 4 [.d (.int .i64 z)]) = [.int .i64 c0,.bool c1,.int .i64 c2,.str c3,.int .i64 z,.int .i64 c5,.int .i64 c6,.bool c7,.sl c8,.int .i64 c9,.str c10,.int .i64 c11,.sl c12,.sl c13,.int .i64 c14,.str c15,.int .i64 c16,.sl c17,.sl c18] := by
 simp only [Zs,ZN,deepD,List.take_succ_cons,List.take_zero,List.drop_succ_cons,List.drop_zero,List.length_singleton,List.cons_append,List.nil_append,C.immCells,C.imm,ZK,List.singleton_append]
set_option maxRecDepth 100000 in
set_option maxHeartbeats 4000000 in
theorem drawFollow_ex {a : LD} (g : ZB RI8 lim a) {k : Nat} (hk : Zai 1 k) : ∃ (r : Int) (M Z : LC),0 ≤ r ∧ r ≤ 700 ∧ ZB Robj lim (C.immRows M) ∧ ZB Rlog lim (C.immRows Z) ∧ (C.immRows Z).length ≤ 700 ∧ Yad.t k a = some (r,M,Z) := by
 have hlim : lim = 1048576 := rfl
 have hm : Z8 = 2 ^ 36 := rfl
 unfold Yad.t Yad.g
 obtain ⟨h0,e0⟩ := new_ex g (up0 hk)
 rw [YX.f_of e0]
 obtain ⟨n,n3,n20,e1⟩ := size_ex (m := 20) g (by decide) (k := k)
 rw [Yas.f_of e1]
 obtain ⟨O₁,L₁,rev₁,next₁,O,rev,next,L,i1,h1,hB₁,hB,hc1,e2⟩ := l8Draw_ex hk (h := h0) (Cur.new g) (m := n) (by omega)
 unfold YT.f
 rw [e2]
 dsimp only
 obtain ⟨w0,w1,w2,w3⟩ := listV_w hB₁
 generalize (listV O₁ rev₁ next₁ L₁).1 = r at w0 w1 ⊢
 generalize (listV O₁ rev₁ next₁ L₁).2 = M at w2 w3 ⊢
 unfold Y7.f
 rw [spec_Since_t (hB.so (by omega)) (hB.sl (by omega)) hk]
 simp only [bd2]
 obtain ⟨S,eS,hS,lS⟩ := since_rows (O := O) (L := L) (rev := rev) (next := next) (n := r)
 rw [eS]
 have ll := hB.ll
 have gS : ∀ r ∈ S,Rlog lim r := fun r hr => hB.rl r (hS r hr)
 have fin : ∀ Z : LC,(∀ r ∈ C.immRows Z,Rlog lim r) → (C.immRows Z).length ≤ S.length → ∃ (r' : Int) (M' Z' : LC),0 ≤ r' ∧ r' ≤ 700 ∧ ZB Robj lim (C.immRows M') ∧ ZB Rlog lim (C.immRows Z') ∧ (C.immRows Z').length ≤ 700 ∧ some (r,M,Z) = some (r',M',Z') := fun Z q1 q2 =>
  ⟨r,M,Z,w0,by omega,⟨by omega,w2⟩,⟨by omega,q1⟩,by omega,rfl⟩
 have same := fin (Zc S) (by rw [ZK]; exact gS) (by rw [ZK]; exact Nat.le_refl _)
 rw [ZS]
 by_cases h0 : (S.length : Int) > 0
 ·rw [ZY h0]
  simp only [cond_true,ZK]
  obtain ⟨y,i2,h2,y0,y1,-,hc2,e3⟩ := YaM (k := k) (h := h1) (n := (S.length : Int)) hc1
  have y1 := y1 h0
  rw [Yp.f_of e3]
  obtain ⟨x,i3,h3,x0,x1,-,hc3,e4⟩ := YaM (k := k) (h := h2) (n := 6) hc2
  rw [Yp.f_of e4]
  have hyn : y.toNat < S.length := by omega
  have hyy : ((y.toNat : Nat) : Int) = y := Int.toNat_of_nonneg y0
  obtain ⟨c0,c1,c2,c3,c4,c5,c6,c7,c8,c9,c10,c11,c12,c13,c14,c15,c16,c17,c18,er,h0,h2,h3,h4,h5,h6,h8,h9,h10,h11,h12,h13,h14,h15,h16,h17,h18,-⟩ := (gS _ (gR_mem y0 y1)).open
  by_cases q0 : x = 0
  ·subst q0
   simp only [Int.reduceBEq,cond_true]
   have hw : IntKind.wrap .i64 (y + 1) = y + 1 := Z9 (by omega) (by omega)
   rw [hw]
   simp only [Int.toNat_natCast,Int.toNat_zero,List.drop_zero,Nat.sub_zero,List.nil_append]
   rw [ZH ⟨by omega,by omega,by omega,rows19 gS⟩,ZH (rows19_sub gS fun r hr => List.mem_of_mem_take hr),ZH (by simp only [List.length_nil,List.length_map,List.length_take]; omega),ZH ⟨by omega,by omega,by omega,rows19 gS⟩,ZH (rows19_sub gS fun r hr => List.mem_of_mem_drop (List.mem_of_mem_take hr)),ZH (by simp only [List.length_nil,List.length_map,List.length_take,List.length_drop]; omega)]
   refine fin _ (fun r hr => ?_) ?_
   ·rw [Za3,imm_rows,imm_rows] at hr
    rcases List.mem_append.mp hr with hr | hr
    ·exact gS r (List.mem_of_mem_take hr)
    ·exact gS r (List.mem_of_mem_drop (List.mem_of_mem_take hr))
   ·rw [Za3,imm_rows,imm_rows]
    simp only [List.length_append,List.length_take,List.length_drop]
    omega
  ·by_cases q1 : x = 1
   ·subst q1
    simp only [Int.reduceBEq,cond_true,cond_false]
    rw [ZH ⟨y0,by omega⟩,atNat_deeps y0 y1,er]
    simp only [ZN,deepD,List.drop_succ_cons,List.drop_zero,Z4,cD_at,ZaV]
    rw [ZH ⟨y0,by omega⟩,ZH (by first | exact hyn | (rw [ZS]; exact hyn))]
    refine fin _ (fun r hr => ?_) (by rw [C.immRows_length,List.length_modify,ZS]; exact Nat.le_refl _)
    rcases modify_deep hr with hr | ⟨-,rfl⟩
    ·exact gS r hr
    ·rw [hyy,er,bend_gone]
     exact ⟨_,_,_,_,_,_,_,_,_,_,_,_,_,_,_,_,_,_,_,rfl,h0,h2,h3,h4,h5,h6,h8,h9,h10,h11,h12,h13,h14,h15,h16,h17,h18,trivial⟩
   ·by_cases q2 : x = 2
    ·subst q2
     simp only [Int.reduceBEq,cond_true,cond_false]
     rw [ZH ⟨y0,by omega⟩,atNat_deeps y0 y1,er]
     simp only [ZN,deepD,List.drop_succ_cons,List.drop_zero,Z4,cD_at,Z5]
     rw [ZH ⟨y0,by omega⟩,ZH (by first | exact hyn | (rw [ZS]; exact hyn))]
     refine fin _ (fun r hr => ?_) (by rw [C.immRows_length,List.length_modify,ZS]; exact Nat.le_refl _)
     rcases modify_deep hr with hr | ⟨-,rfl⟩
     ·exact gS r hr
     ·rw [hyy,er,bend_uid]
      exact ⟨_,_,_,_,_,_,_,_,_,_,_,_,_,_,_,_,_,_,_,rfl,h0,h2,h3,wrap_wf2 _,h5,h6,h8,h9,h10,h11,h12,h13,h14,h15,h16,h17,h18,trivial⟩
    ·have b0 : (x == 0) = false := beq_eq_false_iff_ne.mpr q0
     have b1 : (x == 1) = false := beq_eq_false_iff_ne.mpr q1
     have b2 : (x == 2) = false := beq_eq_false_iff_ne.mpr q2
     rw [b0,b1,b2]
     simp only [cond_false]
     exact same
 ·rw [ZZ h0]
  simp only [cond_false]
  exact same
theorem rows17 {B : Nat} {l : LD} (g : ∀ r ∈ l,Ya B r) : Zbk 17 l := fun r hr => by
 obtain ⟨c0,c1,c2,c3,c4,c5,c6,c7,c8,c9,c10,c11,c12,c13,c14,c15,c16,rfl,-⟩ := (g r hr).open
 rfl
set_option maxRecDepth 100000 in
set_option maxHeartbeats 8000000 in
theorem spec_Follow_t {a : Int} {l xs : LD} (g : ZB Ya lim l) (gx : ZB Yb lim xs) {k : Nat} (hk : Zai 1 k) :
  YZ.t k a l xs = some (bif Yo.v a l then endD a l (YaF a l xs) else (a,l,false)) := by
 have hlim : lim = 1048576 := rfl
 have hb : big = 2 ^ 64 := rfl
 have hmost : Z8 = 2 ^ 36 := rfl
 have hk0 : Fuel k := up0 hk
 have hx := gx.1
 unfold YZ.t YZ.g
 rw [l8Mirror_fv g hk,Yo.fv g hk]
 cases hm : Yo.v a l
 ·simp only [Bool.not_false,cond_true,cond_false,ZK]
 simp only [Bool.not_true,cond_true,cond_false,ZK]
 obtain ⟨asc,l60,-,-⟩ := Ya1 g hm
 refine iter_val (fun v : Int × Int × LD => xs.length - v.1.toNat) (fun v => 0 ≤ v.1 ∧ v.1 ≤ (xs.length : Int) ∧ ZB Ya lim v.2.2 ∧ AscO v.2.2 ∧ v.2.2.length ≤ 60) (fun v => some (endD a l (YaF v.2.1 v.2.2 (xs.drop v.1.toNat)))) ?_ k (0,a,l) ⟨by simp,by simp,g,asc,l60⟩ (by unfold Fuel at hk0; show xs.length - (0 : Int).toNat < k; omega)
 rintro ⟨n,rev,l'⟩ ⟨n0,n1,gl,al,ll⟩ L hL
 replace n0 : 0 ≤ n := n0
 obtain ⟨i,rfl⟩ : ∃ i : Nat,n = (i : Int) := ⟨n.toNat,by omega⟩
 replace n1 : (i : Int) ≤ (xs.length : Int) := n1
 replace gl : ZB Ya lim l' := gl
 replace al : AscO l' := al
 replace ll : l'.length ≤ 60 := ll
 simp only [Int.toNat_natCast]
 by_cases hi : i < xs.length
 ·obtain ⟨hrow,k0,k2,k3,k4,k5,k6,k8,k9,k10,k11,k12,k13,k14,k15,k16,k17,k18,-⟩ := Yb.get gx (v := (i : Int)) (by omega) (by omega)
  have hmem : Yb lim (gR xs (i : Int)) := gx.2 _ (gR_mem (by omega) (by omega))
  have fail : Y1.f k a l (fun y600 y601 => some (y600,C.immRows y601,false)) = some (a,l,false) := by rw [l8Mirror_fv g hk,ZK]
  have tail : ∀ (o : LD) (F : Option (Int × LD × Bool)),stepF rev l' (gR xs (i : Int)) = some (gI xs (i : Int) 0,o) → F = some (a,l,false) → Yo.f k (gI xs (i : Int) 0) o (fun y => bif !y then F else L ((i : Int) + 1,gI xs (i : Int) 0,o)) = some (endD a l (YaF rev l' (gR xs (i : Int) :: xs.drop (i + 1)))) := fun o F hs hF => by
   have g2 := stepF_ok gl ll hmem hs
   replace g2 : ZB Ya lim o := g2
   rw [Yo.fv g2 hk]
   unfold YaF stepV
   rw [hs]
   simp only []
   cases hv : Yo.v (gI xs (i : Int) 0) o with
   | false => simp only [Bool.not_false,cond_true,cond_false]; rw [hF]; rfl
   | true =>
    obtain ⟨a2,l2,-,-⟩ := Ya1 g2 hv
    simp only [Bool.not_true,cond_true,cond_false]
    rw [hL ((i : Int) + 1,gI xs (i : Int) 0,o) ⟨by show 0 ≤ (i : Int) + 1; omega,by show (i : Int) + 1 ≤ _; omega,g2,a2,l2⟩ (by show xs.length - ((i : Int) + 1).toNat < xs.length - (i : Int).toNat; omega)]
    simp only [show ((i : Int) + 1).toNat = i + 1 by omega]
  have none' : stepF rev l' (gR xs (i : Int)) = none → some (a,l,false) = some (endD a l (YaF rev l' (gR xs (i : Int) :: xs.drop (i + 1)))) := fun hs => by
   unfold YaF stepV
   rw [hs]
   rfl
  have hst : stepF rev l' (gR xs (i : Int)) = bif gI xs (i : Int) 0 != IntKind.wrap .i64 (rev + 1) then none else
   bif gB xs (i : Int) 1 then (bif decide (YaN l' (gI xs (i : Int) 2) (gS xs (i : Int) 3) < 0) then none else bif gI l' (YaN l' (gI xs (i : Int) 2) (gS xs (i : Int) 3)) 2 != gI xs (i : Int) 4 then none else some (gI xs (i : Int) 0,dropO l' (YaN l' (gI xs (i : Int) 2) (gS xs (i : Int) 3))))
   else some (gI xs (i : Int) 0,YaK Yat YaO (rO (gR xs (i : Int))) (rO (gR xs (i : Int))) false l') := rfl
  have hw1 : IntKind.wrap .i64 ((i : Int) + 1) = (i : Int) + 1 := Z9 (by omega) (by omega)
  rw [drop_cons_g hi]
  simp (config := {maxSteps := 4000000}) (disch := omega) only [YZ.l0,atR,rdQ,Q.ask,ZY (show (i : Int) < (xs.length : Int) by omega),cond_true,Yb.row gx,Z4,Z5,ZaQ,ZaV,Zbl,Zan,l7Find_fv gl hk0,hw1,fail]
  cases hs : (gI xs (i : Int) 0 != IntKind.wrap .i64 (rev + 1)) with
  | true =>
   rw [hs] at hst
   exact none' hst
  | false =>
   rw [hs] at hst
   cases hg : gB xs (i : Int) 1 with
   | false =>
    rw [hg] at hst
    simp only [cond_false] at hst ⊢
    obtain ⟨ys,hy1,hy2⟩ := l7With_fv gl (x0 := gI xs (i : Int) 2) (x1 := gS xs (i : Int) 3) (x2 := gI xs (i : Int) 4) (x3 := gI xs (i : Int) 5) (x4 := gI xs (i : Int) 6) (x5 := gB xs (i : Int) 7) (x7 := gI xs (i : Int) 9) (x8 := gS xs (i : Int) 10) (x9 := gI xs (i : Int) 11) (x12 := gI xs (i : Int) 14) (x13 := gS xs (i : Int) 15) (x14 := gI xs (i : Int) 16) k8 k12 k13 k17 k18 hk
    rw [YM.f_of hy1,hy2]
    exact tail _ _ hst rfl
   | true =>
    rw [hg] at hst
    simp only [cond_true,cond_false] at hst ⊢
    by_cases hf : YaN l' (gI xs (i : Int) 2) (gS xs (i : Int) 3) < 0
    ·rw [ZY hf] at hst ⊢
     exact none' hst
    ·obtain ⟨n,hn,hnl⟩ := findO_lt hf
     rw [ZZ hf] at hst ⊢
     simp only [cond_false] at hst ⊢
     rw [hn] at hst ⊢
     simp (config := {maxSteps := 4000000}) (disch := omega) only [Ya.row gl,Z4,Z5,ZaQ,ZaV,Zbl,Zan]
     cases hq : (gI l' (n : Int) 2 != gI xs (i : Int) 4) with
     | true =>
      rw [hq] at hst
      exact none' hst
     | false =>
      rw [hq] at hst
      simp only [cond_false] at hst ⊢
      have w : IntKind.wrap .i64 ((n : Int) + 1) = (n : Int) + 1 := Z9 (by omega) (by omega)
      have t1 : (l'.drop (Int.toNat ((n : Int) + 1))).take (Int.toNat (l'.length : Int) - Int.toNat ((n : Int) + 1)) = l'.drop (n + 1) := by
       rw [show Int.toNat ((n : Int) + 1) = n + 1 by omega,Int.toNat_natCast,List.take_of_length_le (by rw [List.length_drop]; omega)]
      have t2 : (l'.drop (Int.toNat 0)).take (Int.toNat (n : Int) - Int.toNat 0) = l'.take n := by
       simp only [Int.toNat_natCast,Int.toNat_zero,List.drop_zero,Nat.sub_zero]
      have r1 : Zbk 17 l' := rows17 gl.2
      have r2 : Zbk 17 (l'.take n) := fun r hr => r1 r (List.mem_of_mem_take hr)
      have r3 : Zbk 17 (l'.drop (n + 1)) := fun r hr => r1 r (List.mem_of_mem_drop hr)
      have im : C.immRows (([] ++ (l'.take n).map (·.map C.d)) ++ (l'.drop (n + 1)).map (·.map C.d)) = dropO l' (n : Int) := by
       rw [List.nil_append,← List.map_append,imm_rows]
       rfl
      rw [w,t1,t2,im]
      have m1 : (l'.take n).length ≤ 60 := by rw [List.length_take]; omega
      have m2 : (l'.drop (n + 1)).length ≤ 60 := by rw [List.length_drop]; omega
      rw [ZH ⟨by omega,by omega,by omega,r1⟩,ZH r2,ZH (by rw [List.length_nil,List.length_map]; omega),ZH ⟨by omega,by omega,by omega,r1⟩,ZH r3,ZH (by rw [List.nil_append,List.length_map,List.length_map]; omega)]
      exact tail _ _ hst rfl
 ·rw [List.drop_eq_nil_of_le (by omega)]
  simp only [YZ.l0,atR,rdQ,Q.ask,ZZ (show ¬ (i : Int) < (xs.length : Int) by omega),cond_false]
  unfold YaF endD
  rfl
theorem wt_with {less same : List D → List D → Bool} {o o' : List D} : ∀ {l : LD} {put : Bool},Zu (YaK less same o o' put l) ≤ Zu l + (bif put then 0 else ZbY o')
 | [],put => by rw [withF_nil]; cases put <;> simp [Zu]
 | y :: ys,put => by
  unfold YaK
  have ih := wt_with (less := less) (same := same) (o := o) (o' := o') (l := ys) (put := put || !less y o)
  rw [Zbe,Zbe]
  generalize YaK less same o o' (put || !less y o) ys = w at *
  generalize less y o = b1 at *
  generalize same y o = b2 at *
  cases put <;> cases b1 <;> cases b2 <;> simp [Zu] at ih ⊢ <;> omega
theorem wt_cut : ∀ {l : LD} {n : Nat},Zu (l.take n) + Zu (l.drop (n + 1)) ≤ Zu l
 | [],n => by simp [Zu]
 | r :: xs,0 => by simp only [List.take_zero,List.drop_succ_cons,List.drop_zero,Zu]; omega
 | r :: xs,n + 1 => by
  have := wt_cut (l := xs) (n := n)
  simp only [List.take_succ_cons,List.drop_succ_cons,Zu]; omega
theorem wt_rO {B : Nat} {r : List D} (h : Yb B r) : ZbY (rO r) ≤ ZbY r := by
 obtain ⟨c0,c1,c2,c3,c4,c5,c6,c7,c8,c9,c10,c11,c12,c13,c14,c15,c16,c17,c18,rfl,-⟩ := h
 show ZbY [.int .i64 c2,.str c3,.int .i64 c4,.int .i64 c5,.int .i64 c6,.bool c7,.sl c8,.int .i64 c9,.str c10,.int .i64 c11,.sl c12,.sl c13,.int .i64 c14,.str c15,.int .i64 c16,.sl c17,.sl c18] ≤ ZbY (.int .i64 c0 :: .bool c1 :: [.int .i64 c2,.str c3,.int .i64 c4,.int .i64 c5,.int .i64 c6,.bool c7,.sl c8,.int .i64 c9,.str c10,.int .i64 c11,.sl c12,.sl c13,.int .i64 c14,.str c15,.int .i64 c16,.sl c17,.sl c18])
 generalize ([.int .i64 c2,.str c3,.int .i64 c4,.int .i64 c5,.int .i64 c6,.bool c7,.sl c8,.int .i64 c9,.str c10,.int .i64 c11,.sl c12,.sl c13,.int .i64 c14,.str c15,.int .i64 c16,.sl c17,.sl c18] : List D) = q
 simp only [ZbY]
 omega
theorem stepF_wt {rev : Int} {l : LD} {r : List D} {v : Int × LD} (hr : Yb lim r) (h : stepF rev l r = some v) : Zu v.2 ≤ Zu l + ZbY r := by
 unfold stepF at h
 cases hs : (rI r 0 != IntKind.wrap .i64 (rev + 1)) <;> rw [hs] at h
 ·simp only [cond_false] at h
  cases hb : rB r 1 <;> rw [hb] at h
  ·simp only [cond_false] at h
   injection h with h
   subst h
   have := wt_with (less := Yat) (same := YaO) (o := rO r) (o' := rO r) (l := l) (put := false)
   have := wt_rO hr
   simp only [cond_false] at *
   omega
  ·simp only [cond_true] at h
   cases hf : decide (YaN l (rI r 2) (rS r 3) < 0) <;> rw [hf] at h
   ·simp only [cond_false] at h
    cases hq : (gI l (YaN l (rI r 2) (rS r 3)) 2 != rI r 4) <;> rw [hq] at h
    ·simp only [cond_false] at h
     injection h with h
     subst h
     unfold dropO
     have := wt_cut (l := l) (n := (YaN l (rI r 2) (rS r 3)).toNat)
     rw [Zbe]
     omega
    ·cases h
   ·cases h
 ·cases h
theorem followL_ok : ∀ {xs : LD} {rev : Int} {l : LD} {v : Int × LD},ZB Ya lim l → l.length ≤ 60 → (∀ r ∈ xs,Yb lim r) → YaF rev l xs = some v → ZB Ya lim v.2 ∧ Zu v.2 ≤ Zu l + Zu xs
 | [],rev,l,v,g,_,_,h => by
  unfold YaF at h
  injection h with h
  subst h
  exact ⟨g,by simp [Zu]⟩
 | r :: xs,rev,l,v,g,h60,gx,h => by
  unfold YaF stepV at h
  cases hs : stepF rev l r with
  | none => rw [hs] at h; cases h
  | some u =>
   have g2 := stepF_ok g h60 (gx r (List.mem_cons_self ..)) hs
   have w2 := stepF_wt (gx r (List.mem_cons_self ..)) hs
   rw [hs] at h
   simp only [] at h
   cases hm : Yo.v u.1 u.2 <;> rw [hm] at h
   ·cases h
   ·obtain ⟨-,l2,-,-⟩ := Ya1 g2 hm
    obtain ⟨q1,q2⟩ := followL_ok g2 l2 (fun r hr => gx r (List.mem_cons_of_mem _ hr)) h
    exact ⟨q1,by simp only [Zu]; omega⟩
theorem YaH.f_of {β : Type} {k a0 a1 z0} (h : YaH.t k a0 a1 = some z0) (K : Int → Option β) : YaH.f k a0 a1 K = K z0 := by unfold YaH.f; rw [h]; rfl
theorem stepF_rev {rev : Int} {l : LD} {r : List D} {u : Int × LD} (h : stepF rev l r = some u) : rI r 0 = IntKind.wrap .i64 (rev + 1) ∧ u.1 = rI r 0 := by
 unfold stepF at h
 cases hs : (rI r 0 != IntKind.wrap .i64 (rev + 1)) <;> rw [hs] at h
 ·refine ⟨by simpa using hs,?_⟩
  cases hb : rB r 1 <;> rw [hb] at h <;> simp only [cond_true,cond_false] at h
  ·injection h with h
   rw [← h]
  ·cases hq : decide (YaN l (rI r 2) (rS r 3) < 0) <;> rw [hq] at h <;> simp only [cond_true,cond_false] at h
   ·cases hq2 : (gI l (YaN l (rI r 2) (rS r 3)) 2 != rI r 4) <;> rw [hq2] at h <;> simp only [cond_true,cond_false] at h
    ·injection h with h
     rw [← h]
    ·cases h
   ·cases h
 ·cases h
theorem stepV_rev {rev : Int} {l : LD} {r : List D} {u : Int × LD} (h : stepV rev l r = some u) : rI r 0 = IntKind.wrap .i64 (rev + 1) ∧ u.1 = rI r 0 := by
 unfold stepV at h
 cases hs : stepF rev l r with
 | none => rw [hs] at h; cases h
 | some v =>
  rw [hs] at h
  have h : (bif Yo.v v.1 v.2 then some v else none) = some u := h
  cases hm : Yo.v v.1 v.2 <;> rw [hm] at h
  ·cases h
  ·injection h with h
   rw [← h]
   exact stepF_rev hs
theorem follow_rev : ∀ {xs : LD} {rev : Int} {l : LD} {v : Int × LD},0 ≤ rev → rev + xs.length ≤ 4611686018427387904 → YaF rev l xs = some v → v.1 = rev + xs.length ∧ ∀ (j : Nat) (hj : j < xs.length),rI xs[j] 0 = rev + j + 1
 | [],rev,l,v,_,_,h => by
  unfold YaF at h
  injection h with h
  subst h
  exact ⟨by simp,fun j hj => absurd hj (Nat.not_lt_zero _)⟩
 | r :: xs,rev,l,v,h0,h1,h => by
  rw [List.length_cons] at h1
  unfold YaF at h
  cases hs : stepV rev l r with
  | none => rw [hs] at h; cases h
  | some u =>
   rw [hs] at h
   obtain ⟨e1,e2⟩ := stepV_rev hs
   rw [Z9 (by omega) (by omega)] at e1
   obtain ⟨q1,q2⟩ := follow_rev (xs := xs) (by omega) (by omega) h
   refine ⟨by rw [q1,List.length_cons]; omega,fun j hj => ?_⟩
   cases j with
   | zero => show rI r 0 = _; rw [e1]; simp
   | succ j =>
    show rI (xs[j]'(by simpa using hj)) 0 = _
    rw [q2 j (by simpa using hj)]
    omega
theorem follow_skip {xs : LD} {rev : Int} {l : LD} {v : Int × LD} (h0 : 0 ≤ rev) (h1 : rev + xs.length ≤ 4611686018427387904) (h : YaF rev l xs = some v) {j : Nat} (hj : j + 1 < xs.length) : YaF rev l (xs.take j ++ xs.drop (j + 1)) = none := by
 cases hw : YaF rev l (xs.take j ++ xs.drop (j + 1)) with
 | none => rfl
 | some w =>
  have hlen : (xs.take j ++ xs.drop (j + 1)).length = xs.length - 1 := by
   simp only [List.length_append,List.length_take,List.length_drop]; omega
  have a := (follow_rev h0 h1 h).2 (j + 1) hj
  have b := (follow_rev h0 (by rw [hlen]; omega) hw).2 j (by rw [hlen]; omega)
  have e : (xs.take j ++ xs.drop (j + 1))[j]'(by rw [hlen]; omega) = xs[j + 1] := by
   rw [List.getElem_append_right (by rw [List.length_take]; omega)]
   simp only [List.length_take,List.getElem_drop]
   congr 1
   omega
  rw [e,a] at b
  omega
theorem wf_u8 {n : Int} (h : (Lit.int .u8 n).wf = true) : 0 ≤ n ∧ n ≤ 255 := by
 simp [Lit.wf,IntKind.min,IntKind.max,IntKind.signed,IntKind.bits] at h
 omega
set_option maxRecDepth 100000 in
theorem lawsAt_ex {a : LD} (g : ZB RI8 lim a) {v : Int} (h0 : 0 ≤ v) (h1 : v ≤ 1000) {k : Nat} : ∃ x,0 ≤ x ∧ x ≤ 255 ∧ YaH.t k a v = some x := by
 have hlim : lim = 1048576 := rfl
 have hl := g.1
 unfold YaH.t YaH.g; simp only [atR,rdQ,Q.ask]
 by_cases hc : v < (a.length : Int)
 ·simp only [ZY hc,cond_true,atR,rdQ,Q.ask]
  rw [RI8.row g h0 hc]
  simp only [Z4,Z5,Zan]
  have := wf_u8 (RI8.get g h0 hc).2.1
  exact ⟨_,by rw [Z9 (by omega) (by omega)]; omega,by rw [Z9 (by omega) (by omega)]; omega,rfl⟩
 ·simp only [ZZ hc,cond_false]
  rw [ZH (by decide),Z9 (x := v * 31) (by omega) (by omega),Z9 (x := (a.length : Int) * 7) (by omega) (by omega),Z9 (by omega) (by omega)]
  have := tmod_in (x := v * 31 + (a.length : Int) * 7) (n := 256) (by omega) (by decide)
  exact ⟨_,this.1,by omega,rfl⟩
set_option maxRecDepth 100000 in
set_option maxHeartbeats 4000000 in
theorem Yaw.T {a0 : LD} (g0 : ZB RI8 maxLen a0) : Tm (Zai 1) (fun k => Yaw.t k a0) (fun r => r = true) := by
 refine Tm.of (v := true) (fun k hk => ?_) rfl
 have hlim : lim = 1048576 := rfl
 have hm : Z8 = 2 ^ 36 := rfl
 have hbig : ∀ {β : Type} (K : Bool → Option β),YaJ.f k a0 K = K (decide ((a0.length : Int) > 1048576)) := fun K => YaJ.f_of rfl K
 unfold Yaw.t Yaw.g
 rw [hbig]
 by_cases hl : (a0.length : Int) > 1048576
 ·rw [ZY hl]; rfl
 rw [ZZ hl]
 simp only [cond_false]
 have g : ZB RI8 lim a0 := ⟨by omega,fun r hr => let ⟨x,q⟩ := g0.2 r hr; ⟨x,q⟩⟩
 obtain ⟨r,M,Z,r0,r1,gM,gZ,hZ,e1⟩ := drawFollow_ex g hk
 rw [Yad.f_of e1]
 have key : ∀ xs : LD,ZB Rlog lim xs → YL.t k r (C.immRows M) xs = some (bif Yo.v r (C.immRows M) then endV r (C.immRows M) (YaF r (C.immRows M) xs) else (r,Zc (C.immRows M),false)) := fun xs gx => impl_Follow_t gM gx hk
 rw [YL.f_of (key _ gZ)]
 unfold YZ.f
 rw [spec_Follow_t gM gZ hk]
 obtain ⟨t,t0,t1,et⟩ := lawsAt_ex g (v := 2) (by decide) (by decide) (k := k)
 have gR := rows19 gZ.2
 generalize C.immRows Z = S at *
 cases hM : Yo.v r (C.immRows M) with
 | false =>
  simp only [cond_false,bd3,BEq.rfl,Bool.not_true,Bool.not_false,cond_true,bne_self_eq_false]
 | true =>
  simp only [cond_true]
  cases hF : YaF r (C.immRows M) S with
  | none =>
   simp only [endV,endD,cond_false,bd3,BEq.rfl,Bool.not_true,Bool.not_false,cond_true,bne_self_eq_false]
  | some v =>
   have hv := (follow_rev r0 (by omega) hF).1
   simp only [endV,endD,cond_false,bd3,BEq.rfl,Bool.not_true,Bool.not_false,cond_true]
   rw [Z9 (x := r + (S.length : Int)) (by omega) (by omega),hv,bne_self_eq_false]
   simp only [cond_false]
   by_cases h2 : (S.length : Int) < 2
   ·rw [ZY h2]; rfl
   ·rw [ZZ h2]
    simp only [cond_false]
    rw [YaH.f_of et]
    have hd : IntKind.wrap .i64 ((S.length : Int) - 1) = (S.length : Int) - 1 := Z9 (by omega) (by omega)
    rw [hd]
    have hj := tmod_in (x := t) (n := (S.length : Int) - 1) t0 (by omega)
    generalize Int.tmod t ((S.length : Int) - 1) = j at *
    have hw : IntKind.wrap .i64 (j + 1) = j + 1 := Z9 (by omega) (by omega)
    rw [hw]
    simp only [Int.toNat_natCast,Int.toNat_zero,List.drop_zero,Nat.sub_zero,List.nil_append]
    rw [ZH (by omega),ZH ⟨by omega,by omega,by omega,gR⟩,ZH (rows19_sub gZ.2 fun r hr => List.mem_of_mem_take hr),ZH (by simp only [List.length_nil,List.length_map,List.length_take]; omega),ZH ⟨by omega,by omega,by omega,gR⟩,ZH (rows19_sub gZ.2 fun r hr => List.mem_of_mem_drop (List.mem_of_mem_take hr)),ZH (by simp only [List.length_map,List.length_take,List.length_drop]; omega)]
    rw [Za3,imm_rows,imm_rows]
    have e1 : (j + 1).toNat = j.toNat + 1 := by omega
    rw [e1,List.take_of_length_le (i := S.length - (j.toNat + 1)) (l := S.drop (j.toNat + 1)) (by rw [List.length_drop]; exact Nat.le_refl _)]
    have gx : ZB Rlog lim (S.take j.toNat ++ S.drop (j.toNat + 1)) := ⟨by simp only [List.length_append,List.length_take,List.length_drop]; omega,fun r hr => by
     rcases List.mem_append.mp hr with hr | hr
     ·exact gZ.2 r (List.mem_of_mem_take hr)
     ·exact gZ.2 r (List.mem_of_mem_drop hr)⟩
    rw [YL.f_of (key _ gx),follow_skip r0 (by omega) hF (by omega),hM]
    rfl
end Go.Proofs.Ytpgplbalenfgfaa
