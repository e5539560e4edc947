/- Printed,and by hand: the functions that FnExactUpdate reaches come to their end; the program's answer as the reference's. -/
import Derived.Test.YtlobhlnahhjpjaaGreatYEUpdate0
import Derived.KernelRfl
set_option linter.unusedVariables false
set_option linter.unusedSimpArgs false
namespace Go.Proofs.YtlobhlnahhjpjaaGreat
open Go Go.T Go.Proofs
theorem YZ.f_of {β:Type} {k a0 z0} (h:YZ.t k a0=some z0) (K:LC->Option β):YZ.f k a0 K=K z0:=by unfold YZ.f;rw[h];rfl
theorem clone_string_fv {a:LD} (g:ZB RS lim a) {k:Nat} {β:Type} (K:LC->Option β):YZ.f k a K=K (a.map (·.map C.d)):=YZ.f_of (by
 have hl:=g.1
 have hlim:lim=1048576:=rfl
 have hm:Z8=2^36:=rfl
 unfold YZ.t YZ.g
 rw[ZH (RS.flat g.2),ZH (by simp only[List.length_nil,map_len];omega),List.nil_append]
 exact nilSl_same) K
theorem Ys.f_of {β:Type} {k aC aB aD aA aI z0 z1 z2 z3 z4} (h:Ys.t k aC aB aD aA aI=some (z0,z1,z2,z3,z4)) (K:Int->BA->Int->LC->LC->Option β):Ys.f k aC aB aD aA aI K=K z0 z1 z2 z3 z4:=by unfold Ys.f Ys.w;rw[h];rfl
set_option maxRecDepth 100000 in
theorem copyVal (n:Nat):∀ (c0:Int) (c1:BA) (c2:Int) (c3 c4:LD),ZB RS lim c3->c4.length<=lim->(∀ x∈c4,Y0 lim n x)->∀ {k:Nat},big+n+1<=k->Ys.t k c0 c1 c2 c3 c4=some (c0,c1,c2,Zc c3,Zc c4):=by
 have hm:Z8=2^36:=rfl
 have hlim:lim=1048576:=rfl
 have hb:big=2^64:=rfl
 induction n using Nat.strongRecOn with
 |ind n ih=>
 intro c0 c1 c2 c3 c4 g3 l4 g4 k hk
 obtain⟨k,rfl⟩:∃ k',k=k'+1:=⟨k-1,by omega⟩
 rw[Ys.t_succ]
 unfold Ys.g Ys.body
 rw[clone_string_fv g3]
 refine(ZbT (xs:=c4) (r:=some (c0,c1,c2,c3.map (·.map C.d),Zc c4)) (by omega) (λL i hi=>?_) (λL=>?_)).trans (by rw[RS.deep g3.2])
 ·have hl:(Zc (c4.take i)).length=i:=by rw[ZS,List.length_take];omega
  obtain⟨n',hn',d0,d1,d2,d3,d4,e,w0,w1,w2,w3,w4,w5⟩:∃ n',n=n'+1/\∃ d0 d1 d2 d3 d4,gR c4 (i:Int)=[.int .i64 d0,.str d1,.int .i64 d2,.sl d3,.sl d4]/\(Lit.int .i64 d0).wf=true/\d1.size<=lim/\(Lit.int .i64 d2).wf=true/\ZB RS lim d3/\d4.length<=lim/\∀ x∈d4,Y0 lim n' x:=by
   have:=g4 _ (gR_mem (xs:=c4) (v:=(i:Int)) (by omega) (by omega))
   generalize gR c4 (i:Int)=r at this
   cases this with
   |mk e0 e1 e2 e3 e4 w0 p1 w2 p3 p4 p5=>exact⟨_,rfl,_,_,_,_,_,rfl,w0,p1,w2,p3,p4,p5⟩
  simp(disch:=omega) only[Ys.l0,atR,rdQ,Q.ask,ZY (show(i:Int)<c4.length by omega),cond_true,Zck (xs:=c4) (v:=(i:Int)),e,Z4,Z5,ZaQ,Zbl,Zan,Ys.f_of (ih n' (by omega) d0 d1 d2 d3 d4 w3 w4 w5 (k:=k) (by omega)),Z9]
  rw[ZH (by rw[hl,List.length_singleton];omega)]
  simp only[ZN,deepD]
 ·simp only[Ys.l0,atR,rdQ,Q.ask,ZZ (show ¬ (c4.length:Int)<c4.length by omega),cond_false]
set_option maxRecDepth 100000 in
theorem l4CopyVal (n:Nat):∀ (c0:Int) (c1:BA) (c2:Int) (c3 c4:LD),ZB RS lim c3->c4.length<=lim->(∀ x∈c4,Y0 lim n x)->∀ {k:Nat},big+n+1<=k->YF.t k c0 c1 c2 c3 c4=some (c0,c1,c2,Zc c3,Zc c4):=by
 have hm:Z8=2^36:=rfl
 have hlim:lim=1048576:=rfl
 have hb:big=2^64:=rfl
 induction n using Nat.strongRecOn with
 |ind n ih=>
 intro c0 c1 c2 c3 c4 g3 l4 g4 k hk
 have l3:=g3.1
 obtain⟨k,rfl⟩:∃ k',k=k'+1:=⟨k-1,by omega⟩
 rw[YF.t_succ]
 unfold YF.g YF.body
 rw[ZH (RS.flat g3.2),ZH (by simp only[List.length_nil,map_len];omega),List.nil_append]
 refine(ZbT (xs:=c4) (r:=some (c0,c1,c2,c3.map (·.map C.d),Zc c4)) (by omega) (λL i hi=>?_) (λL=>?_)).trans (by rw[RS.deep g3.2])
 ·have hl:(Zc (c4.take i)).length=i:=by rw[ZS,List.length_take];omega
  obtain⟨n',hn',d0,d1,d2,d3,d4,e,w0,w1,w2,w3,w4,w5⟩:∃ n',n=n'+1/\∃ d0 d1 d2 d3 d4,gR c4 (i:Int)=[.int .i64 d0,.str d1,.int .i64 d2,.sl d3,.sl d4]/\(Lit.int .i64 d0).wf=true/\d1.size<=lim/\(Lit.int .i64 d2).wf=true/\ZB RS lim d3/\d4.length<=lim/\∀ x∈d4,Y0 lim n' x:=by
   have:=g4 _ (gR_mem (xs:=c4) (v:=(i:Int)) (by omega) (by omega))
   generalize gR c4 (i:Int)=r at this
   cases this with
   |mk e0 e1 e2 e3 e4 w0 p1 w2 p3 p4 p5=>exact⟨_,rfl,_,_,_,_,_,rfl,w0,p1,w2,p3,p4,p5⟩
  simp(disch:=omega) only[YF.l0,atR,rdQ,Q.ask,ZY (show(i:Int)<c4.length by omega),cond_true,Zck (xs:=c4) (v:=(i:Int)),e,Z4,Z5,ZaQ,Zbl,Zan,YF.f_of (ih n' (by omega) d0 d1 d2 d3 d4 w3 w4 w5 (k:=k) (by omega)),Z9]
  rw[ZH (by rw[hl,List.length_singleton];omega)]
  simp only[ZN,deepD]
 ·simp only[YF.l0,atR,rdQ,Q.ask,ZZ (show ¬ (c4.length:Int)<c4.length by omega),cond_false]
theorem value_h {xs:LD} (g:ZB Yo lim xs):∀ x∈xs,Y0 lim 1099511627776 x:=λx hx=>by
 obtain⟨h,hh,hx⟩:=g.2 x hx
 exact hx.mono (hh (by decide))
theorem copyValue_fv {c0 c2:Int} {c1:BA} {c3 c4:LD} (g3:ZB RS lim c3) (g4:ZB Yo lim c4) {k:Nat} (hk:Zai 1 k) {β:Type} (K:Int->BA->Int->LC->LC->Option β):Ys.f k c0 c1 c2 c3 c4 K=K c0 c1 c2 (Zc c3) (Zc c4):=
 Ys.f_of (copyVal 1099511627776 c0 c1 c2 c3 c4 g3 g4.1 (value_h g4) (Nat.le_trans (big_lv1 (n:=1099511627776+1) (by omega)) hk)) K
theorem l4Copy_fv {c0 c2:Int} {c1:BA} {c3 c4:LD} (g3:ZB RS lim c3) (g4:ZB Yo lim c4) {k:Nat} (hk:Zai 1 k) {β:Type} (K:Int->BA->Int->LC->LC->Option β):YF.f k c0 c1 c2 c3 c4 K=K c0 c1 c2 (Zc c3) (Zc c4):=
 YF.f_of (l4CopyVal 1099511627776 c0 c1 c2 c3 c4 g3 g4.1 (value_h g4) (Nat.le_trans (big_lv1 (n:=1099511627776+1) (by omega)) hk)) K
set_option maxRecDepth 100000 in
theorem sameVal (n:Nat):∀ (c0:Int) (c1:BA) (c2:Int) (c3 c4:LD),ZB RS lim c3->c4.length<=lim->(∀ x∈c4,Y0 lim n x)->∀ {k:Nat},big+n+1<=k->Yh.t k c0 c1 c2 c3 c4 c0 c1 c2 c3 c4=some true:=by
 have hlim:lim=1048576:=rfl
 have hb:big=2^64:=rfl
 induction n using Nat.strongRecOn with
 |ind n ih=>
 intro c0 c1 c2 c3 c4 g3 l4 g4 k hk
 have l3:=g3.1
 obtain⟨k,rfl⟩:∃ k',k=k'+1:=⟨k-1,by omega⟩
 rw[Yh.t_succ]
 unfold Yh.g Yh.body Yh.m
 simp only[bne_self_eq_false,strEq_self,Bool.not_true,cond_false]
 refine iter_seq (f:=λt=>(t:Int)) (n:=c3.length) (by omega) (λL t ht=>?_) (λL=>?_)
 ·simp(disch:=omega) only[Yh.l0,Yh.m0,atR,rdQ,Q.ask,ZY (show(t:Int)<(c3.length:Int) by omega),cond_true,RS.row g3,Z4,ZaQ,Zan,strEq_self,Bool.not_true,cond_false,Z9]
  rfl
 ·simp only[Yh.l0,Yh.m0,atR,rdQ,Q.ask]
  rw[ZZ (by omega)]
  simp only[cond_false]
  refine iter_seq (f:=λt=>(t:Int)) (n:=c4.length) (by omega) (λL i hi=>?_) (λL=>?_)
  ·obtain⟨n',hn',d0,d1,d2,d3,d4,e,w0,w1,w2,w3,w4,w5⟩:∃ n',n=n'+1/\∃ d0 d1 d2 d3 d4,gR c4 (i:Int)=[.int .i64 d0,.str d1,.int .i64 d2,.sl d3,.sl d4]/\(Lit.int .i64 d0).wf=true/\d1.size<=lim/\(Lit.int .i64 d2).wf=true/\ZB RS lim d3/\d4.length<=lim/\∀ x∈d4,Y0 lim n' x:=by
    have:=g4 _ (gR_mem (xs:=c4) (v:=(i:Int)) (by omega) (by omega))
    generalize gR c4 (i:Int)=r at this
    cases this with
    |mk e0 e1 e2 e3 e4 w0 p1 w2 p3 p4 p5=>exact⟨_,rfl,_,_,_,_,_,rfl,w0,p1,w2,p3,p4,p5⟩
   simp(disch:=omega) only[Yh.l1,atR,rdQ,Q.ask,ZY (show(i:Int)<(c4.length:Int) by omega),cond_true,Zck (xs:=c4) (v:=(i:Int)),e,Z4,Z5,ZaQ,Zbl,Zan,Yh.f_of (ih n' (by omega) d0 d1 d2 d3 d4 w3 w4 w5 (k:=k) (by omega)),Bool.not_true,cond_false,Z9]
   rfl
  ·simp only[Yh.l1,atR,rdQ,Q.ask]
   rw[ZZ (by omega)]
   rfl
theorem sameValue_f {c0 c2:Int} {c1:BA} {c3 c4:LD} (g3:ZB RS lim c3) (g4:ZB Yo lim c4) {k:Nat} (hk:Zai 1 k) {β:Type} (K:Bool->Option β):Yh.f k c0 c1 c2 c3 c4 c0 c1 c2 c3 c4 K=K true:=
 Yh.f_of (sameVal 1099511627776 c0 c1 c2 c3 c4 g3 g4.1 (value_h g4) (Nat.le_trans (big_lv1 (n:=1099511627776+1) (by omega)) hk)) K
theorem Yac.f_of {β:Type} {k:Nat} {aC:Int} {aB:BA} {aD aA aI:Int} {bE:Bool} {aW:LD} {bB:Int} {aR:BA} {bC:Int} {aT aY:LD} {bA:Int} {aU:BA} {bD:Int} {aV aZ:LD} {z0:Int} {z1:BA} {z2 z3 z4:Int} {z5:Bool} {z6:LC} {z7:Int} {z8:BA} {z9:Int} {z10 z11:LC} {z12:Int} {z13:BA} {z14:Int} {z15 z16:LC} (h:Yac.t k aC aB aD aA aI bE aW bB aR bC aT aY bA aU bD aV aZ=some (z0,z1,z2,z3,z4,z5,z6,z7,z8,z9,z10,z11,z12,z13,z14,z15,z16)) (K:Int->BA->Int->Int->Int->Bool->LC->Int->BA->Int->LC->LC->Int->BA->Int->LC->LC->Option β):Yac.f k aC aB aD aA aI bE aW bB aR bC aT aY bA aU bD aV aZ K=K z0 z1 z2 z3 z4 z5 z6 z7 z8 z9 z10 z11 z12 z13 z14 z15 z16:=by
 unfold Yac.f
 rw[h]
theorem Yba {x0:Int} {x1:BA} {x2 x3 x4:Int} {x5:Bool} {x6:LD} {x7:Int} {x8:BA} {x9:Int} {x10 x11:LD} {x12:Int} {x13:BA} {x14:Int} {x15 x16:LD} (g6:ZB RS lim x6) (g10:ZB RS lim x10) (g11:ZB Yo lim x11) (g15:ZB RS lim x15) (g16:ZB Yo lim x16) {k:Nat} (hk:Zai 1 k) {β:Type} (K:Int->BA->Int->Int->Int->Bool->LC->Int->BA->Int->LC->LC->Int->BA->Int->LC->LC->Option β):Yai.f k x0 x1 x2 x3 x4 x5 x6 x7 x8 x9 x10 x11 x12 x13 x14 x15 x16 K=K x0 x1 x2 x3 x4 x5 (Zc x6) x7 x8 x9 (Zc x10) (Zc x11) x12 x13 x14 (Zc x15) (Zc x16):=Yai.f_of (by
 have hm:Z8=2^36:=rfl
 have hlim:lim=1048576:=rfl
 have l:=g6.1
 unfold Yai.t Yai.g
 rw[ZH (RS.flat g6.2),ZH (by simp only[List.length_nil,map_len];omega),List.nil_append,l4Copy_fv g10 g11 hk,l4Copy_fv g15 g16 hk,<- RS.deep g6.2]) K
theorem Ya6 {x0:Int} {x1:BA} {x2 x3 x4:Int} {x5:Bool} {x6:LD} {x7:Int} {x8:BA} {x9:Int} {x10 x11:LD} {x12:Int} {x13:BA} {x14:Int} {x15 x16:LD} (g6:ZB RS lim x6) (g10:ZB RS lim x10) (g11:ZB Yo lim x11) (g15:ZB RS lim x15) (g16:ZB Yo lim x16) {k:Nat} (hk:Zai 1 k) {β:Type} (K:Int->BA->Int->Int->Int->Bool->LC->Int->BA->Int->LC->LC->Int->BA->Int->LC->LC->Option β):Yac.f k x0 x1 x2 x3 x4 x5 x6 x7 x8 x9 x10 x11 x12 x13 x14 x15 x16 K=K x0 x1 x2 x3 x4 x5 (Zc x6) x7 x8 x9 (Zc x10) (Zc x11) x12 x13 x14 (Zc x15) (Zc x16):=Yac.f_of (by
 unfold Yac.t Yac.g
 rw[clone_string_fv g6,copyValue_fv g10 g11 hk,copyValue_fv g15 g16 hk,<- RS.deep g6.2]) K
set_option maxRecDepth 10000 in
theorem l7CopyLog_fv {a:LD} (g:ZB Yb lim a) {k:Nat} (hk:Zai 1 k) {β:Type} (K:LC->Option β):YS.f k a K=K (Zc a):=YS.f_of (by
 have hm:Z8=2^36:=rfl
 have hlim:lim=1048576:=rfl
 have hb:big=2^64:=rfl
 have hk0:big<=k:=up0 hk
 have l:=g.1
 unfold YS.t YS.g
 refine ZbT (xs:=a) (by omega) (λL i hi=>?_) (λL=>?_)
 ·have hl:(Zc (a.take i)).length=i:=by rw[ZS,List.length_take];omega
  obtain⟨e,-,-,-,-,-,-,k6,-,-,-,k10,k11,-,-,-,k15,k16,-⟩:=Yb.get g (v:=(i:Int)) (by omega) (by omega)
  unfold YS.l0;simp only[atR,rdQ,Q.ask]
  simp(disch:=omega) only[ZY (show(i:Int)<a.length by omega),cond_true,Zck (xs:=a) (v:=(i:Int)),e,Z4,Z5,ZaQ,ZaV,Zbl,Zan,Yba k6 k10 k11 k15 k16 hk,Z9]
  rw[ZH (by rw[hl,List.length_singleton];omega)]
  simp only[ZN,deepD]
 ·unfold YS.l0;simp only[atR,rdQ,Q.ask]
  simp only[ZZ (show ¬ (a.length:Int)<a.length by omega),cond_false]) K
theorem with_step {l:LD} {o o':List D} {i:Nat} (hi:i<l.length) {put:Bool}:YaR Yaj YaQ o o' put (l.drop i)=(if !put&&!Yaj l[i] o then[o'] else[])++((if YaQ l[i] o then[] else[l[i]])++YaR Yaj YaQ o o' (put||!Yaj l[i] o) (l.drop (i+1))):=by
 rw[List.drop_eq_getElem_cons hi]
 conv=>lhs;unfold YaR
theorem withF_nil {α:Type} {less same:α->α->Bool} {o o':α} {put:Bool}:YaR less same o o' put []=if put then[] else[o']:=by unfold YaR;rfl
theorem gR_lt {l:LD} {i:Nat} (hi:i<l.length):gR l (i:Int)=l[i]:=by
 unfold gR
 rw[Int.toNat_natCast,List.getD_eq_getElem?_getD,List.getElem?_eq_getElem hi]
 rfl
theorem less_gR {l:LD} {i:Nat} (hi:i<l.length) (o:List D):Yaj l[i] o=lessV (gI l (i:Int) 0) (gS l (i:Int) 1) (rI o 0) (rS o 1):=by
 rw[<- gR_lt hi]
 rfl
theorem same_gR {l:LD} {i:Nat} (hi:i<l.length) (o:List D):YaQ l[i] o=((gI l (i:Int) 0==rI o 0)&&Zae (gS l (i:Int) 1) (rS o 1)):=by
 rw[<- gR_lt hi]
 rfl
set_option maxRecDepth 100000 in
set_option maxHeartbeats 8000000 in
theorem l7With_fv {l:LD} (g:ZB Ya lim l) {x0:Int} {x1:BA} {x2 x3 x4:Int} {x5:Bool} {x6:LD} {x7:Int} {x8:BA} {x9:Int} {x10 x11:LD} {x12:Int} {x13:BA} {x14:Int} {x15 x16:LD} (g6:ZB RS lim x6) (g10:ZB RS lim x10) (g11:ZB Yo lim x11) (g15:ZB RS lim x15) (g16:ZB Yo lim x16) {k:Nat} (hk:Zai 1 k):
  ∃ ys,Y9.t k l x0 x1 x2 x3 x4 x5 x6 x7 x8 x9 x10 x11 x12 x13 x14 x15 x16=some ys/\C.immRows ys=YaR Yaj YaQ [.int .i64 x0,.str x1,.int .i64 x2,.int .i64 x3,.int .i64 x4,.bool x5,.sl x6,.int .i64 x7,.str x8,.int .i64 x9,.sl x10,.sl x11,.int .i64 x12,.str x13,.int .i64 x14,.sl x15,.sl x16] [.int .i64 x0,.str x1,.int .i64 x2,.int .i64 x3,.int .i64 x4,.bool x5,.sl x6,.int .i64 x7,.str x8,.int .i64 x9,.sl x10,.sl x11,.int .i64 x12,.str x13,.int .i64 x14,.sl x15,.sl x16] false l:=by
 have hlim:lim=1048576:=rfl
 have hm:Z8=2^36:=rfl
 have hb:big=2^64:=rfl
 have hl:=g.1
 have hk0:Fuel k:=up0 hk
 generalize ho:([.int .i64 x0,.str x1,.int .i64 x2,.int .i64 x3,.int .i64 x4,.bool x5,.sl x6,.int .i64 x7,.str x8,.int .i64 x9,.sl x10,.sl x11,.int .i64 x12,.str x13,.int .i64 x14,.sl x15,.sl x16]:List D)=o
 have hcp:C.immRows ([[.d (.int .i64 x0),.d (.str x1),.d (.int .i64 x2),.d (.int .i64 x3),.d (.int .i64 x4),.d (.bool x5),.own (Zc x6),.d (.int .i64 x7),.d (.str x8),.d (.int .i64 x9),.own (Zc x10),.own (Zc x11),.d (.int .i64 x12),.d (.str x13),.d (.int .i64 x14),.own (Zc x15),.own (Zc x16)]]:LC)=[o]:=by
  simp only[C.immRows,C.immCells,C.imm,ZK,ho]
 have hr0:rI o 0=x0:=by rw[<- ho];rfl
 have hr1:rS o 1=x1:=by rw[<- ho];rfl
 unfold Y9.t Y9.g
 refine iter_ex (λv=>(l.length:Int).toNat-v.2.1.toNat) (λv=>0<=v.2.1/\v.2.1<=(l.length:Int)/\(v.2.2.length:Int)<=v.2.1+(bif v.1 then 1 else 0)/\C.immRows v.2.2++YaR Yaj YaQ o o v.1 (l.drop v.2.1.toNat)=YaR Yaj YaQ o o false l) (λz=>∃ ys,z=some ys/\C.immRows ys=YaR Yaj YaQ o o false l) ?_ (v:=(false,0,[])) ⟨by simp,by simp,by simp,by simp[C.immRows]⟩ (by unfold Fuel at hk0;show(l.length:Int).toNat-0<k;omega)
 rintro⟨put,n,out⟩ ⟨n0,n1,hlen,heq⟩ L hL
 replace n0:0<=n:=n0
 obtain⟨i,rfl⟩:∃ i:Nat,n=(i:Int):=⟨n.toNat,by omega⟩
 replace n1:(i:Int)<=(l.length:Int):=n1
 replace hlen:(out.length:Int)<=(i:Int)+(bif put then 1 else 0):=hlen
 have hput:(bif put then(1:Int) else 0)<=1:=by cases put<;>decide
 replace heq:C.immRows out++YaR Yaj YaQ o o put (l.drop (i:Int).toNat)=YaR Yaj YaQ o o false l:=heq
 rw[Int.toNat_natCast] at heq
 have hw1:IntKind.wrap .i64 ((i:Int)+1)=(i:Int)+1:=Z9 (by omega) (by omega)
 by_cases hi:i<l.length
 ·obtain⟨hrow,-⟩:=Ya.gets g.2 (v:=(i:Int)) (by omega) (by omega)
  rw[with_step hi,less_gR hi,same_gR hi,hr0,hr1] at heq
  rw[gR_lt hi] at hrow
  rw[hrow] at heq
  have next:∀ (put':Bool) (out':LC),(out'.length:Int)<=(i:Int)+1+(bif put' then 1 else 0)->C.immRows out'++YaR Yaj YaQ o o put' (l.drop (i+1))=YaR Yaj YaQ o o false l->∃ ys,L (put',(i:Int)+1,out')=some ys/\C.immRows ys=YaR Yaj YaQ o o false l:=λput' out' q1 q2=>
   hL _ ⟨by show 0<=(i:Int)+1;omega,by show(i:Int)+1<=_;omega,q1,by show C.immRows out'++YaR Yaj YaQ o o put' (l.drop ((i:Int)+1).toNat)=_;rw[show((i:Int)+1).toNat=i+1 by omega];exact q2⟩ (by show(l.length:Int).toNat-((i:Int)+1).toNat<(l.length:Int).toNat-(i:Int).toNat;omega)
  simp(config:={maxSteps:=4000000}) (disch:=omega) only[Y9.l0,atR,rdQ,Q.ask,ZY (show(i:Int)<(l.length:Int) by omega),cond_true,Ya.row g,Z4,Z5,ZaQ,ZaV,Zbl,Zan,l7Less_fv,Yba g6 g10 g11 g15 g16 hk,hw1,List.length_append,List.length_singleton]
  have gd:∀ {β:Type} (F:Option β),Zd (out.length+1<=Z8) F=F:=λF=>ZH (by omega)
  have gd2:∀ {β:Type} (F:Option β),Zd (out.length+1+1<=Z8) F=F:=λF=>ZH (by omega)
  simp only[gd,gd2]
  have hcl:C.immRows ([[.d (.int .i64 (gI l (i:Int) 0)),.d (.str (gS l (i:Int) 1)),.d (.int .i64 (gI l (i:Int) 2)),.d (.int .i64 (gI l (i:Int) 3)),.d (.int .i64 (gI l (i:Int) 4)),.d (.bool (gB l (i:Int) 5)),.d (.sl (gL l (i:Int) 6)),.d (.int .i64 (gI l (i:Int) 7)),.d (.str (gS l (i:Int) 8)),.d (.int .i64 (gI l (i:Int) 9)),.d (.sl (gL l (i:Int) 10)),.d (.sl (gL l (i:Int) 11)),.d (.int .i64 (gI l (i:Int) 12)),.d (.str (gS l (i:Int) 13)),.d (.int .i64 (gI l (i:Int) 14)),.d (.sl (gL l (i:Int) 15)),.d (.sl (gL l (i:Int) 16))]]:LC)=[l[i]]:=by
   rw[hrow]
   simp only[C.immRows,C.immCells,C.imm]
  rw[<- hrow] at heq
  generalize([[.d (.int .i64 x0),.d (.str x1),.d (.int .i64 x2),.d (.int .i64 x3),.d (.int .i64 x4),.d (.bool x5),.own (Zc x6),.d (.int .i64 x7),.d (.str x8),.d (.int .i64 x9),.own (Zc x10),.own (Zc x11),.d (.int .i64 x12),.d (.str x13),.d (.int .i64 x14),.own (Zc x15),.own (Zc x16)]]:LC)=cp at hcp⊢
  generalize([[.d (.int .i64 (gI l (i:Int) 0)),.d (.str (gS l (i:Int) 1)),.d (.int .i64 (gI l (i:Int) 2)),.d (.int .i64 (gI l (i:Int) 3)),.d (.int .i64 (gI l (i:Int) 4)),.d (.bool (gB l (i:Int) 5)),.d (.sl (gL l (i:Int) 6)),.d (.int .i64 (gI l (i:Int) 7)),.d (.str (gS l (i:Int) 8)),.d (.int .i64 (gI l (i:Int) 9)),.d (.sl (gL l (i:Int) 10)),.d (.sl (gL l (i:Int) 11)),.d (.int .i64 (gI l (i:Int) 12)),.d (.str (gS l (i:Int) 13)),.d (.int .i64 (gI l (i:Int) 14)),.d (.sl (gL l (i:Int) 15)),.d (.sl (gL l (i:Int) 16))]]:LC)=cl at hcl⊢
  have lcp:cp.length=1:=by have:=congrArg List.length hcp;rwa[Ya8,List.length_map] at this
  have lcl:cl.length=1:=by have:=congrArg List.length hcl;rwa[Ya8,List.length_map] at this
  generalize l[i]=li at *
  generalize lessV (gI l (i:Int) 0) (gS l (i:Int) 1) x0 x1=bl at *
  generalize Zae (gS l (i:Int) 1) x1=bs at *
  simp only[bne]
  generalize(gI l (i:Int) 0==x0)=be at *
  cases put<;>cases bl<;>cases be<;>cases bs
  all_goals
   simp only[Bool.not_true,Bool.not_false,cond_true,cond_false,Bool.and_true,Bool.and_false,Bool.true_and,Bool.false_and,Bool.or_true,Bool.or_false,Bool.false_or,Bool.true_or,if_true,if_false,Bool.false_eq_true,List.nil_append] at heq⊢
   simp only[cond_true,cond_false] at hlen
   first
   |exact next _ _ (by simp only[cond_true,cond_false];omega) heq
   |exact next _ _ (by simp only[cond_true,cond_false,List.length_append];omega) (by rw[Za3,hcl,List.append_assoc];exact heq)
   |exact next _ _ (by simp only[cond_true,cond_false,List.length_append];omega) (by rw[Za3,hcp,List.append_assoc];exact heq)
   |exact next _ _ (by simp only[cond_true,cond_false,List.length_append];omega) (by rw[Za3,Za3,hcp,hcl,List.append_assoc,List.append_assoc];exact heq)
 ·have hle:l.length<=i:=by omega
  rw[List.drop_eq_nil_of_le hle] at heq
  simp(config:={maxSteps:=4000000}) (disch:=omega) only[Y9.l0,atR,rdQ,Q.ask,ZZ (show ¬ (i:Int)<(l.length:Int) by omega),cond_false,Yba g6 g10 g11 g15 g16 hk,List.length_singleton]
  rw[withF_nil] at heq
  cases put with
  |true=>exact⟨out,rfl,by simpa using heq⟩
  |false=>
   rw[Bool.not_false,cond_true,ZH (by omega)]
   exact⟨_,rfl,by rw[Za3,hcp];simpa using heq⟩
theorem YW.f_of {β:Type} {k a0 z0} (h:YW.t k a0=some z0) (K:LC->Option β):YW.f k a0 K=K z0:=by unfold YW.f;rw[h];rfl
set_option maxRecDepth 100000 in
theorem l7CopyObjs_fv {a:LD} (g:ZB Ya lim a) {k:Nat} (hk:Zai 1 k) {β:Type} (K:LC->Option β):YL.f k a K=K (Zc a):=YL.f_of (by
 have hm:Z8=2^36:=rfl
 have hlim:lim=1048576:=rfl
 have hb:big=2^64:=rfl
 have hk0:big<=k:=up0 hk
 have l:=g.1
 unfold YL.t YL.g
 refine ZbT (xs:=a) (by omega) (λL i hi=>?_) (λL=>?_)
 ·have hl:(Zc (a.take i)).length=i:=by rw[ZS,List.length_take];omega
  obtain⟨e,-,-,-,-,-,k6,-,-,-,k10,k11,-,-,-,k15,k16,-⟩:=Ya.get g (v:=(i:Int)) (by omega) (by omega)
  simp(disch:=omega) only[YL.l0,atR,rdQ,Q.ask,ZY (show(i:Int)<a.length by omega),cond_true,Zck (xs:=a) (v:=(i:Int)),e,Z4,Z5,ZaQ,ZaV,Zbl,Zan,Yba k6 k10 k11 k15 k16 hk,Z9]
  rw[ZH (by rw[hl,List.length_singleton];omega)]
  simp only[ZN,deepD]
 ·simp only[YL.l0,atR,rdQ,Q.ask,ZZ (show ¬ (a.length:Int)<a.length by omega),cond_false]) K
set_option maxRecDepth 100000 in
theorem copyObjs_fv {a:LD} (g:ZB Ya lim a) {k:Nat} (hk:Zai 1 k) {β:Type} (K:LC->Option β):YW.f k a K=K (Zc a):=YW.f_of (by
 have hm:Z8=2^36:=rfl
 have hlim:lim=1048576:=rfl
 have hb:big=2^64:=rfl
 have hk0:big<=k:=up0 hk
 have l:=g.1
 unfold YW.t YW.g
 refine ZbT (xs:=a) (by omega) (λL i hi=>?_) (λL=>?_)
 ·have hl:(Zc (a.take i)).length=i:=by rw[ZS,List.length_take];omega
  obtain⟨e,-,-,-,-,-,k6,-,-,-,k10,k11,-,-,-,k15,k16,-⟩:=Ya.get g (v:=(i:Int)) (by omega) (by omega)
  simp(disch:=omega) only[YW.l0,atR,rdQ,Q.ask,ZY (show(i:Int)<a.length by omega),cond_true,Zck (xs:=a) (v:=(i:Int)),e,Z4,Z5,ZaQ,ZaV,Zbl,Zan,Ya6 k6 k10 k11 k15 k16 hk,Z9]
  rw[ZH (by rw[hl,List.length_singleton];omega)]
  simp only[ZN,deepD]
 ·simp only[YW.l0,atR,rdQ,Q.ask,ZZ (show ¬ (a.length:Int)<a.length by omega),cond_false]) K
theorem Y2.f_of {β:Type} {k a0 z0} (h:Y2.t k a0=some z0) (K:LC->Option β):Y2.f k a0 K=K z0:=by unfold Y2.f;rw[h];rfl
set_option maxRecDepth 100000 in
theorem copyLog_fv {a:LD} (g:ZB Yb lim a) {k:Nat} (hk:Zai 1 k) {β:Type} (K:LC->Option β):Y2.f k a K=K (Zc a):=Y2.f_of (by
 have hm:Z8=2^36:=rfl
 have hlim:lim=1048576:=rfl
 have hb:big=2^64:=rfl
 have hk0:big<=k:=up0 hk
 have l:=g.1
 unfold Y2.t Y2.g
 refine ZbT (xs:=a) (by omega) (λL i hi=>?_) (λL=>?_)
 ·have hl:(Zc (a.take i)).length=i:=by rw[ZS,List.length_take];omega
  obtain⟨e,-,-,-,-,-,-,k6,-,-,-,k10,k11,-,-,-,k15,k16,-⟩:=Yb.get g (v:=(i:Int)) (by omega) (by omega)
  simp(disch:=omega) only[Y2.l0,atR,rdQ,Q.ask,ZY (show(i:Int)<a.length by omega),cond_true,Zck (xs:=a) (v:=(i:Int)),e,Z4,Z5,ZaQ,ZaV,Zbl,Zan,Ya6 k6 k10 k11 k15 k16 hk,Z9]
  rw[ZH (by rw[hl,List.length_singleton];omega)]
  simp only[ZN,deepD]
 ·simp only[Y2.l0,atR,rdQ,Q.ask,ZZ (show ¬ (a.length:Int)<a.length by omega),cond_false]) K
theorem Yad.f_of {β:Type} {k aC aB aD aA z0 z1 z2 z3} (h:Yad.t k aC aB aD aA=some (z0,z1,z2,z3)) (K:LC->Int->Int->LC->Option β):Yad.f k aC aB aD aA K=K z0 z1 z2 z3:=by unfold Yad.f;rw[h];rfl
theorem YaH.f_of {β:Type} {k aC aB aD aA aI bE aW bB aR bC aT aY bA aU bD aV aZ f0_0 f1_0 z0} (h:YaH.t k aC aB aD aA aI bE aW bB aR bC aT aY bA aU bD aV aZ f0_0 f1_0=some z0) (K:Bool->Option β):YaH.f k aC aB aD aA aI bE aW bB aR bC aT aY bA aU bD aV aZ f0_0 f1_0 K=K z0:=by unfold YaH.f;rw[h];rfl
theorem Yf.f_of {β:Type} {k a0 a1_0_0 a1_1_0 z0} (h:Yf.t k a0 a1_0_0 a1_1_0=some z0) (K:Int->Option β):Yf.f k a0 a1_0_0 a1_1_0 K=K z0:=by unfold Yf.f;rw[h];rfl
theorem YaN.f_of {β:Type} {k a0 a1 a2 z0} (h:YaN.t k a0 a1 a2=some z0) (K:Int->Option β):YaN.f k a0 a1 a2 K=K z0:=by unfold YaN.f;rw[h];rfl
noncomputable def YaP (l:LD) (x:Int) (y:BA):Int:=ZbV (λi=>(gI l (i:Int) 0==x)&&Zae (gS l (i:Int) 1) y) l.length
set_option maxRecDepth 100000 in
theorem l7Find_fv {l:LD} (g:ZB Ya lim l) {x:Int} {y:BA} {k:Nat} (hk:Fuel k) {β:Type} (K:Int->Option β):Y5.f k l x y K=K (YaP l x y):=Y5.f_of (by
 have hb:big=2^64:=rfl
 have hlim:lim=1048576:=rfl
 have hl:=g.1
 unfold Y5.t Y5.g
 refine iter_findI (n:=l.length) _ some (by unfold Fuel at hk;omega) (λL i hi=>?_) (λL=>by simp[Y5.l0,atR,rdQ,Q.ask])
 simp(disch:=omega) only[Y5.l0,atR,rdQ,Q.ask,ZY (show(i:Int)<l.length by omega),cond_true,Ya.row g,Z4,Z5,ZaQ,ZaV,Zbl,Zan,Z9]
 cases(gI l (i:Int) 0==x)<;>cases Zae (gS l (i:Int) 1) y<;>rfl) K
set_option maxRecDepth 100000 in
theorem objAt_fv {l:LD} (g:ZB Ya lim l) {x:Int} {y:BA} {k:Nat} (hk:Fuel k) {β:Type} (K:Int->Option β):YaN.f k l x y K=K (YaP l x y):=YaN.f_of (by
 have hb:big=2^64:=rfl
 have hlim:lim=1048576:=rfl
 have hl:=g.1
 unfold YaN.t YaN.g
 rw[Yf.f_of (z0:=YaP l x y)]
 unfold Yf.t Yf.g
 refine iter_findI (n:=l.length) _ some (by unfold Fuel at hk;omega) (λL i hi=>?_) (λL=>by simp[Yf.l0,atR,rdQ,Q.ask])
 have hs:∀ {x0:Int} {x1:BA} {x2:Int} {x3:Int} {x4:Int} {x5:Bool} {x6:LD} {x7:Int} {x8:BA} {x9:Int} {x10:LD} {x11:LD} {x12:Int} {x13:BA} {x14:Int} {x15:LD} {x16:LD} {β:Type} (K:Bool->Option β),YaH.f k x0 x1 x2 x3 x4 x5 x6 x7 x8 x9 x10 x11 x12 x13 x14 x15 x16 x y K=K ((x0==x)&&Zae x1 y):=λK=>YaH.f_of (by unfold YaH.t YaH.g;rename_i x0 x1 _ _ _ _ _ _ _ _ _ _ _ _ _ _ _ _;cases(x0==x)<;>rfl) K
 simp(disch:=omega) only[Yf.l0,atR,rdQ,Q.ask,ZY (show(i:Int)<l.length by omega),cond_true,Ya.row g,Z4,Z5,ZaQ,ZaV,Zbl,Zan,hs,Z9]) K
theorem findO_lt {l:LD} {x:Int} {y:BA} (h:¬ YaP l x y<0):∃ n:Nat,YaP l x y=(n:Int)/\n<l.length:=by
 unfold YaP at h⊢
 obtain⟨h1,-,h3,-⟩:=findI_some (p:=λi=>(gI l (i:Int) 0==x)&&Zae (gS l (i:Int) 1) y) (n:=l.length) (by omega)
 exact⟨_,h3.symm,h1⟩
theorem Yw.f_of {β:Type} {k a0 a1 z0} (h:Yw.t k a0 a1=some z0) (K:Bool->Option β):Yw.f k a0 a1 K=K z0:=by unfold Yw.f;rw[h];rfl
theorem Yc.f_of {β:Type} {k a0 a1 z0} (h:Yc.t k a0 a1=some z0) (K:Bool->Option β):Yc.f k a0 a1 K=K z0:=by unfold Yc.f Yc.w;rw[h];rfl
theorem YR.f_of {β:Type} {k aC aB aD aA aI aM aN aO aP aQ z0} (h:YR.t k aC aB aD aA aI aM aN aO aP aQ=some z0) (K:Bool->Option β):YR.f k aC aB aD aA aI aM aN aO aP aQ K=K z0:=by unfold YR.f YR.w;rw[h];rfl
abbrev rowV (c0:Int) (c1:BA) (c2:Int) (c3 c4:LD):List D:=[.int .i64 c0,.str c1,.int .i64 c2,.sl c3,.sl c4]
def sameF:Nat->List D->List D->Bool
 |0,_,_=>false
 |n+1,x,y=>(rI x 0==rI y 0)&&(Zae (rS x 1) (rS y 1)&&((rI x 2==rI y 2)&&((((rL x 3).length:Int)==((rL y 3).length:Int))&&((((rL x 4).length:Int)==((rL y 4).length:Int))&&((List.range (rL x 3).length).all (λi=>Zae (gS (rL x 3) (i:Int) 0) (gS (rL y 3) (i:Int) 0))&&(List.range (rL x 4).length).all λi=>sameF n (gR (rL x 4) (i:Int)) (gR (rL y 4) (i:Int)))))))
set_option maxRecDepth 100000 in
theorem equalS_fv {a b:LD} (ga:ZB RS lim a) (gb:ZB RS lim b) {k:Nat} (hk:Fuel k) {β:Type} (K:Bool->Option β):Yw.f k a b K=K (((a.length:Int)==(b.length:Int))&&(List.range a.length).all λi=>Zae (gS a (i:Int) 0) (gS b (i:Int) 0)):=Yw.f_of (by
 have hlim:lim=1048576:=rfl
 have hb:big=2^64:=rfl
 have la:=ga.1
 unfold Yw.t Yw.g
 cases hl:((a.length:Int)==(b.length:Int))
 ·simp only[bne,hl,Bool.not_false,cond_true,Bool.false_and]
 ·have hl':a.length=b.length:=by have:=eq_of_beq hl;omega
  simp only[bne,hl,Bool.not_true,cond_false,Bool.true_and]
  rw[iter_all0 (n:=a.length) (λi=>Zae (gS a (i:Int) 0) (gS b (i:Int) 0)) (r1:=some false) (r2:=some true) (by unfold Fuel at hk;omega)]
  ·cases List.all _ _<;>rfl
  ·intro L i hi
   simp(disch:=omega) only[Yw.l0,atR,rdQ,Q.ask,ZY (show(i:Int)<(a.length:Int) by omega),cond_true,RS.row ga,RS.row gb,Z4,ZaQ,Zan,Z9]
   cases Zae (gS a (i:Int) 0) (gS b (i:Int) 0)<;>rfl
  ·intro L
   simp[Yw.l0,atR,rdQ,Q.ask]) K
set_option maxRecDepth 100000 in
set_option maxHeartbeats 2000000 in
theorem same_both (n:Nat):∀ (c0:Int) (c1:BA) (c2:Int) (c3 c4:LD) (e0:Int) (e1:BA) (e2:Int) (e3 e4:LD),ZB RS lim c3->c4.length<=lim->(∀ x∈c4,Y0 lim n x)->ZB RS lim e3->e4.length<=lim->(∀ x∈e4,Y0 lim n x)->∀ {k:Nat},big+2*n+2<=k->Yh.t k c0 c1 c2 c3 c4 e0 e1 e2 e3 e4=some (sameF (n+1) (rowV c0 c1 c2 c3 c4) (rowV e0 e1 e2 e3 e4))/\YR.t k c0 c1 c2 c3 c4 e0 e1 e2 e3 e4=some (sameF (n+1) (rowV c0 c1 c2 c3 c4) (rowV e0 e1 e2 e3 e4)):=by
 have hlim:lim=1048576:=rfl
 have hb:big=2^64:=rfl
 induction n using Nat.strongRecOn with
 |ind n ih=>
 intro c0 c1 c2 c3 c4 e0 e1 e2 e3 e4 g3 l4 g4 f3 m4 f4 k hk
 have l3:=g3.1
 have m3:=f3.1
 obtain⟨k,rfl⟩:∃ k',k=k'+1+1:=⟨k-2,by omega⟩
 have val:sameF (n+1) (rowV c0 c1 c2 c3 c4) (rowV e0 e1 e2 e3 e4)=((c0==e0)&&(Zae c1 e1&&((c2==e2)&&(((c3.length:Int)==(e3.length:Int))&&(((c4.length:Int)==(e4.length:Int))&&((List.range c3.length).all (λi=>Zae (gS c3 (i:Int) 0) (gS e3 (i:Int) 0))&&(List.range c4.length).all λi=>sameF n (gR c4 (i:Int)) (gR e4 (i:Int)))))))):=rfl
 rw[val]
 have kid:c4.length=e4.length->∀ (i:Nat),i<c4.length->∃ d0 d1 d2 d3 d4 x0 x1 x2 x3 x4,gR c4 (i:Int)=rowV d0 d1 d2 d3 d4/\gR e4 (i:Int)=rowV x0 x1 x2 x3 x4/\∀ {k':Nat},big+2*n<=k'->Yh.t k' d0 d1 d2 d3 d4 x0 x1 x2 x3 x4=some (sameF n (gR c4 (i:Int)) (gR e4 (i:Int)))/\YR.t k' d0 d1 d2 d3 d4 x0 x1 x2 x3 x4=some (sameF n (gR c4 (i:Int)) (gR e4 (i:Int))):=by
  intro hl i hi
  have part:∀ (c4:LD),c4.length<=lim->(∀ x∈c4,Y0 lim n x)->i<c4.length->∃ n',n=n'+1/\∃ d0 d1 d2 d3 d4,gR c4 (i:Int)=[.int .i64 d0,.str d1,.int .i64 d2,.sl d3,.sl d4]/\ZB RS lim d3/\d4.length<=lim/\∀ x∈d4,Y0 lim n' x:=λc4 _ g4 hw=>by
   have:=g4 _ (gR_mem (v:=(i:Int)) (by omega) (by omega))
   generalize gR c4 (i:Int)=r at this
   cases this with
   |mk e0 e1 e2 e3 e4 w0 p1 w2 p3 p4 p5=>exact⟨_,rfl,_,_,_,_,_,rfl,p3,p4,p5⟩
  obtain⟨n1,hn1,d0,d1,d2,d3,d4,ed,w3,w4,w5⟩:=part c4 l4 g4 hi
  obtain⟨n2,hn2,x0,x1,x2,x3,x4,ex,y3,y4,y5⟩:=part e4 m4 f4 (by omega)
  obtain rfl:n1=n2:=by omega
  refine⟨d0,d1,d2,d3,d4,x0,x1,x2,x3,x4,ed,ex,λ{k'} hk'=>?_⟩
  rw[ed,ex]
  subst hn1
  exact ih n1 (by omega) d0 d1 d2 d3 d4 x0 x1 x2 x3 x4 w3 w4 w5 y3 y4 y5 (by omega)
 constructor
 ·rw[Yh.t_succ]
  unfold Yh.g Yh.body Yh.m
  cases h0:(c0==e0)<;>simp only[bne,h0,Bool.not_true,Bool.not_false,cond_true,cond_false,Bool.true_and,Bool.false_and]
  cases h1:Zae c1 e1<;>simp only[Bool.not_true,Bool.not_false,cond_true,cond_false,Bool.true_and,Bool.false_and]
  cases h2:(c2==e2)<;>simp only[h2,Bool.not_true,Bool.not_false,cond_true,cond_false,Bool.true_and,Bool.false_and]
  cases h3:((c3.length:Int)==(e3.length:Int))<;>simp only[h3,Bool.not_true,Bool.not_false,cond_true,cond_false,Bool.true_and,Bool.false_and]
  cases h4:((c4.length:Int)==(e4.length:Int))<;>simp only[h4,Bool.not_true,Bool.not_false,cond_true,cond_false,Bool.true_and,Bool.false_and]
  have q3:c3.length=e3.length:=by have:=eq_of_beq h3;omega
  have q4:c4.length=e4.length:=by have:=eq_of_beq h4;omega
  have e2':ZA (Yh.l1 (k+1) (Yh.f (k+1)) c0 c1 c2 c3 c4 e0 e1 e2 e3 e4 (λz0=>some z0)) (k+1) 0=some ((List.range c4.length).all λi=>sameF n (gR c4 (i:Int)) (gR e4 (i:Int))):=by
   rw[iter_all0 (n:=c4.length) (λi=>sameF n (gR c4 (i:Int)) (gR e4 (i:Int))) (r1:=some false) (r2:=some true) (by omega)]
   ·cases List.all _ _<;>rfl
   ·intro L i hi
    obtain⟨d0,d1,d2,d3,d4,x0,x1,x2,x3,x4,ed,ex,hkid⟩:=kid q4 i hi
    have es:=(hkid (k':=k+1) (by omega)).1
    generalize sameF n (gR c4 (i:Int)) (gR e4 (i:Int))=bb at es
    simp(disch:=omega) only[Yh.l1,atR,rdQ,Q.ask,ZY (show(i:Int)<(c4.length:Int) by omega),cond_true,atR,rdQ,Q.ask,Zck (xs:=c4) (v:=(i:Int)),Zck (xs:=e4) (v:=(i:Int)),ed,ex,Z4,Z5,ZaQ,Zbl,Zan,Yh.f_of es,Z9]
    cases bb<;>rfl
   ·intro L
    simp[Yh.l1,atR,rdQ,Q.ask]
  rw[iter_all0 (n:=c3.length) (λi=>Zae (gS c3 (i:Int) 0) (gS e3 (i:Int) 0)) (r1:=some false) (r2:=some ((List.range c4.length).all λi=>sameF n (gR c4 (i:Int)) (gR e4 (i:Int)))) (by omega)]
  ·cases(List.range c3.length).all λi=>Zae (gS c3 (i:Int) 0) (gS e3 (i:Int) 0)<;>rfl
  ·intro L i hi
   simp(disch:=omega) only[Yh.l0,Yh.m0,atR,rdQ,Q.ask,ZY (show(i:Int)<(c3.length:Int) by omega),cond_true,RS.row g3,RS.row f3,Z4,ZaQ,Zan,Z9]
   cases Zae (gS c3 (i:Int) 0) (gS e3 (i:Int) 0)<;>rfl
  ·intro L
   simp only[Yh.l0,Yh.m0,atR,rdQ,Q.ask,ZZ (show ¬ (c3.length:Int)<(c3.length:Int) by omega),cond_false]
   exact e2'
 ·rw[YR.t_succ]
  unfold YR.g YR.body
  cases h0:(c0==e0)<;>simp only[cond_true,cond_false,Bool.true_and,Bool.false_and]
  cases h1:Zae c1 e1<;>simp only[cond_true,cond_false,Bool.true_and,Bool.false_and]
  cases h2:(c2==e2)<;>simp only[cond_true,cond_false,Bool.true_and,Bool.false_and]
  rw[equalS_fv g3 f3 (by unfold Fuel;omega)]
  cases h3:((c3.length:Int)==(e3.length:Int))<;>simp only[cond_true,cond_false,Bool.true_and,Bool.false_and]
  have ef:Yc.t (k+1) c4 e4=some (((c4.length:Int)==(e4.length:Int))&&(List.range c4.length).all λi=>sameF n (gR c4 (i:Int)) (gR e4 (i:Int))):=by
   rw[Yc.t_succ]
   unfold Yc.g Yc.body
   cases h4:((c4.length:Int)==(e4.length:Int))<;>simp only[bne,h4,Bool.not_true,Bool.not_false,cond_true,cond_false,Bool.true_and,Bool.false_and]
   have q4:c4.length=e4.length:=by have:=eq_of_beq h4;omega
   rw[iter_all0 (n:=c4.length) (λi=>sameF n (gR c4 (i:Int)) (gR e4 (i:Int))) (r1:=some false) (r2:=some true) (by omega)]
   ·cases List.all _ _<;>rfl
   ·intro L i hi
    obtain⟨d0,d1,d2,d3,d4,x0,x1,x2,x3,x4,ed,ex,hkid⟩:=kid q4 i hi
    have es:=(hkid (k':=k) (by omega)).2
    generalize sameF n (gR c4 (i:Int)) (gR e4 (i:Int))=bb at es
    simp(disch:=omega) only[Yc.l0,atR,rdQ,Q.ask,ZY (show(i:Int)<(c4.length:Int) by omega),cond_true,atR,rdQ,Q.ask,Zck (xs:=c4) (v:=(i:Int)),Zck (xs:=e4) (v:=(i:Int)),ed,ex,Z4,Z5,ZaQ,Zbl,Zan,YR.f_of es,Z9]
    cases bb<;>rfl
   ·intro L
    simp[Yc.l0,atR,rdQ,Q.ask]
  cases hk3:(List.range c3.length).all λi=>Zae (gS c3 (i:Int) 0) (gS e3 (i:Int) 0)<;>simp only[cond_true,cond_false,Bool.true_and,Bool.false_and,Bool.and_false]
  rw[Yc.f_of ef]
noncomputable def sameVB (c0:Int) (c1:BA) (c2:Int) (c3 c4:LD) (e0:Int) (e1:BA) (e2:Int) (e3 e4:LD):Bool:=sameF (1099511627776+1) (rowV c0 c1 c2 c3 c4) (rowV e0 e1 e2 e3 e4)
theorem sameVB_t {c0 c2 e0 e2:Int} {c1 e1:BA} {c3 c4 e3 e4:LD} (g3:ZB RS lim c3) (g4:ZB Yo lim c4) (f3:ZB RS lim e3) (f4:ZB Yo lim e4) {k:Nat} (hk:Zai 1 k):Yh.t k c0 c1 c2 c3 c4 e0 e1 e2 e3 e4=some (sameVB c0 c1 c2 c3 c4 e0 e1 e2 e3 e4)/\YR.t k c0 c1 c2 c3 c4 e0 e1 e2 e3 e4=some (sameVB c0 c1 c2 c3 c4 e0 e1 e2 e3 e4):=
 same_both 1099511627776 c0 c1 c2 c3 c4 e0 e1 e2 e3 e4 g3 g4.1 (value_h g4) f3 f4.1 (value_h f4) (Nat.le_trans (big_lv1 (n:=2*1099511627776+2) (by omega)) hk)
theorem Yd.f_of {β:Type} {k a0 aM aN aO aP aQ bJ bK bL bM bN bO bP bQ bR bT bU bV z0 z1} (h:Yd.t k a0 aM aN aO aP aQ bJ bK bL bM bN bO bP bQ bR bT bU bV=some (z0,z1)) (K:Int->Bool->Option β):Yd.f k a0 aM aN aO aP aQ bJ bK bL bM bN bO bP bQ bR bT bU bV K=K z0 z1:=by unfold Yd.f;rw[h];rfl
theorem halfF {x:Int} (h0:0<=x) (h1:x<4611686018427387904):Int.fdiv (IntKind.wrap .u64 (IntKind.wrap .i64 x)) (2^(min (1:Int).toNat 64))=x/2:=by
 rw[Z9 (by omega) (by omega)]
 have:IntKind.wrap .u64 x=x:=by simp only[IntKind.wrap,IntKind.signed,IntKind.bits];simp;omega
 rw[this,show(min (1:Int).toNat 64)=1 from rfl,Int.pow_one,Int.fdiv_eq_ediv_of_nonneg _ (by decide)]
def AscO (l:LD):Prop:=l.Pairwise λx y=>Yaj x y=true
set_option maxRecDepth 100000 in
set_option maxHeartbeats 4000000 in
theorem binObj_fv {l:LD} (g:ZB Ya lim l) (ha:AscO l) {x0:Int} {x1:BA} {x2 x3 x4:Int} {x5:Bool} {x6:LD} {x7:Int} {x8:BA} {x9:Int} {x10 x11:LD} {x12:Int} {x13:BA} {x14:Int} {x15 x16:LD} {o:List D} (h0:rI o 0=x0) (h1:rS o 1=x1) {k:Nat} (hk:Fuel k) {β:Type} (K:Int->Bool->Option β):
  Yd.f k l x0 x1 x2 x3 x4 x5 x6 x7 x8 x9 x10 x11 x12 x13 x14 x15 x16 K=K (lbF Yaj o l:Int) (hitF Yaj YaQ o l):=by
 have hlim:lim=1048576:=rfl
 have hb:big=2^64:=rfl
 have hl:=g.1
 have hle:lbF Yaj o l<=l.length:=(List.takeWhile_sublist _).length_le
 refine Yd.f_of ?_ K
 unfold Yd.t Yd.g
 refine iter_val (λv:Int×Int=>(v.2-v.1).toNat) (λv=>0<=v.1/\v.1<=(lbF Yaj o l:Int)/\(lbF Yaj o l:Int)<=v.2/\v.2<=(l.length:Int)) (λ_=>some ((lbF Yaj o l:Int),hitF Yaj YaQ o l)) ?_ k _ ⟨by simp,by simp,by simp;omega,by simp⟩ (by show((l.length:Int)-0).toNat<k;unfold Fuel at hk;omega)
 rintro⟨i,j⟩ ⟨i0,i1,j0,j1⟩ L hL
 simp only[] at i0 i1 j0 j1 hL
 simp only[Yd.l0,atR,rdQ,Q.ask]
 by_cases h:i<j
 ·obtain⟨m,hm⟩:∃ m:Nat,(i+j)/2=(m:Int):=⟨((i+j)/2).toNat,by omega⟩
  have hml:m<l.length:=by omega
  obtain⟨c,hc1,-,hc3⟩:=cmpObjs2 (x0:=gI l (m:Int) 0) (x1:=gS l (m:Int) 1) (x2:=gI l (m:Int) 2) (x3:=gI l (m:Int) 3) (x4:=gI l (m:Int) 4) (x5:=gB l (m:Int) 5) (x6:=gL l (m:Int) 6) (x7:=gI l (m:Int) 7) (x8:=gS l (m:Int) 8) (x9:=gI l (m:Int) 9) (x10:=gL l (m:Int) 10) (x11:=gL l (m:Int) 11) (x12:=gI l (m:Int) 12) (x13:=gS l (m:Int) 13) (x14:=gI l (m:Int) 14) (x15:=gL l (m:Int) 15) (x16:=gL l (m:Int) 16) (y0:=x0) (y1:=x1) (y2:=x2) (y3:=x3) (y4:=x4) (y5:=x5) (y6:=x6) (y7:=x7) (y8:=x8) (y9:=x9) (y10:=x10) (y11:=x11) (y12:=x12) (y13:=x13) (y14:=x14) (y15:=x15) (y16:=x16) (k:=k)
  have hless:Yaj l[m] o=decide (c<0):=by rw[less_gR hml,h0,h1,hc1]
  rw[ZY h]
  simp only[cond_true]
  rw[halfF (by omega) (by omega),hm,Z9 (x:=(m:Int)) (by omega) (by omega),ZH (by decide),Ya.row g (by omega) (by omega)]
  simp only[Z4,Z5,ZaQ,ZaV,Zbl,Zan,hc3]
  by_cases hq:c<0
  ·rw[ZY hq] at hless
   have:m<lbF Yaj o l:=by
    rcases Nat.lt_or_ge m (lbF Yaj o l) with z|z
    ·exact z
    ·rw[lbF_above Ya0 ha hml z] at hless;cases hless
   rw[ZY hq,cond_true,Z9 (by omega) (by omega)]
   exact hL _ ⟨by show 0<=(m:Int)+1;omega,by show(m:Int)+1<=_;omega,j0,j1⟩ (by simp only[];omega)
  ·rw[ZZ hq] at hless
   have:lbF Yaj o l<=m:=by
    rcases Nat.lt_or_ge m (lbF Yaj o l) with z|z
    ·rw[lbF_below hml z] at hless;cases hless
    ·exact z
   rw[ZZ hq,cond_false]
   exact hL _ ⟨i0,i1,by show _<=(m:Int);omega,by show(m:Int)<=_;omega⟩ (by simp only[];omega)
 ·rw[ZZ h]
  simp only[cond_false]
  obtain rfl:i=(lbF Yaj o l:Int):=by omega
  unfold hitF
  by_cases hlt:lbF Yaj o l<l.length
  ·obtain⟨c,-,hc2,hc3⟩:=cmpObjs2 (x0:=gI l (lbF Yaj o l:Int) 0) (x1:=gS l (lbF Yaj o l:Int) 1) (x2:=gI l (lbF Yaj o l:Int) 2) (x3:=gI l (lbF Yaj o l:Int) 3) (x4:=gI l (lbF Yaj o l:Int) 4) (x5:=gB l (lbF Yaj o l:Int) 5) (x6:=gL l (lbF Yaj o l:Int) 6) (x7:=gI l (lbF Yaj o l:Int) 7) (x8:=gS l (lbF Yaj o l:Int) 8) (x9:=gI l (lbF Yaj o l:Int) 9) (x10:=gL l (lbF Yaj o l:Int) 10) (x11:=gL l (lbF Yaj o l:Int) 11) (x12:=gI l (lbF Yaj o l:Int) 12) (x13:=gS l (lbF Yaj o l:Int) 13) (x14:=gI l (lbF Yaj o l:Int) 14) (x15:=gL l (lbF Yaj o l:Int) 15) (x16:=gL l (lbF Yaj o l:Int) 16) (y0:=x0) (y1:=x1) (y2:=x2) (y3:=x3) (y4:=x4) (y5:=x5) (y6:=x6) (y7:=x7) (y8:=x8) (y9:=x9) (y10:=x10) (y11:=x11) (y12:=x12) (y13:=x13) (y14:=x14) (y15:=x15) (y16:=x16) (k:=k)
   rw[ZY (show(lbF Yaj o l:Int)<(l.length:Int) by omega),cond_true,Ya.row g (by omega) (by omega),List.getElem?_eq_getElem hlt]
   simp only[Z4,Z5,ZaQ,ZaV,Zbl,Zan,hc3]
   rw[same_gR hlt,h0,h1,hc2]
  ·rw[ZZ (show ¬ (lbF Yaj o l:Int)<(l.length:Int) by omega),cond_false,List.getElem?_eq_none (by omega)]
noncomputable def mirB (a:Int) (l:LD):Bool:=inB a 0 1000000&&objsB l 1000000 a
theorem asc_of {l:LD} (h:∀ (i:Nat) (hi:i+1<l.length),Yaj l[i] l[i+1]=true):AscO l:=by
 unfold AscO
 rw[List.pairwise_iff_getElem]
 intro i j hi hj hij
 obtain⟨d,rfl⟩:∃ d,j=i+1+d:=⟨j-(i+1),by omega⟩
 induction d with
 |zero=>exact h i hj
 |succ d ih=>exact Ya0.trans _ _ _ (ih (by omega) (by omega)) (h (i+1+d) (by omega))
theorem mirror_asc {a:Int} {l:LD} (g:ZB Ya lim l) (h:mirB a l=true):AscO l/\l.length<=60/\0<=a/\a<=1000000:=by
 unfold mirB at h
 rw[Bool.and_eq_true] at h
 obtain⟨h1,h2⟩:=h
 unfold inB at h1
 unfold objsB at h2
 rw[Bool.and_eq_true] at h1 h2
 obtain⟨h2,h3⟩:=h2
 refine⟨asc_of λi hi=>?_,by have:=of_decide_eq_true h3;omega,by simpa using h1.1,by simpa using h1.2⟩
 have hq:=List.all_eq_true.mp h2 (i+1) (by simpa using hi)
 unfold objsP at hq
 rw[Bool.and_eq_true,Bool.and_eq_true] at hq
 have hq:=hq.2.1
 rw[ZY (show((i+1:Nat):Int)>0 by omega),Bool.not_true,Bool.false_or,show((i+1:Nat):Int)-1=(i:Int) by omega] at hq
 rw[less_gR (by omega),<- gR_lt hi]
 exact hq
def rB (r:List D) (j:Nat):Bool:=dB (r.getD j (.bool false))
noncomputable def rO (r:List D):List D:=[.int .i64 (rI r 2),.str (rS r 3),.int .i64 (rI r 4),.int .i64 (rI r 5),.int .i64 (rI r 6),.bool (rB r 7),.sl (rL r 8),.int .i64 (rI r 9),.str (rS r 10),.int .i64 (rI r 11),.sl (rL r 12),.sl (rL r 13),.int .i64 (rI r 14),.str (rS r 15),.int .i64 (rI r 16),.sl (rL r 17),.sl (rL r 18)]
def dropO (l:LD) (i:Int):LD:=l.take i.toNat++l.drop (i.toNat+1)
noncomputable def stepF (rev:Int) (l:LD) (r:List D):Option (Int×LD):=
 bif rI r 0 !=IntKind.wrap .i64 (rev+1) then none else
 bif rB r 1 then(bif decide (YaP l (rI r 2) (rS r 3)<0) then none else bif gI l (YaP l (rI r 2) (rS r 3)) 2 !=rI r 4 then none else some (rI r 0,dropO l (YaP l (rI r 2) (rS r 3))))
 else some (rI r 0,YaR Yaj YaQ (rO r) (rO r) false l)
noncomputable def stepV (rev:Int) (l:LD) (r:List D):Option (Int×LD):=
 match stepF rev l r with
 |none=>none
 |some v=>bif mirB v.1 v.2 then some v else none
noncomputable def followL:Int->LD->LD->Option (Int×LD)
 |rev,l,[]=>some (rev,l)
 |rev,l,r::rs=>match stepV rev l r with|none=>none|some v=>followL v.1 v.2 rs
noncomputable def followV (a:Int) (l xs:LD):Int×LD×Bool:=
 bif mirB a l then(match followL a l xs with|some v=>(v.1,v.2,true)|none=>(a,l,false)) else(a,l,false)
theorem withF_mem {α:Type} {less same:α->α->Bool} {o o':α}:∀ {l:List α} {put:Bool} {x:α},x∈YaR less same o o' put l->x∈l\/x=o'
 |[],put,x,h=>by
  rw[withF_nil] at h
  cases put
  ·exact .inr (by simpa using h)
  ·cases h
 |y::ys,put,x,h=>by
  unfold YaR at h
  rw[List.mem_append,List.mem_append] at h
  rcases h with h|h|h
  ·split at h
   ·exact .inr (by simpa using h)
   ·cases h
  ·split at h
   ·cases h
   ·exact .inl (by rw[List.mem_singleton] at h;rw[h];exact List.mem_cons_self ..)
  ·rcases withF_mem h with h|h
   ·exact .inl (List.mem_cons_of_mem _ h)
   ·exact .inr h
theorem withF_len {α:Type} {less same:α->α->Bool} {o o':α}:∀ {l:List α} {put:Bool},(YaR less same o o' put l).length<=l.length+(bif put then 0 else 1)
 |[],put=>by rw[withF_nil];cases put<;>simp
 |y::ys,put=>by
  unfold YaR
  have ih:=withF_len (less:=less) (same:=same) (o:=o) (o':=o') (l:=ys) (put:=put||!less y o)
  rw[List.length_append,List.length_append,List.length_cons]
  generalize YaR less same o o' (put||!less y o) ys=w at *
  generalize less y o=b1 at *
  generalize same y o=b2 at *
  cases put<;>cases b1<;>cases b2<;>simp at ih⊢<;>omega
theorem rO_ok {B:Nat} {r:List D} (h:Yb B r):Ya B (rO r):=by
 obtain⟨c0,c1,c2,c3,c4,c5,c6,c7,c8,c9,c10,c11,c12,c13,c14,c15,c16,c17,c18,rfl,k0,k2,k3,k4,k5,k6,k8,k9,k10,k11,k12,k13,k14,k15,k16,k17,k18,_⟩:=h
 exact⟨c2,c3,c4,c5,c6,c7,c8,c9,c10,c11,c12,c13,c14,c15,c16,c17,c18,rfl,k2,k3,k4,k5,k6,k8,k9,k10,k11,k12,k13,k14,k15,k16,k17,k18,trivial⟩
theorem stepF_ok {rev:Int} {l:LD} {r:List D} {v:Int×LD} (g:ZB Ya lim l) (h60:l.length<=60) (hr:Yb lim r) (h:stepF rev l r=some v):ZB Ya lim v.2:=by
 have hlim:lim=1048576:=rfl
 unfold stepF at h
 cases hs:(rI r 0 !=IntKind.wrap .i64 (rev+1))<;>rw[hs] at h
 ·simp only[cond_false] at h
  cases hb:rB r 1<;>rw[hb] at h
  ·simp only[cond_false] at h
   injection h with h
   subst h
   have:=withF_len (less:=Yaj) (same:=YaQ) (o:=rO r) (o':=rO r) (l:=l) (put:=false)
   simp only[cond_false] at this
   refine⟨by show(YaR _ _ _ _ _ _).length<=_;omega,λx hx=>?_⟩
   rcases withF_mem hx with hx|hx
   ·exact g.2 x hx
   ·rw[hx];exact rO_ok hr
  ·simp only[cond_true] at h
   cases hf:decide (YaP l (rI r 2) (rS r 3)<0)<;>rw[hf] at h
   ·simp only[cond_false] at h
    cases hq:(gI l (YaP l (rI r 2) (rS r 3)) 2 !=rI r 4)<;>rw[hq] at h
    ·simp only[cond_false] at h
     injection h with h
     subst h
     unfold dropO
     refine⟨by rw[List.length_append,List.length_take,List.length_drop];omega,λx hx=>?_⟩
     rcases List.mem_append.mp hx with hx|hx
     ·exact g.2 x (List.mem_of_mem_take hx)
     ·exact g.2 x (List.mem_of_mem_drop hx)
    ·cases h
   ·cases h
 ·cases h
theorem wt_with {less same:List D->List D->Bool} {o o':List D}:∀ {l:LD} {put:Bool},Zu (YaR less same o o' put l)<=Zu l+(bif put then 0 else ZbY o')
 |[],put=>by rw[withF_nil];cases put<;>simp[Zu]
 |y::ys,put=>by
  unfold YaR
  have ih:=wt_with (less:=less) (same:=same) (o:=o) (o':=o') (l:=ys) (put:=put||!less y o)
  rw[Zbe,Zbe]
  generalize YaR less same o o' (put||!less y o) ys=w at *
  generalize less y o=b1 at *
  generalize same y o=b2 at *
  cases put<;>cases b1<;>cases b2<;>simp[Zu] at ih⊢<;>omega
theorem wt_cut:∀ {l:LD} {n:Nat},Zu (l.take n)+Zu (l.drop (n+1))<=Zu l
 |[],n=>by simp[Zu]
 |r::xs,0=>by simp only[List.take_zero,List.drop_succ_cons,List.drop_zero,Zu];omega
 |r::xs,n+1=>by
  have:=wt_cut (l:=xs) (n:=n)
  simp only[List.take_succ_cons,List.drop_succ_cons,Zu];omega
theorem wt_rO {B:Nat} {r:List D} (h:Yb B r):ZbY (rO r)<=ZbY r:=by
 obtain⟨c0,c1,c2,c3,c4,c5,c6,c7,c8,c9,c10,c11,c12,c13,c14,c15,c16,c17,c18,rfl,-⟩:=h
 show ZbY [.int .i64 c2,.str c3,.int .i64 c4,.int .i64 c5,.int .i64 c6,.bool c7,.sl c8,.int .i64 c9,.str c10,.int .i64 c11,.sl c12,.sl c13,.int .i64 c14,.str c15,.int .i64 c16,.sl c17,.sl c18]<=ZbY (.int .i64 c0::.bool c1::[.int .i64 c2,.str c3,.int .i64 c4,.int .i64 c5,.int .i64 c6,.bool c7,.sl c8,.int .i64 c9,.str c10,.int .i64 c11,.sl c12,.sl c13,.int .i64 c14,.str c15,.int .i64 c16,.sl c17,.sl c18])
 generalize([.int .i64 c2,.str c3,.int .i64 c4,.int .i64 c5,.int .i64 c6,.bool c7,.sl c8,.int .i64 c9,.str c10,.int .i64 c11,.sl c12,.sl c13,.int .i64 c14,.str c15,.int .i64 c16,.sl c17,.sl c18]:List D)=q
 simp only[ZbY]
 omega
theorem stepF_wt {rev:Int} {l:LD} {r:List D} {v:Int×LD} (hr:Yb lim r) (h:stepF rev l r=some v):Zu v.2<=Zu l+ZbY r:=by
 unfold stepF at h
 cases hs:(rI r 0 !=IntKind.wrap .i64 (rev+1))<;>rw[hs] at h
 ·simp only[cond_false] at h
  cases hb:rB r 1<;>rw[hb] at h
  ·simp only[cond_false] at h
   injection h with h
   subst h
   have:=wt_with (less:=Yaj) (same:=YaQ) (o:=rO r) (o':=rO r) (l:=l) (put:=false)
   have:=wt_rO hr
   simp only[cond_false] at *
   omega
  ·simp only[cond_true] at h
   cases hf:decide (YaP l (rI r 2) (rS r 3)<0)<;>rw[hf] at h
   ·simp only[cond_false] at h
    cases hq:(gI l (YaP l (rI r 2) (rS r 3)) 2 !=rI r 4)<;>rw[hq] at h
    ·simp only[cond_false] at h
     injection h with h
     subst h
     unfold dropO
     have:=wt_cut (l:=l) (n:=(YaP l (rI r 2) (rS r 3)).toNat)
     rw[Zbe]
     omega
    ·cases h
   ·cases h
 ·cases h
theorem followL_ok:∀ {xs:LD} {rev:Int} {l:LD} {v:Int×LD},ZB Ya lim l->l.length<=60->(∀ r∈xs,Yb lim r)->followL rev l xs=some v->ZB Ya lim v.2/\Zu v.2<=Zu l+Zu xs
 |[],rev,l,v,g,_,_,h=>by
  unfold followL at h
  injection h with h
  subst h
  exact⟨g,by simp[Zu]⟩
 |r::xs,rev,l,v,g,h60,gx,h=>by
  unfold followL stepV at h
  cases hs:stepF rev l r with
  |none=>rw[hs] at h;cases h
  |some u=>
   have g2:=stepF_ok g h60 (gx r (List.mem_cons_self ..)) hs
   have w2:=stepF_wt (gx r (List.mem_cons_self ..)) hs
   rw[hs] at h
   simp only[] at h
   cases hm:mirB u.1 u.2<;>rw[hm] at h
   ·cases h
   ·obtain⟨-,l2,-,-⟩:=mirror_asc g2 hm
    obtain⟨q1,q2⟩:=followL_ok g2 l2 (λr hr=>gx r (List.mem_cons_of_mem _ hr)) h
    exact⟨q1,by simp only[Zu];omega⟩
abbrev Robj:Nat->List D->Prop:=Ya
abbrev Rlog:Nat->List D->Prop:=Yb
noncomputable def rowB (r:List D) (Z8 rev:Int) (gone:Bool):Bool:=objV (rI r 0) (rS r 1) (rI r 2) (rI r 3) (rI r 4) (rB r 5) (rL r 6) (rI r 7) (rS r 8) (rI r 9) (rL r 10) (rL r 11) (rI r 12) (rS r 13) (rI r 14) (rL r 15) (rL r 16) Z8 rev gone
noncomputable def logB (r:List D) (Z8 rev:Int):Bool:=objV (rI r 2) (rS r 3) (rI r 4) (rI r 5) (rI r 6) (rB r 7) (rL r 8) (rI r 9) (rS r 10) (rI r 11) (rL r 12) (rL r 13) (rI r 14) (rS r 15) (rI r 16) (rL r 17) (rL r 18) Z8 rev (rB r 1)&&(rI r 5==rI r 0)
noncomputable def logP (L:LD) (Z8 rev:Int) (i:Nat):Bool:=logB (gR L (i:Int)) Z8 rev&&(!decide ((i:Int)>0)||!decide (gI L ((i:Int)-1) 0>=gI L (i:Int) 0))
noncomputable def baseB (O:LD) (rev next:Int) (L:LD):Bool:=inB rev 0 1000000&&(inB next 1 1000000&&(decide (L.length<=40)&&(objsB O (next-1) rev&&(List.range L.length).all (logP L (next-1) rev))))
set_option maxRecDepth 100000 in
set_option maxHeartbeats 2000000 in
theorem base_v {O L:LD} {rev next:Int} (wO:ZB Robj lim O) (wL:ZB Rlog lim L):Yv.v O rev next L=baseB O rev next L:=by
 have hk:Zai 1 (lv 1):=by unfold Zai lv;omega
 have hv:=Yv.tv (aB:=rev) (aD:=next) wO wL hk
 suffices h:Yv.t (lv 1) O rev next L=some (baseB O rev next L) by
  rw[hv] at h
  injection h
 have hk0:Fuel (lv 1):=up0 hk
 have hl:=wL.1
 have hlim:lim=1048576:=rfl
 have hb:big=2^64:=rfl
 generalize lv 1=k at hk hk0
 unfold Yv.t Yv.g Yv.m baseB
 rw[l1In_fv]
 cases h1:inB rev 0 1000000
 ·rfl
 simp only[Bool.not_true,cond_false,Bool.true_and]
 rw[l1In_fv]
 cases h2:inB next 1 1000000
 ·rfl
 simp only[Bool.not_true,cond_false,Bool.true_and]
 have hn:1<=next/\next<=1000000:=by
  unfold inB at h2
  rw[Bool.and_eq_true] at h2
  exact⟨of_decide_eq_true h2.1,of_decide_eq_true h2.2⟩
 have hw:IntKind.wrap .i64 (next-1)=next-1:=Z9 (by omega) (by omega)
 by_cases h3:L.length<=40
 ·rw[ZZ (show ¬ (L.length:Int)>40 by omega),ZY h3]
  simp only[cond_false,Bool.true_and]
  rw[l7Objs_fv wO hk,hw]
  cases objsB O (next-1) rev
  ·rfl
  simp only[Bool.not_true,cond_false,Bool.true_and]
  rw[iter_all0 (n:=L.length) (logP L (next-1) rev) (r1:=some false) (r2:=some true) (by unfold Fuel at hk0;omega)]
  ·cases(List.range L.length).all (logP L (next-1) rev)<;>rfl
  ·intro F i hi
   obtain⟨-,-,-,k1,-,-,-,k6,-,k8,-,k10,k11,-,k13,-,k15,k16,-⟩:=Yb.get wL (v:=(i:Int)) (by omega) (by omega)
   have e3:∀ {G:Bool->Option Bool},Yas.f k (gI L (i:Int) 2) (gS L (i:Int) 3) (gI L (i:Int) 4) (gI L (i:Int) 5) (gI L (i:Int) 6) (gB L (i:Int) 7) (gL L (i:Int) 8) (gI L (i:Int) 9) (gS L (i:Int) 10) (gI L (i:Int) 11) (gL L (i:Int) 12) (gL L (i:Int) 13) (gI L (i:Int) 14) (gS L (i:Int) 15) (gI L (i:Int) 16) (gL L (i:Int) 17) (gL L (i:Int) 18) rev next (gB L (i:Int) 1) G=G (objV (gI L (i:Int) 2) (gS L (i:Int) 3) (gI L (i:Int) 4) (gI L (i:Int) 5) (gI L (i:Int) 6) (gB L (i:Int) 7) (gL L (i:Int) 8) (gI L (i:Int) 9) (gS L (i:Int) 10) (gI L (i:Int) 11) (gL L (i:Int) 12) (gL L (i:Int) 13) (gI L (i:Int) 14) (gS L (i:Int) 15) (gI L (i:Int) 16) (gL L (i:Int) 17) (gL L (i:Int) 18) (next-1) rev (gB L (i:Int) 1)):=λ{G}=>by
    have:=l7Obj_fv (x0:=gI L (i:Int) 2) (x2:=gI L (i:Int) 4) (x3:=gI L (i:Int) 5) (x4:=gI L (i:Int) 6) (x5:=gB L (i:Int) 7) (x7:=gI L (i:Int) 9) (x9:=gI L (i:Int) 11) (x12:=gI L (i:Int) 14) (x14:=gI L (i:Int) 16) (rev:=rev) (next:=next) (gone:=gB L (i:Int) 1) k1 k6 k8 k10 k11 k13 k15 k16 hk G
    rw[hw] at this
    exact this
   have e4:logB (gR L (i:Int)) (next-1) rev=(objV (gI L (i:Int) 2) (gS L (i:Int) 3) (gI L (i:Int) 4) (gI L (i:Int) 5) (gI L (i:Int) 6) (gB L (i:Int) 7) (gL L (i:Int) 8) (gI L (i:Int) 9) (gS L (i:Int) 10) (gI L (i:Int) 11) (gL L (i:Int) 12) (gL L (i:Int) 13) (gI L (i:Int) 14) (gS L (i:Int) 15) (gI L (i:Int) 16) (gL L (i:Int) 17) (gL L (i:Int) 18) (next-1) rev (gB L (i:Int) 1)&&(gI L (i:Int) 5==gI L (i:Int) 0)):=rfl
   unfold logP
   rw[e4]
   simp(disch:=omega) only[Yv.l0,atR,rdQ,Q.ask,ZY (show(i:Int)<L.length by omega),cond_true,Yb.row wL,Z4,Z5,ZaQ,ZaV,Zbl,Zan,e3]
   generalize objV _ _ _ _ _ _ _ _ _ _ _ _ _ _ _ _ _ _ _ _=b
   cases b
   ·rfl
   cases hq:(gI L (i:Int) 5==gI L (i:Int) 0)
   ·simp only[bne,hq,Bool.not_false,Bool.not_true,cond_true,cond_false,Bool.true_and,Bool.false_and]
   simp only[bne,hq,Bool.not_false,Bool.not_true,cond_true,cond_false,Bool.true_and]
   by_cases h0:(i:Int)>0
   ·simp(disch:=omega) only[ZY h0,cond_true,Z9,Yb.row wL,Z4,Z5,ZaQ,ZaV,Zbl,Zan,Bool.not_true,Bool.false_or]
    cases decide (gI L ((i:Int)-1) 0>=gI L (i:Int) 0)<;>rfl
   ·simp(disch:=omega) only[ZZ h0,cond_false,Z9,Bool.not_false,Bool.true_or,cond_true]
  ·intro F
   simp[Yv.l0,atR,rdQ,Q.ask]
 ·rw[ZY (show(L.length:Int)>40 by omega),ZZ h3]
  rfl
structure OkO (O:LD) (rev Z8:Int):Prop where
 row:∀ r∈O,rowB r Z8 rev false=true
 asc:AscO O
 uid:O.Pairwise λx y=>rI x 2≠rI y 2
 len:O.length<=60
theorem objs_iff {O:LD} {rev Z8:Int}:objsB O Z8 rev=true↔OkO O rev Z8:=by
 unfold objsB
 rw[Bool.and_eq_true,List.all_eq_true,decide_eq_true_iff]
 have hrow:∀ (i:Nat) (hi:i<O.length),objR O (i:Int) Z8 rev=rowB O[i] Z8 rev false:=λi hi=>by
  rw[<- gR_lt hi]
  rfl
 have hgi:∀ (i:Nat) (hi:i<O.length),gI O (i:Int) 2=rI O[i] 2:=λi hi=>by
  rw[<- gR_lt hi]
  rfl
 constructor
 ·rintro⟨h,hl⟩
  have h:∀ (i:Nat) (_:i<O.length),objR O (i:Int) Z8 rev=true/\((!decide ((i:Int)>0)||lessV (gI O ((i:Int)-1) 0) (gS O ((i:Int)-1) 1) (gI O (i:Int) 0) (gS O (i:Int) 1))=true/\((List.range i).all λj=>!(gI O (j:Int) 2==gI O (i:Int) 2))=true):=λi hi=>by
   have:=h i (List.mem_range.mpr hi)
   unfold objsP at this
   rw[Bool.and_eq_true,Bool.and_eq_true] at this
   exact this
  refine⟨λr hr=>?_,asc_of λi hi=>?_,List.pairwise_iff_getElem.mpr λi j hi hj hij=>?_,by omega⟩
  ·obtain⟨i,hi,rfl⟩:=List.mem_iff_getElem.mp hr
   rw[<- hrow i hi]
   exact(h i hi).1
  ·have hq:=(h (i+1) hi).2.1
   rw[ZY (show((i+1:Nat):Int)>0 by omega),Bool.not_true,Bool.false_or,show((i+1:Nat):Int)-1=(i:Int) by omega] at hq
   rw[less_gR (by omega),<- gR_lt hi]
   exact hq
  ·have hq:=List.all_eq_true.mp (h j hj).2.2 i (List.mem_range.mpr hij)
   rw[hgi i hi,hgi j hj] at hq
   simpa using hq
 ·intro h
  refine⟨λi hi=>?_,by have:=h.len;omega⟩
  have hi:=List.mem_range.mp hi
  unfold objsP
  rw[Bool.and_eq_true,Bool.and_eq_true]
  refine⟨by rw[hrow i hi];exact h.row _ (List.getElem_mem _),?_,List.all_eq_true.mpr λj hj=>?_⟩
  ·by_cases h0:(i:Int)>0
   ·rw[ZY h0,Bool.not_true,Bool.false_or,show(i:Int)-1=((i-1:Nat):Int) by omega]
    have:=List.pairwise_iff_getElem.mp h.asc (i-1) i (by omega) hi (by omega)
    rw[less_gR (by omega),<- gR_lt hi] at this
    exact this
   ·rw[ZZ h0]
    rfl
  ·have hj:=List.mem_range.mp hj
   rw[hgi i hi,hgi j (by omega)]
   have:=List.pairwise_iff_getElem.mp h.uid j i (by omega) hi hj
   simpa using this
structure OkB (O:LD) (rev next:Int) (L:LD):Prop where
 r0:0<=rev
 r1:rev<=1000000
 n0:1<=next
 n1:next<=1000000
 ob:OkO O rev (next-1)
 lr:∀ r∈L,logB r (next-1) rev=true
 la:L.Pairwise λx y=>rI x 0<rI y 0
 ll:L.length<=40
theorem inB_iff {a b c:Int}:inB a b c=true↔b<=a/\a<=c:=by
 unfold inB
 rw[Bool.and_eq_true,decide_eq_true_iff,decide_eq_true_iff]
theorem base_iff {O L:LD} {rev next:Int}:baseB O rev next L=true↔OkB O rev next L:=by
 unfold baseB
 rw[Bool.and_eq_true,Bool.and_eq_true,Bool.and_eq_true,Bool.and_eq_true,inB_iff,inB_iff,decide_eq_true_iff,objs_iff,List.all_eq_true]
 have hgi:∀ (i:Nat) (hi:i<L.length),gI L (i:Int) 0=rI L[i] 0:=λi hi=>by
  rw[<- gR_lt hi]
  rfl
 constructor
 ·rintro⟨⟨a,b⟩,⟨c,d⟩,e,f,h⟩
  have h:∀ (i:Nat) (_:i<L.length),logB (gR L (i:Int)) (next-1) rev=true/\(!decide ((i:Int)>0)||!decide (gI L ((i:Int)-1) 0>=gI L (i:Int) 0))=true:=λi hi=>by
   have:=h i (List.mem_range.mpr hi)
   unfold logP at this
   rw[Bool.and_eq_true] at this
   exact this
  refine⟨a,b,c,d,f,λr hr=>?_,?_,e⟩
  ·obtain⟨i,hi,rfl⟩:=List.mem_iff_getElem.mp hr
   rw[<- gR_lt hi]
   exact(h i hi).1
  ·have step:∀ (i:Nat) (hi:i+1<L.length),rI L[i] 0<rI L[i+1] 0:=λi hi=>by
    have hq:=(h (i+1) hi).2
    rw[ZY (show((i+1:Nat):Int)>0 by omega),Bool.not_true,Bool.false_or,show((i+1:Nat):Int)-1=(i:Int) by omega,hgi i (by omega),hgi (i+1) hi] at hq
    simpa using hq
   rw[List.pairwise_iff_getElem]
   intro i j hi hj hij
   obtain⟨d,rfl⟩:∃ d,j=i+1+d:=⟨j-(i+1),by omega⟩
   induction d with
   |zero=>exact step i hj
   |succ d ih=>exact Int.lt_trans (ih (by omega) (by omega)) (step (i+1+d) (by omega))
 ·intro h
  refine⟨⟨h.r0,h.r1⟩,⟨h.n0,h.n1⟩,h.ll,h.ob,λi hi=>?_⟩
  have hi:=List.mem_range.mp hi
  unfold logP
  rw[Bool.and_eq_true]
  refine⟨by rw[gR_lt hi];exact h.lr _ (List.getElem_mem _),?_⟩
  by_cases h0:(i:Int)>0
  ·have:=List.pairwise_iff_getElem.mp h.la (i-1) i (by omega) hi (by omega)
   rw[show(i:Int)-1=((i-1:Nat):Int) by omega,hgi i hi,hgi (i-1) (by omega),ZZ (show ¬ rI L[i-1] 0>=rI L[i] 0 by omega)]
   simp
  ·rw[ZZ h0]
   rfl
theorem objV_mono {x0:Int} {x1:BA} {x2 x3 x4:Int} {x5:Bool} {x6:LD} {x7:Int} {x8:BA} {x9:Int} {x10 x11:LD} {x12:Int} {x13:BA} {x14:Int} {x15 x16:LD} {Z8 rev most' rev':Int} {gone:Bool} (hm:Z8<=most') (hr:rev<=rev') (h:objV x0 x1 x2 x3 x4 x5 x6 x7 x8 x9 x10 x11 x12 x13 x14 x15 x16 Z8 rev gone=true):objV x0 x1 x2 x3 x4 x5 x6 x7 x8 x9 x10 x11 x12 x13 x14 x15 x16 most' rev' gone=true:=by
 unfold objV at h⊢
 simp only[Bool.and_eq_true,inB_iff] at h⊢
 obtain⟨a,b,⟨c1,c2⟩,⟨d1,d2⟩,e⟩:=h
 exact⟨a,b,⟨c1,by omega⟩,⟨d1,by omega⟩,e⟩
theorem rowB_mono {r:List D} {Z8 rev most' rev':Int} {gone:Bool} (hm:Z8<=most') (hr:rev<=rev') (h:rowB r Z8 rev gone=true):rowB r most' rev' gone=true:=objV_mono hm hr h
theorem logB_mono {r:List D} {Z8 rev most' rev':Int} (hm:Z8<=most') (hr:rev<=rev') (h:logB r Z8 rev=true):logB r most' rev'=true:=by
 unfold logB at h⊢
 rw[Bool.and_eq_true] at h⊢
 exact⟨objV_mono hm hr h.1,h.2⟩
theorem rowB_uid {r:List D} {Z8 rev:Int} {gone:Bool} (h:rowB r Z8 rev gone=true):1<=rI r 2/\rI r 2<=Z8/\1<=rI r 3/\rI r 3<=rev:=by
 unfold rowB objV at h
 simp only[Bool.and_eq_true,inB_iff] at h
 obtain⟨-,-,⟨c1,c2⟩,⟨d1,d2⟩,-⟩:=h
 exact⟨c1,c2,d1,d2⟩
theorem logB_rev {r:List D} {Z8 rev:Int} (h:logB r Z8 rev=true):1<=rI r 0/\rI r 0<=rev:=by
 unfold logB objV at h
 simp only[Bool.and_eq_true,inB_iff,beq_iff_eq] at h
 obtain⟨⟨-,-,-,⟨d1,d2⟩,-⟩,e⟩:=h
 exact⟨by omega,by omega⟩
theorem OkO.mono {O:LD} {rev Z8 rev' most':Int} (h:OkO O rev Z8) (hm:Z8<=most') (hr:rev<=rev'):OkO O rev' most':=⟨λr q=>rowB_mono hm hr (h.row r q),h.asc,h.uid,h.len⟩
theorem OkO.sub {O P:LD} {rev Z8:Int} (h:OkO O rev Z8) (hs:P.Sublist O):OkO P rev Z8:=⟨λr q=>h.row r (hs.subset q),h.asc.sublist hs,h.uid.sublist hs,Nat.le_trans hs.length_le h.len⟩
theorem drop_sub {O:LD} {i:Int}:(dropO O i).Sublist O:=by
 unfold dropO
 have:(O.take i.toNat++O.drop (i.toNat+1)).Sublist (O.take i.toNat++O.drop i.toNat):=(List.Sublist.refl _).append (by rw[<- List.drop_drop];exact List.drop_sublist _ _)
 rwa[List.take_append_drop] at this
theorem pair_mid {α:Type} {R:α->α->Prop} {A B:List α} {o:α} (h:(A++B).Pairwise R) (ha:∀ a∈A,R a o) (hb:∀ b∈B,R o b):(A++o::B).Pairwise R:=by
 rw[List.pairwise_append] at h⊢
 obtain⟨h1,h2,h3⟩:=h
 refine⟨h1,List.pairwise_cons.mpr ⟨hb,h2⟩,λa qa b qb=>?_⟩
 rcases List.mem_cons.mp qb with rfl|qb
 ·exact ha a qa
 ·exact h3 a qa b qb
theorem not_same_less {o x y:List D} (h1:Yaj x o=false) (h2:Yaj x y=true):YaQ y o=false:=by
 cases hs:YaQ y o with
 |false=>rfl
 |true=>
  have hs':=Ya0.sym _ _ hs
  have hi:=Ya0.irr _ _ hs'
  cases hx:YaQ x o with
  |true=>
   have:=Ya0.cong _ _ _ (Ya0.sym _ _ hx) h2
   rw[hi] at this;cases this
  |false=>
   have:=Ya0.trans _ _ _ (Ya0.tri _ _ h1 hx) h2
   rw[hi] at this;cases this
theorem find_same {O:LD} {o:List D} {i:Nat} (h:YaP O (rI o 0) (rS o 1)=(i:Int)) (hi:i<O.length):YaQ O[i] o=true:=by
 rw[same_gR hi]
 unfold YaP at h
 obtain⟨-,h2,h3,-⟩:=findI_some (p:=λi=>(gI O (i:Int) 0==rI o 0)&&Zae (gS O (i:Int) 1) (rS o 1)) (n:=O.length) (by omega)
 have e:(ZbV (λi=>(gI O (i:Int) 0==rI o 0)&&Zae (gS O (i:Int) 1) (rS o 1)) O.length).toNat=i:=by omega
 rw[e] at h2
 exact h2
theorem find_lb {O:LD} {o:List D} (ha:AscO O) {i:Nat} (hi:i<O.length) (hs:YaQ O[i] o=true):lbF Yaj o O=i:=by
 have h1:¬ i<lbF Yaj o O:=λq=>by
  have:=lbF_below hi q
  rw[Ya0.irr _ _ hs] at this;cases this
 by_cases h2:lbF Yaj o O<i
 ·have h3:Yaj O[lbF Yaj o O] o=false:=lbF_above Ya0 ha (by omega) (Nat.le_refl _)
  have:=not_same_less h3 (List.pairwise_iff_getElem.mp ha (lbF Yaj o O) i (by omega) hi h2)
  rw[hs] at this;cases this
 ·omega
theorem hit_of {O:LD} {o:List D} (ha:AscO O) {i:Nat} (hi:i<O.length) (hs:YaQ O[i] o=true):hitF Yaj YaQ o O=true:=by
 unfold hitF
 rw[find_lb ha hi hs,List.getElem?_eq_getElem hi]
 exact hs
theorem hit_none {O:LD} {o:List D} (h:YaP O (rI o 0) (rS o 1)<0):hitF Yaj YaQ o O=false:=by
 unfold hitF
 cases hl:O[lbF Yaj o O]? with
 |none=>rfl
 |some x=>
  obtain⟨hi,rfl⟩:=List.getElem?_eq_some_iff.mp hl
  show YaQ O[lbF Yaj o O] o=false
  rw[same_gR hi]
  unfold YaP at h
  exact(findI_none h).2 _ hi
theorem OkO.with {O:LD} {rev Z8 most':Int} {o:List D} (h:OkO O rev Z8) (hr:rowB o most' (rev+1) false=true) (hm:Z8<=most') (H:(∃ i:Nat,YaP O (rI o 0) (rS o 1)=(i:Int)/\∃ hi:i<O.length,rI O[i] 2=rI o 2)\/(YaP O (rI o 0) (rS o 1)<0/\O.length<60/\Z8<rI o 2)):OkO (YaR Yaj YaQ o o false O) (rev+1) most':=by
 have hrow:∀ r∈YaR Yaj YaQ o o false O,rowB r most' (rev+1) false=true:=λr q=>by
  rcases withF_mem q with q|rfl
  ·exact rowB_mono hm (by omega) (h.row r q)
  ·exact hr
 rw[withF_eq Ya0 h.asc] at hrow⊢
 generalize hd:(if hitF Yaj YaQ o O=true then 1 else 0)=d at hrow⊢
 have hsub:(O.take (lbF Yaj o O)++O.drop (lbF Yaj o O+d)).Sublist O:=by
  have:(O.take (lbF Yaj o O)++O.drop (lbF Yaj o O+d)).Sublist (O.take (lbF Yaj o O)++O.drop (lbF Yaj o O)):=(List.Sublist.refl _).append (by rw[<- List.drop_drop];exact List.drop_sublist _ _)
  rwa[List.take_append_drop] at this
 have below:∀ a∈O.take (lbF Yaj o O),∃ (i:Nat) (hi:i<O.length),i<lbF Yaj o O/\a=O[i]:=λa q=>by
  obtain⟨i,hi,rfl⟩:=List.mem_iff_getElem.mp q
  rw[List.length_take] at hi
  exact⟨i,by omega,by omega,by rw[List.getElem_take]⟩
 have above:∀ b∈O.drop (lbF Yaj o O+d),∃ (i:Nat) (hi:i<O.length),lbF Yaj o O+d<=i/\b=O[i]:=λb q=>by
  obtain⟨i,hi,rfl⟩:=List.mem_iff_getElem.mp q
  rw[List.length_drop] at hi
  exact⟨lbF Yaj o O+d+i,by omega,by omega,by rw[List.getElem_drop]⟩
 have uids:∀ (i:Nat) (hi:i<O.length),(i<lbF Yaj o O\/lbF Yaj o O+d<=i)->rI O[i] 2≠rI o 2:=by
  intro i hi hc
  rcases H with⟨j,hf,hj,hu⟩|⟨hf,-,hu⟩
  ·have hs:=find_same hf hj
   rw[hit_of h.asc hj hs,if_pos rfl] at hd
   have hlb:=find_lb h.asc hj hs
   rw[<- hu]
   by_cases hij:i<j
   ·exact List.pairwise_iff_getElem.mp h.uid i j hi hj hij
   ·exact(List.pairwise_iff_getElem.mp h.uid j i hj hi (by omega)).symm
  ·have:=(rowB_uid (h.row O[i] (List.getElem_mem _))).2.1
   omega
 refine⟨hrow,pair_mid (h.asc.sublist hsub) (λa q=>?_) (λb q=>?_),pair_mid (h.uid.sublist hsub) (λa q=>?_) (λb q=>?_),?_⟩
 ·obtain⟨i,hi,h1,rfl⟩:=below a q
  exact lbF_below hi h1
 ·obtain⟨i,hi,h1,rfl⟩:=above b q
  have hab:Yaj O[i] o=false:=lbF_above Ya0 h.asc hi (by omega)
  refine Ya0.tri _ _ hab ?_
  by_cases he:lbF Yaj o O<i
  ·exact not_same_less (x:=O[lbF Yaj o O]) (lbF_above Ya0 h.asc (by omega) (Nat.le_refl _)) (List.pairwise_iff_getElem.mp h.asc _ i (by omega) hi he)
  ·have he:lbF Yaj o O=i:=by omega
   have h0:¬ hitF Yaj YaQ o O=true:=λq=>by rw[if_pos q] at hd;omega
   unfold hitF at h0
   rw[he,List.getElem?_eq_getElem hi] at h0
   simpa using h0
 ·obtain⟨i,hi,h1,rfl⟩:=below a q
  exact uids i hi (.inl h1)
 ·obtain⟨i,hi,h1,rfl⟩:=above b q
  exact(uids i hi (.inr h1)).symm
 ·have hl:=h.len
  simp only[List.length_append,List.length_cons,List.length_take,List.length_drop]
  rcases H with⟨j,hf,hj,hu⟩|⟨hf,h60,hu⟩
  ·have hs:=find_same hf hj
   have hlb:=find_lb h.asc hj hs
   rw[hit_of h.asc hj hs,if_pos rfl] at hd
   omega
  ·omega
def chgO (rev:Int) (o:List D) (gone:Bool):List D:=.int .i64 rev::.bool gone::o
def ZbS (M:LD):LD:=bif decide ((M.length:Int)>40) then M.drop 1 else M
theorem keep_sub {M:LD}:(ZbS M).Sublist M:=by
 unfold ZbS
 cases decide ((M.length:Int)>40)
 ·exact List.Sublist.refl _
 ·exact List.drop_sublist _ _
theorem keep_len {M:LD} (h:M.length<=41):(ZbS M).length<=40:=by
 unfold ZbS
 by_cases hq:(M.length:Int)>40
 ·rw[ZY hq]
  simp only[cond_true,List.length_drop]
  omega
 ·rw[ZZ hq]
  simp only[cond_false]
  omega
theorem OkB.put {O L O':LD} {rev next next':Int} {o:List D} {gone:Bool} (h:OkB O rev next L) (hrev:rev<1000000) (hn:next<=next') (hn':next'<=1000000) (h3:rI o 3=rev+1) (hr:rowB o (next'-1) (rev+1) gone=true) (hO:OkO O' (rev+1) (next'-1)):OkB O' (rev+1) next' (ZbS (L++[chgO (rev+1) o gone])):=by
 have h0:=h.r0;have h1:=h.n0
 refine⟨by omega,by omega,by omega,hn',hO,λr q=>?_,List.Pairwise.sublist keep_sub ?_,keep_len (by rw[List.length_append,List.length_singleton];have:=h.ll;omega)⟩
 ·rcases List.mem_append.mp (keep_sub.subset q) with q|q
  ·exact logB_mono (by omega) (by omega) (h.lr r q)
  ·rw[List.mem_singleton] at q
   subst q
   have e:logB (chgO (rev+1) o gone) (next'-1) (rev+1)=(rowB o (next'-1) (rev+1) gone&&(rI o 3==rev+1)):=rfl
   rw[e,hr,h3]
   simp
 ·rw[List.pairwise_append]
  refine⟨h.la,List.pairwise_singleton _ _,λa qa b qb=>?_⟩
  rw[List.mem_singleton] at qb
  subst qb
  have:=(logB_rev (h.lr a qa)).2
  show rI a 0<rev+1
  omega
theorem step_withO {O:LD} {rev c0:Int} {c1:BA} {c2 c3 c4:Int} {c5:Bool} {c6:LD} {c7:Int} {c8:BA} {c9:Int} {c10 c11:LD} {c12:Int} {c13:BA} {c14:Int} {c15 c16:LD} (h0:0<=rev) (h1:rev<=1000000):stepF rev O (chgO (rev+1) [.int .i64 c0,.str c1,.int .i64 c2,.int .i64 c3,.int .i64 c4,.bool c5,.sl c6,.int .i64 c7,.str c8,.int .i64 c9,.sl c10,.sl c11,.int .i64 c12,.str c13,.int .i64 c14,.sl c15,.sl c16] false)=some (rev+1,YaR Yaj YaQ [.int .i64 c0,.str c1,.int .i64 c2,.int .i64 c3,.int .i64 c4,.bool c5,.sl c6,.int .i64 c7,.str c8,.int .i64 c9,.sl c10,.sl c11,.int .i64 c12,.str c13,.int .i64 c14,.sl c15,.sl c16] [.int .i64 c0,.str c1,.int .i64 c2,.int .i64 c3,.int .i64 c4,.bool c5,.sl c6,.int .i64 c7,.str c8,.int .i64 c9,.sl c10,.sl c11,.int .i64 c12,.str c13,.int .i64 c14,.sl c15,.sl c16] false O):=by
 have hw:IntKind.wrap .i64 (rev+1)=rev+1:=Z9 (by omega) (by omega)
 unfold stepF
 rw[hw,show rI (chgO (rev+1) [.int .i64 c0,.str c1,.int .i64 c2,.int .i64 c3,.int .i64 c4,.bool c5,.sl c6,.int .i64 c7,.str c8,.int .i64 c9,.sl c10,.sl c11,.int .i64 c12,.str c13,.int .i64 c14,.sl c15,.sl c16] false) 0=rev+1 from rfl,show rB (chgO (rev+1) [.int .i64 c0,.str c1,.int .i64 c2,.int .i64 c3,.int .i64 c4,.bool c5,.sl c6,.int .i64 c7,.str c8,.int .i64 c9,.sl c10,.sl c11,.int .i64 c12,.str c13,.int .i64 c14,.sl c15,.sl c16] false) 1=false from rfl,show rO (chgO (rev+1) [.int .i64 c0,.str c1,.int .i64 c2,.int .i64 c3,.int .i64 c4,.bool c5,.sl c6,.int .i64 c7,.str c8,.int .i64 c9,.sl c10,.sl c11,.int .i64 c12,.str c13,.int .i64 c14,.sl c15,.sl c16] false)=[.int .i64 c0,.str c1,.int .i64 c2,.int .i64 c3,.int .i64 c4,.bool c5,.sl c6,.int .i64 c7,.str c8,.int .i64 c9,.sl c10,.sl c11,.int .i64 c12,.str c13,.int .i64 c14,.sl c15,.sl c16] from rfl]
 simp only[bne_self_eq_false,cond_false]
theorem step_dropO {O:LD} {rev c0:Int} {c1:BA} {c2 c3 c4:Int} {c5:Bool} {c6:LD} {c7:Int} {c8:BA} {c9:Int} {c10 c11:LD} {c12:Int} {c13:BA} {c14:Int} {c15 c16:LD} (h0:0<=rev) (h1:rev<=1000000) (hf:¬ YaP O c0 c1<0) (hu:gI O (YaP O c0 c1) 2=c2):stepF rev O (chgO (rev+1) [.int .i64 c0,.str c1,.int .i64 c2,.int .i64 c3,.int .i64 c4,.bool c5,.sl c6,.int .i64 c7,.str c8,.int .i64 c9,.sl c10,.sl c11,.int .i64 c12,.str c13,.int .i64 c14,.sl c15,.sl c16] true)=some (rev+1,dropO O (YaP O c0 c1)):=by
 have hw:IntKind.wrap .i64 (rev+1)=rev+1:=Z9 (by omega) (by omega)
 unfold stepF
 rw[hw,show rI (chgO (rev+1) [.int .i64 c0,.str c1,.int .i64 c2,.int .i64 c3,.int .i64 c4,.bool c5,.sl c6,.int .i64 c7,.str c8,.int .i64 c9,.sl c10,.sl c11,.int .i64 c12,.str c13,.int .i64 c14,.sl c15,.sl c16] true) 0=rev+1 from rfl,show rB (chgO (rev+1) [.int .i64 c0,.str c1,.int .i64 c2,.int .i64 c3,.int .i64 c4,.bool c5,.sl c6,.int .i64 c7,.str c8,.int .i64 c9,.sl c10,.sl c11,.int .i64 c12,.str c13,.int .i64 c14,.sl c15,.sl c16] true) 1=true from rfl,show rI (chgO (rev+1) [.int .i64 c0,.str c1,.int .i64 c2,.int .i64 c3,.int .i64 c4,.bool c5,.sl c6,.int .i64 c7,.str c8,.int .i64 c9,.sl c10,.sl c11,.int .i64 c12,.str c13,.int .i64 c14,.sl c15,.sl c16] true) 2=c0 from rfl,show rS (chgO (rev+1) [.int .i64 c0,.str c1,.int .i64 c2,.int .i64 c3,.int .i64 c4,.bool c5,.sl c6,.int .i64 c7,.str c8,.int .i64 c9,.sl c10,.sl c11,.int .i64 c12,.str c13,.int .i64 c14,.sl c15,.sl c16] true) 3=c1 from rfl,show rI (chgO (rev+1) [.int .i64 c0,.str c1,.int .i64 c2,.int .i64 c3,.int .i64 c4,.bool c5,.sl c6,.int .i64 c7,.str c8,.int .i64 c9,.sl c10,.sl c11,.int .i64 c12,.str c13,.int .i64 c14,.sl c15,.sl c16] true) 4=c2 from rfl,hu,ZZ hf]
 simp only[bne_self_eq_false,cond_false,cond_true]
theorem OkO.mir {O:LD} {rev Z8:Int} (h:OkO O rev Z8) (h0:0<=rev) (h1:rev<=1000000) (hm:Z8<=1000000):mirB rev O=true:=by
 unfold mirB
 rw[Bool.and_eq_true,inB_iff,objs_iff]
 exact⟨⟨h0,h1⟩,h.mono hm (Int.le_refl _)⟩
theorem asked_ok {O L:LD} {rev next kind:Int} {name:BA} {fine:Bool} (wO:ZB Robj lim O) (wL:ZB Rlog lim L) (hs:name.size<=lim) (h:YU.v O rev next L kind name fine=0):OkB O rev next L/\inB kind 1 3=true/\Yp.v name=true/\fine=true/\rev<1000000/\next<1000000:=by
 have hk:Zai 1 (lv 1):=by unfold Zai lv;omega
 have hv:=YU.tv (aB:=rev) (aD:=next) (a1:=kind) (a3:=fine) wO wL hs hk
 rw[h] at hv
 unfold YU.t YU.g at hv
 rw[Yv.fv wO wL hk,base_v wO wL] at hv
 cases hb:baseB O rev next L<;>rw[hb] at hv
 ·injection hv with hv;cases hv
 simp only[Bool.not_true,cond_false] at hv
 rw[l1In_fv] at hv
 cases h1:inB kind 1 3<;>rw[h1] at hv
 ·injection hv with hv;cases hv
 simp only[Bool.not_true,cond_false] at hv
 rw[Yp.fv hs (up0 hk)] at hv
 cases h2:Yp.v name<;>rw[h2] at hv
 ·injection hv with hv;cases hv
 simp only[Bool.not_true,cond_false] at hv
 cases fine
 ·injection hv with hv;cases hv
 simp only[Bool.not_true,cond_false] at hv
 have hB:=base_iff.mp hb
 cases h3:(rev==1000000)<;>rw[h3] at hv
 ·simp only[cond_false] at hv
  cases h4:(next==1000000)<;>rw[h4] at hv
  ·have h3:=beq_eq_false_iff_ne.mp h3
   have h4:=beq_eq_false_iff_ne.mp h4
   have:=hB.r1;have:=hB.n1
   exact⟨hB,rfl,rfl,rfl,by omega,by omega⟩
  ·injection hv with hv;cases hv
 ·injection hv with hv;cases hv
theorem YaL.f_of {β:Type} {k a0 aM aN aO aP aQ bJ bK bL bM bN bO bP bQ bR bT bU bV z0} (h:YaL.t k a0 aM aN aO aP aQ bJ bK bL bM bN bO bP bQ bR bT bU bV=some z0) (K:LC->Option β):YaL.f k a0 aM aN aO aP aQ bJ bK bL bM bN bO bP bQ bR bT bU bV K=K z0:=by unfold YaL.f;rw[h];rfl
theorem Ybk:∀ r:List D,(ZN r).length=r.length
 |[]=>by simp only[ZN,List.length_nil]
 |d::r=>by simp only[ZN,List.length_cons,Ybk r]
theorem deepRows_mod {f:List C->List C} {o:List D}:∀ {l:LD} {i:Nat},i<l.length->(∀ r,l[i]? = some r->f (ZN r)=ZN o)->(Zc l).modify i f=Zc (l.take i++o::l.drop (i+1))
 |[],i,h,_=>absurd h (by simp)
 |r::xs,0,_,h2=>by
  simp only[Zc,List.modify_zero_cons,List.take_zero,List.nil_append,List.drop_succ_cons,List.drop_zero]
  rw[h2 r rfl]
 |r::xs,i+1,h1,h2=>by
  simp only[Zc,List.modify_succ_cons,List.take_succ_cons,List.cons_append,List.drop_succ_cons]
  rw[deepRows_mod (by simpa using h1) λx hx=>h2 x (by simpa using hx)]
theorem deepRows_take:∀ {l:LD} {i:Nat},(Zc l).take i=Zc (l.take i)
 |[],i=>by simp only[Zc,List.take_nil]
 |_::_,0=>by simp only[Zc,List.take_zero]
 |r::xs,i+1=>by simp only[Zc,List.take_succ_cons,deepRows_take]
theorem Ybj:∀ {l:LD} {i:Nat},(Zc l).drop i=Zc (l.drop i)
 |[],i=>by simp only[Zc,List.drop_nil]
 |_::_,0=>by simp only[Zc,List.drop_zero]
 |r::xs,i+1=>by simp only[Zc,List.drop_succ_cons,Ybj]
theorem splice_full {α:Type} {c n:List α} (h:c.length=n.length):Zs c 0 n=n:=by
 unfold Zs
 rw[List.take_zero,List.nil_append,Nat.zero_add,List.drop_eq_nil_of_le (by omega),List.append_nil]
set_option maxRecDepth 100000 in
set_option maxHeartbeats 4000000 in
theorem placed_fv {l:LD} (g:ZB Ya lim l) (ha:AscO l) {x0:Int} {x1:BA} {x2 x3 x4:Int} {x5:Bool} {x6:LD} {x7:Int} {x8:BA} {x9:Int} {x10 x11:LD} {x12:Int} {x13:BA} {x14:Int} {x15 x16:LD} (g6:ZB RS lim x6) (g10:ZB RS lim x10) (g11:ZB Yo lim x11) (g15:ZB RS lim x15) (g16:ZB Yo lim x16) {k:Nat} (hk:Zai 1 k) {β:Type} (K:LC->Option β):
  YaL.f k (Zc l) x0 x1 x2 x3 x4 x5 x6 x7 x8 x9 x10 x11 x12 x13 x14 x15 x16 K=K (Zc (YaR Yaj YaQ [.int .i64 x0,.str x1,.int .i64 x2,.int .i64 x3,.int .i64 x4,.bool x5,.sl x6,.int .i64 x7,.str x8,.int .i64 x9,.sl x10,.sl x11,.int .i64 x12,.str x13,.int .i64 x14,.sl x15,.sl x16] [.int .i64 x0,.str x1,.int .i64 x2,.int .i64 x3,.int .i64 x4,.bool x5,.sl x6,.int .i64 x7,.str x8,.int .i64 x9,.sl x10,.sl x11,.int .i64 x12,.str x13,.int .i64 x14,.sl x15,.sl x16] false l)):=YaL.f_of (by
 have hlim:lim=1048576:=rfl
 have hm:Z8=2^36:=rfl
 have hl:=g.1
 have hdl:=ZS l
 generalize ho:([.int .i64 x0,.str x1,.int .i64 x2,.int .i64 x3,.int .i64 x4,.bool x5,.sl x6,.int .i64 x7,.str x8,.int .i64 x9,.sl x10,.sl x11,.int .i64 x12,.str x13,.int .i64 x14,.sl x15,.sl x16]:List D)=o
 have hc:([.d (.int .i64 x0),.d (.str x1),.d (.int .i64 x2),.d (.int .i64 x3),.d (.int .i64 x4),.d (.bool x5),.own (Zc x6),.d (.int .i64 x7),.d (.str x8),.d (.int .i64 x9),.own (Zc x10),.own (Zc x11),.d (.int .i64 x12),.d (.str x13),.d (.int .i64 x14),.own (Zc x15),.own (Zc x16)]:List C)=ZN o:=by
  rw[<- ho];simp only[ZN,deepD]
 have hol:o.length=17:=by rw[<- ho];rfl
 have hle:lbF Yaj o l<=l.length:=(List.takeWhile_sublist _).length_le
 unfold YaL.t YaL.g
 rw[ZK,binObj_fv g ha (o:=o) (by rw[<- ho];rfl) (by rw[<- ho];rfl) (up0 hk),withF_eq Ya0 ha]
 cases hh:hitF Yaj YaQ o l with
 |true=>
  have hlt:lbF Yaj o l<l.length:=by
   rcases Nat.lt_or_ge (lbF Yaj o l) l.length with q|q
   ·exact q
   ·unfold hitF at hh
    rw[List.getElem?_eq_none q] at hh
    cases hh
  rw[cond_true,Ya6 g6 g10 g11 g15 g16 hk,ZH (by omega),ZH (by omega),hc,Int.toNat_natCast,if_pos rfl]
  refine congrArg some (deepRows_mod hlt λr hr=>splice_full ?_)
  obtain⟨hrow,-⟩:=Ya.gets g.2 (v:=(lbF Yaj o l:Int)) (by omega) (by omega)
  rw[gR_lt hlt] at hrow
  rw[List.getElem?_eq_getElem hlt] at hr
  injection hr with hr
  rw[Ybk,Ybk,hol,<- hr,hrow]
  rfl
 |false=>
  rw[cond_false,Ya6 g6 g10 g11 g15 g16 hk]
  unfold YJ.f YJ.t
  rw[ZH (by simp only[List.length_singleton];omega),hc,Int.toNat_natCast,if_neg (by decide),Nat.add_zero,deepRows_take,Ybj]
  simp only[Zbb,Zc,List.append_assoc,List.cons_append,List.nil_append]) K
theorem YaK.f_of {β:Type} {k aC aB aD aA aM aN aO aP aQ bJ bK bL bM bN bO bP bQ bR bT bU bV a2 z0 z1 z2 z3} (h:YaK.t k aC aB aD aA aM aN aO aP aQ bJ bK bL bM bN bO bP bQ bR bT bU bV a2=some (z0,z1,z2,z3)) (K:LC->Int->Int->LC->Option β):YaK.f k aC aB aD aA aM aN aO aP aQ bJ bK bL bM bN bO bP bQ bR bT bU bV a2 K=K z0 z1 z2 z3:=by unfold YaK.f;rw[h];rfl
theorem YaB.tm {ι α:Type} {ok:ι->Prop} {ψ:α->Prop} {p:ι->Nat} {B:Nat} (hp:∀ i,ok i->B<=p i) {aC aB aD aA a1 a2 a3 cA cC cE cF bZ φ} (h:Tm (λk=>B<=k) (λk=>YaB.t k aC aB aD aA a1 a2 a3 cA cC cE cF bZ) φ) {G:ι->LC->Int->Int->LC->Int->Option α} (hG:∀ z0 z1 z2 z3 z4,φ (z0,z1,z2,z3,z4)->Tm ok (λi=>G i z0 z1 z2 z3 z4) ψ):Tm ok (λi=>YaB.f (p i) aC aB aD aA a1 a2 a3 cA cC cE cF bZ (G i)) ψ:=bd5_tm (t:=λk=>YaB.t k aC aB aD aA a1 a2 a3 cA cC cE cF bZ) hp h hG
theorem readyU_fv {O L:LD} {rev next kind:Int} {name:BA} {fine:Bool} (wO:ZB Robj lim O) (wL:ZB Rlog lim L) (hs:name.size<=lim) {k:Nat} (hk:Zai 1 k) {β:Type} (K:Int->Option β):YaM.f k O rev next L kind name fine K=K (YU.v O rev next L kind name fine):=YaM.f_of (by
 rw[<- YU.tv (aB:=rev) (aD:=next) (a1:=kind) (a3:=fine) wO wL hs hk]
 have hi:∀ {n:Int} {β:Type} (K:Bool->Option β),Yaz.f k n K=K (inB n 1 3):=λK=>Yaz.f_of (by unfold Yaz.t Yaz.g;rw[Ya9]) K
 unfold YaM.t YaM.g YU.t YU.g
 rw[BaseOkI wO wL hk,Yv.fv wO wL hk]
 simp only[hi,l1In_fv,Ybi]) K
theorem Ya1 {O L:LD} {rev next:Int} (wO:ZB Robj lim O) (wL:ZB Rlog lim L) {k:Nat} (hk:Zai 1 k) {β:Type} (K:LC->Int->Int->LC->Option β):Yad.f k O rev next L K=K (Zc O) rev next (Zc L):=Yad.f_of (by
 unfold Yad.t Yad.g
 rw[copyObjs_fv wO hk,copyLog_fv wL hk]) K
theorem Ybb {O L:LD} {rev next:Int} (wO:ZB Robj lim O) (wL:ZB Rlog lim L) {k:Nat} (hk:Zai 1 k) {β:Type} (K:LC->Int->Int->LC->Option β):Yat.f k O rev next L K=K (Zc O) rev next (Zc L):=Yat.f_of (by
 unfold Yat.t Yat.g
 rw[l7CopyObjs_fv wO hk,l7CopyLog_fv wL hk])  K
abbrev mkO (c0:Int) (c1:BA) (c2 c3 c4:Int) (c5:Bool) (c6:LD) (c7:Int) (c8:BA) (c9:Int) (c10 c11:LD) (c12:Int) (c13:BA) (c14:Int) (c15 c16:LD):List D:=[.int .i64 c0,.str c1,.int .i64 c2,.int .i64 c3,.int .i64 c4,.bool c5,.sl c6,.int .i64 c7,.str c8,.int .i64 c9,.sl c10,.sl c11,.int .i64 c12,.str c13,.int .i64 c14,.sl c15,.sl c16]
noncomputable def putsV (O:LD) (rev next:Int) (L:LD) (o:List D) (code:Int):LD×Int×Int×LD×Int:=(YaR Yaj YaQ o o false O,rev+1,next,ZbS (L++[chgO (rev+1) o false]),code)
theorem keep_deep {M:LD} {β:Type} {K:LC->Option β} (hM:M.length<=4294967296):(bif decide ((M.length:Int)>40) then Zd (0<=(1:Int)/\(1:Int)<=(M.length:Int)) (K ((Zc M).drop (Int.toNat (1:Int)))) else K (Zc M))=K (Zc (ZbS M)):=by
 unfold ZbS
 by_cases h:(M.length:Int)>40
 ·rw[ZY h]
  simp only[cond_true]
  rw[ZH ⟨by omega,by omega⟩,Ybj]
  rfl
 ·rw[ZZ h]
  rfl
theorem log_deep {L:LD} {r:Int} {g:Bool} {c0:Int} {c1:BA} {c2 c3 c4:Int} {c5:Bool} {c6:LD} {c7:Int} {c8:BA} {c9:Int} {c10 c11:LD} {c12:Int} {c13:BA} {c14:Int} {c15 c16:LD}:Zc L++[[.d (.int .i64 r),.d (.bool g),.d (.int .i64 c0),.d (.str c1),.d (.int .i64 c2),.d (.int .i64 c3),.d (.int .i64 c4),.d (.bool c5),.own (Zc c6),.d (.int .i64 c7),.d (.str c8),.d (.int .i64 c9),.own (Zc c10),.own (Zc c11),.d (.int .i64 c12),.d (.str c13),.d (.int .i64 c14),.own (Zc c15),.own (Zc c16)]]=Zc (L++[chgO r (mkO c0 c1 c2 c3 c4 c5 c6 c7 c8 c9 c10 c11 c12 c13 c14 c15 c16) g]):=by
 rw[Zbb]
 simp only[chgO,mkO,Zc,ZN,deepD]
section
variable {O L:LD} {rev next:Int} {c0:Int} {c1:BA} {c2 c3 c4:Int} {c5:Bool} {c6:LD} {c7:Int} {c8:BA} {c9:Int} {c10 c11:LD} {c12:Int} {c13:BA} {c14:Int} {c15 c16:LD}
set_option maxRecDepth 100000 in
set_option maxHeartbeats 4000000 in
theorem puts_v (wO:ZB Robj lim O) (wL:ZB Rlog lim L) (hr:0<=rev/\rev<=1000000) (g6:ZB RS lim c6) (g10:ZB RS lim c10) (g11:ZB Yo lim c11) (g15:ZB RS lim c15) (g16:ZB Yo lim c16) {k:Nat} (hk:Zai 1 k) {K:LD->Int->Int->LD->Int->Option (LD×Int×Int×LD×Int)}:
  Yam.f k O rev next L c0 c1 c2 c3 c4 c5 c6 c7 c8 c9 c10 c11 c12 c13 c14 c15 c16 false (λa b c d=>K (C.immRows a) b c (C.immRows d) 0)=(λv=>K v.1 v.2.1 v.2.2.1 v.2.2.2.1 v.2.2.2.2) (putsV O rev next L (mkO c0 c1 c2 (rev+1) c4 c5 c6 c7 c8 c9 c10 c11 c12 c13 c14 c15 c16) 0):=by
 have hlim:lim=1048576:=rfl
 have hm:Z8=2^36:=rfl
 have hlo:=wO.1
 have hll:=wL.1
 have hw:IntKind.wrap .i64 (rev+1)=rev+1:=Z9 (by omega) (by omega)
 obtain⟨ys,e1,e2⟩:=l7With_fv wO (x0:=c0) (x1:=c1) (x2:=c2) (x3:=rev+1) (x4:=c4) (x5:=c5) (x7:=c7) (x8:=c8) (x9:=c9) (x12:=c12) (x13:=c13) (x14:=c14) g6 g10 g11 g15 g16 hk
 have ht:Yam.t k O rev next L c0 c1 c2 c3 c4 c5 c6 c7 c8 c9 c10 c11 c12 c13 c14 c15 c16 false=some (ys,rev+1,next,Zc (ZbS (L++[chgO (rev+1) (mkO c0 c1 c2 (rev+1) c4 c5 c6 c7 c8 c9 c10 c11 c12 c13 c14 c15 c16) false]))):=by
  unfold Yam.t Yam.g
  rw[Ybb wO wL hk]
  simp only[cond_false]
  rw[ZK,l7Find_fv wO (up0 hk),hw,Y9.f_of e1,Yba g6 g10 g11 g15 g16 hk,ZH (by rw[ZS,List.length_singleton];omega)]
  simp only[log_deep,ZS]
  exact keep_deep (M:=L++[chgO (rev+1) (mkO c0 c1 c2 (rev+1) c4 c5 c6 c7 c8 c9 c10 c11 c12 c13 c14 c15 c16) false]) (K:=λl=>some (ys,rev+1,next,l)) (by rw[List.length_append,List.length_singleton];omega)
 rw[Yam.f_of ht,e2,ZK]
 rfl
set_option maxRecDepth 100000 in
set_option maxHeartbeats 4000000 in
theorem noted_v (wO:ZB Robj lim O) (ha:AscO O) (wL:ZB Rlog lim L) (hr:0<=rev/\rev<=1000000) (g6:ZB RS lim c6) (g10:ZB RS lim c10) (g11:ZB Yo lim c11) (g15:ZB RS lim c15) (g16:ZB Yo lim c16) {k:Nat} (hk:Zai 1 k) {β:Type} {K:LC->Int->Int->LC->Int->Option β}:
  YaK.f k O rev next L c0 c1 c2 c3 c4 c5 c6 c7 c8 c9 c10 c11 c12 c13 c14 c15 c16 false (λa b c d=>K a b c d 0)=(λv=>K (Zc v.1) v.2.1 v.2.2.1 (Zc v.2.2.2.1) v.2.2.2.2) (putsV O rev next L (mkO c0 c1 c2 (rev+1) c4 c5 c6 c7 c8 c9 c10 c11 c12 c13 c14 c15 c16) 0):=by
 have hlim:lim=1048576:=rfl
 have hm:Z8=2^36:=rfl
 have hlo:=wO.1
 have hll:=wL.1
 have hw:IntKind.wrap .i64 (rev+1)=rev+1:=Z9 (by omega) (by omega)
 have ht:YaK.t k O rev next L c0 c1 c2 c3 c4 c5 c6 c7 c8 c9 c10 c11 c12 c13 c14 c15 c16 false=some (Zc (YaR Yaj YaQ (mkO c0 c1 c2 (rev+1) c4 c5 c6 c7 c8 c9 c10 c11 c12 c13 c14 c15 c16) (mkO c0 c1 c2 (rev+1) c4 c5 c6 c7 c8 c9 c10 c11 c12 c13 c14 c15 c16) false O),rev+1,next,Zc (ZbS (L++[chgO (rev+1) (mkO c0 c1 c2 (rev+1) c4 c5 c6 c7 c8 c9 c10 c11 c12 c13 c14 c15 c16) false]))):=by
  unfold YaK.t YaK.g
  rw[Ya1 wO wL hk]
  simp only[cond_false]
  rw[hw,placed_fv wO ha g6 g10 g11 g15 g16 hk,Ya6 g6 g10 g11 g15 g16 hk,ZH (by rw[ZS,List.length_singleton];omega)]
  simp only[log_deep,ZS]
  exact keep_deep (M:=L++[chgO (rev+1) (mkO c0 c1 c2 (rev+1) c4 c5 c6 c7 c8 c9 c10 c11 c12 c13 c14 c15 c16) false]) (K:=λl=>some (Zc (YaR Yaj YaQ (mkO c0 c1 c2 (rev+1) c4 c5 c6 c7 c8 c9 c10 c11 c12 c13 c14 c15 c16) (mkO c0 c1 c2 (rev+1) c4 c5 c6 c7 c8 c9 c10 c11 c12 c13 c14 c15 c16) false O),rev+1,next,l)) (by rw[List.length_append,List.length_singleton];omega)
 rw[YaK.f_of ht]
 rfl
end
noncomputable def updV (O:LD) (rev next:Int) (L:LD) (kind:Int) (name:BA) (r v0:Int) (v1:BA) (v2:Int) (v3 v4:LD):LD×Int×Int×LD×Int:=
 bif YU.v O rev next L kind name (bif YC.v v0 v1 v2 v3 v4 then decide (r>=0) else false)!=0 then(O,rev,next,L,YU.v O rev next L kind name (bif YC.v v0 v1 v2 v3 v4 then decide (r>=0) else false)) else
 bif decide (YaP O kind name<0) then(O,rev,next,L,3) else
 bif gI O (YaP O kind name) 3 !=r then(O,rev,next,L,4) else
 bif gB O (YaP O kind name) 5 then(O,rev,next,L,6) else
 putsV O rev next L (mkO (gI O (YaP O kind name) 0) (gS O (YaP O kind name) 1) (gI O (YaP O kind name) 2) (rev+1) (bif sameVB (gI O (YaP O kind name) 7) (gS O (YaP O kind name) 8) (gI O (YaP O kind name) 9) (gL O (YaP O kind name) 10) (gL O (YaP O kind name) 11) v0 v1 v2 v3 v4 then gI O (YaP O kind name) 4 else IntKind.wrap .i64 (gI O (YaP O kind name) 4+1)) (gB O (YaP O kind name) 5) (gL O (YaP O kind name) 6) v0 v1 v2 v3 v4 (gI O (YaP O kind name) 12) (gS O (YaP O kind name) 13) (gI O (YaP O kind name) 14) (gL O (YaP O kind name) 15) (gL O (YaP O kind name) 16)) 0
section
variable {O L:LD} {rev next kind:Int} {name:BA} {r v0:Int} {v1:BA} {v2:Int} {v3 v4:LD} {k:Nat}
noncomputable def getOV (O:LD) (i:Int):Int×BA×Int×Int×Int×Bool×LC×Int×BA×Int×LC×LC×Int×BA×Int×LC×LC×Bool:=
 bif decide (i<0) then(0,⟨#[]⟩,0,0,0,false,[],0,⟨#[]⟩,0,[],[],0,⟨#[]⟩,0,[],[],false) else
 (gI O i 0,gS O i 1,gI O i 2,gI O i 3,gI O i 4,gB O i 5,Zc (gL O i 6),gI O i 7,gS O i 8,gI O i 9,Zc (gL O i 10),Zc (gL O i 11),gI O i 12,gS O i 13,gI O i 14,Zc (gL O i 15),Zc (gL O i 16),true)
set_option maxRecDepth 100000 in
set_option maxHeartbeats 4000000 in
theorem getO_v (wO:ZB Robj lim O) (hk:Zai 1 k):YaV.t k O rev next L kind name=some (getOV O (YaP O kind name))/\YaU.t k O rev next L kind name=some (getOV O (YaP O kind name)):=by
 unfold YaV.t YaV.g YaU.t YaU.g getOV;simp only[atR,rdQ,Q.ask]
 rw[l7Find_fv wO (up0 hk),objAt_fv wO (up0 hk)]
 by_cases h:YaP O kind name<0
 ·rw[ZY h]
  exact⟨rfl,rfl⟩
 ·rw[ZZ h]
  simp only[cond_false]
  obtain⟨i,hi,hil⟩:=findO_lt h
  rw[hi]
  obtain⟨-,-,-,-,-,-,k6,-,-,-,k10,k11,-,-,-,k15,k16,-⟩:=Ya.get wO (v:=(i:Int)) (by omega) (by omega)
  simp(disch:=omega) only[atR,rdQ,Q.ask,Ya.row wO,Z4,Z5,ZaQ,ZaV,Zbl,Zan,Yba k6 k10 k11 k15 k16 hk,Ya6 k6 k10 k11 k15 k16 hk,and_self]
theorem deep_nil2:C.immRows []=[]:=rfl
set_option maxRecDepth 100000 in
set_option maxHeartbeats 4000000 in
theorem spec_Update_t (wO:ZB Robj lim O) (wL:ZB Rlog lim L) (hs:name.size<=lim) (u1:v1.size<=lim) (u3:ZB RS lim v3) (u4:ZB Yo lim v4) (hk:Zai 1 k):YaD.t k O rev next L kind name r v0 v1 v2 v3 v4=some (updV O rev next L kind name r v0 v1 v2 v3 v4):=by
 unfold YaD.t YaD.g updV
 rw[YC.fv u1 u3 u4 hk]
 cases hv:YC.v v0 v1 v2 v3 v4<;>simp only[cond_true,cond_false]<;>rw[YU.fv wO wL hs hk]
 ·cases hq:(YU.v O rev next L kind name false !=0) with
  |true=>simp only[cond_true];rw[Ybb wO wL hk,ZK,ZK]
  |false=>
   have:=(asked_ok wO wL hs (by simpa using hq)).2.2.2.1
   cases this
 ·generalize hfine:decide (r>=0)=fine
  cases hq:(YU.v O rev next L kind name fine !=0) with
  |true=>simp only[cond_true];rw[Ybb wO wL hk,ZK,ZK]
  |false=>
   simp only[cond_false]
   obtain⟨hok,-,-,hf,hrev,-⟩:=asked_ok wO wL hs (by simpa using hq)
   subst hf
   unfold YaS.f YaS.t YaS.g YaV.f
   rw[(getO_v wO hk).1]
   unfold getOV
   rw[hfine]
   by_cases h:YaP O kind name<0
   ·rw[ZY h]
    simp only[cond_true,Bool.not_false,show((3:Int)==0)=false from rfl,show((3:Int)!=0)=true from rfl,cond_false]
    rw[Ybb wO wL hk,ZK,ZK]
   ·rw[ZZ h]
    simp only[cond_true,cond_false,Bool.not_true]
    obtain⟨i,hi,hil⟩:=findO_lt h
    rw[hi]
    obtain⟨-,-,-,-,-,-,k6,-,-,-,k10,k11,-,-,-,k15,k16,-⟩:=Ya.get wO (v:=(i:Int)) (by omega) (by omega)
    cases h3:(gI O (i:Int) 3 !=r)
    ·simp only[cond_false,show((0:Int)==0)=true from rfl,cond_true,show((0:Int)!=0)=false from rfl,show((6:Int)!=0)=true from rfl]
     cases h5:gB O (i:Int) 5
     ·simp only[cond_false,ZK]
      rw[Yh.f_of (sameVB_t k10 k11 u3 u4 hk).1]
      cases sameVB (gI O (i:Int) 7) (gS O (i:Int) 8) (gI O (i:Int) 9) (gL O (i:Int) 10) (gL O (i:Int) 11) v0 v1 v2 v3 v4
      ·simp only[Bool.not_false,cond_true,cond_false]
       exact puts_v wO wL ⟨hok.r0,hok.r1⟩ k6 u3 u4 k15 k16 hk (K:=λa b c d e=>some (a,b,c,d,e))
      ·simp only[Bool.not_true,cond_true,cond_false]
       exact puts_v wO wL ⟨hok.r0,hok.r1⟩ k6 u3 u4 k15 k16 hk (K:=λa b c d e=>some (a,b,c,d,e))
     ·simp only[cond_true]
      rw[Ybb wO wL hk,ZK,ZK]
    ·simp only[cond_true,show((4:Int)==0)=false from rfl,show((4:Int)!=0)=true from rfl,cond_false]
     rw[Ybb wO wL hk,ZK,ZK]
set_option maxRecDepth 100000 in
set_option maxHeartbeats 4000000 in
theorem impl_Update_t (wO:ZB Robj lim O) (wL:ZB Rlog lim L) (hs:name.size<=lim) (u1:v1.size<=lim) (u3:ZB RS lim v3) (u4:ZB Yo lim v4) (hk:Zai 1 k):YaB.t k O rev next L kind name r v0 v1 v2 v3 v4=some (Zc (updV O rev next L kind name r v0 v1 v2 v3 v4).1,(updV O rev next L kind name r v0 v1 v2 v3 v4).2.1,(updV O rev next L kind name r v0 v1 v2 v3 v4).2.2.1,Zc (updV O rev next L kind name r v0 v1 v2 v3 v4).2.2.2.1,(updV O rev next L kind name r v0 v1 v2 v3 v4).2.2.2.2):=by
 unfold YaB.t YaB.g updV
 rw[Ybd u1 u3 u4 hk]
 cases hv:YC.v v0 v1 v2 v3 v4<;>simp only[cond_true,cond_false]<;>rw[readyU_fv wO wL hs hk]
 ·cases hq:(YU.v O rev next L kind name false !=0) with
  |true=>simp only[cond_true];rw[Ya1 wO wL hk]
  |false=>
   have:=(asked_ok wO wL hs (by simpa using hq)).2.2.2.1
   cases this
 ·generalize hfine:decide (r>=0)=fine
  cases hq:(YU.v O rev next L kind name fine !=0) with
  |true=>simp only[cond_true];rw[Ya1 wO wL hk]
  |false=>
   simp only[cond_false]
   obtain⟨hok,-,-,hf,hrev,-⟩:=asked_ok wO wL hs (by simpa using hq)
   subst hf
   unfold YaU.f
   rw[(getO_v wO hk).2]
   unfold getOV
   by_cases h:YaP O kind name<0
   ·rw[ZY h]
    simp only[cond_true,Bool.not_false]
    rw[Ya1 wO wL hk]
   ·rw[ZZ h]
    simp only[cond_true,cond_false,Bool.not_true]
    obtain⟨i,hi,hil⟩:=findO_lt h
    rw[hi]
    obtain⟨-,-,-,-,-,-,k6,-,-,-,k10,k11,-,-,-,k15,k16,-⟩:=Ya.get wO (v:=(i:Int)) (by omega) (by omega)
    cases h3:(gI O (i:Int) 3 !=r)
    ·simp only[cond_false]
     cases h5:gB O (i:Int) 5
     ·simp only[cond_false,ZK]
      rw[YR.f_of (sameVB_t k10 k11 u3 u4 hk).2]
      cases sameVB (gI O (i:Int) 7) (gS O (i:Int) 8) (gI O (i:Int) 9) (gL O (i:Int) 10) (gL O (i:Int) 11) v0 v1 v2 v3 v4
      ·simp only[Bool.not_false,cond_true,cond_false]
       exact noted_v wO hok.ob.asc wL ⟨hok.r0,hok.r1⟩ k6 u3 u4 k15 k16 hk (K:=λa b c d e=>some (a,b,c,d,e))
      ·simp only[Bool.not_true,cond_true,cond_false]
       exact noted_v wO hok.ob.asc wL ⟨hok.r0,hok.r1⟩ k6 u3 u4 k15 k16 hk (K:=λa b c d e=>some (a,b,c,d,e))
     ·simp only[cond_true]
      rw[Ya1 wO wL hk]
    ·simp only[cond_true]
     rw[Ya1 wO wL hk]
end
theorem wrap_wf3 (x:Int):(Lit.int .i64 (IntKind.wrap .i64 x)).wf=true:=by
 have h : -9223372036854775808<=IntKind.wrap .i64 x/\IntKind.wrap .i64 x<=9223372036854775807:=by
  rw[IntKind.wrap_i64]
  omega
 exact wf_of h.1 h.2
theorem wt_mem2:∀ {l:LD} {r:List D},r∈l->ZbY r<=Zu l
 |[],r,h=>by cases h
 |x::l,r,h=>by
  simp only[Zu]
  rcases List.mem_cons.mp h with rfl|h
  ·omega
  ·have:=wt_mem2 h
   omega
theorem wt_chg {x:Int} {o:List D} {b:Bool}:ZbY (chgO x o b)=ZbY o+2:=by
 unfold chgO
 simp only[ZbY,wtD]
 omega
set_option maxRecDepth 100000 in
set_option maxHeartbeats 4000000 in
theorem updV_ok {O L:LD} {rev next kind:Int} {name:BA} {r v0:Int} {v1:BA} {v2:Int} {v3 v4:LD} (wO:ZB Robj lim O) (wL:ZB Rlog lim L) (hs:name.size<=lim) (u0:(Lit.int .i64 v0).wf=true) (u1:v1.size<=lim) (u2:(Lit.int .i64 v2).wf=true) (u3:ZB RS lim v3) (u4:ZB Yo lim v4) (w0:Zu O<=67108864) (w3:Zu L<=67108864) (w4:Zu v4<=67108864):
  ZB Robj 2097152 (updV O rev next L kind name r v0 v1 v2 v3 v4).1/\Zu (updV O rev next L kind name r v0 v1 v2 v3 v4).1<=1125899906842624/\ZB Rlog 2097152 (updV O rev next L kind name r v0 v1 v2 v3 v4).2.2.2.1/\Zu (updV O rev next L kind name r v0 v1 v2 v3 v4).2.2.2.1<=1125899906842624/\True:=by
 have hlim:lim=1048576:=rfl
 have old:∀ (a b c:Int),ZB Robj 2097152 (O,a,b,L,c).1/\Zu (O,a,b,L,c).1<=1125899906842624/\ZB Rlog 2097152 (O,a,b,L,c).2.2.2.1/\Zu (O,a,b,L,c).2.2.2.1<=1125899906842624/\True:=λ_ _ _=>⟨Ya.wide wO,by show Zu O<=_;omega,Yb.wide wL,by show Zu L<=_;omega,trivial⟩
 unfold updV
 generalize(bif YC.v v0 v1 v2 v3 v4 then decide (r>=0) else false)=fine
 cases hq:(YU.v O rev next L kind name fine !=0) with
 |true=>exact old _ _ _
 |false=>
  simp only[cond_false]
  obtain⟨hok,-,-,-,hrev,-⟩:=asked_ok wO wL hs (by simpa using hq)
  by_cases h:YaP O kind name<0
  ·rw[ZY h]
   exact old _ _ _
  rw[ZZ h]
  simp only[cond_false]
  obtain⟨i,hi,hil⟩:=findO_lt h
  rw[hi]
  cases(gI O (i:Int) 3 !=r) with
  |true=>exact old _ _ _
  |false=>
  simp only[cond_false]
  cases gB O (i:Int) 5 with
  |true=>exact old _ _ _
  |false=>
  simp only[cond_false]
  obtain⟨hrow,k0,k1,k2,k3,k4,k6,k7,k8,k9,k10,k11,k12,k13,k14,k15,k16,-⟩:=Ya.get wO (v:=(i:Int)) (by omega) (by omega)
  have hmem:gR O (i:Int)∈O:=gR_mem (by omega) (by omega)
  have hwt:=wt_mem2 hmem
  rw[hrow] at hwt
  have r0:=hok.r0
  have l40:=hok.ll
  have l60:=hok.ob.len
  have hg:(Lit.int .i64 (bif sameVB (gI O (i:Int) 7) (gS O (i:Int) 8) (gI O (i:Int) 9) (gL O (i:Int) 10) (gL O (i:Int) 11) v0 v1 v2 v3 v4 then gI O (i:Int) 4 else IntKind.wrap .i64 (gI O (i:Int) 4+1))).wf=true:=by
   cases sameVB (gI O (i:Int) 7) (gS O (i:Int) 8) (gI O (i:Int) 9) (gL O (i:Int) 10) (gL O (i:Int) 11) v0 v1 v2 v3 v4
   ·exact wrap_wf3 _
   ·exact k4
  generalize(bif sameVB (gI O (i:Int) 7) (gS O (i:Int) 8) (gI O (i:Int) 9) (gL O (i:Int) 10) (gL O (i:Int) 11) v0 v1 v2 v3 v4 then gI O (i:Int) 4 else IntKind.wrap .i64 (gI O (i:Int) 4+1))=gen at hg⊢
  have hr1:(Lit.int .i64 (rev+1)).wf=true:=wf_of (by omega) (by omega)
  have hw3:Zu v3=1*v3.length:=wt_flat (R:=RS lim) (m:=1) (λr hr=>by obtain⟨c0,rfl,-⟩:=RS.open hr;rfl) v3 u3.2
  have l3:=u3.1
  have ho:Robj lim (mkO (gI O (i:Int) 0) (gS O (i:Int) 1) (gI O (i:Int) 2) (rev+1) gen false (gL O (i:Int) 6) v0 v1 v2 v3 v4 (gI O (i:Int) 12) (gS O (i:Int) 13) (gI O (i:Int) 14) (gL O (i:Int) 15) (gL O (i:Int) 16)):=⟨_,_,_,_,_,_,_,_,_,_,_,_,_,_,_,_,_,rfl,k0,k1,k2,hr1,hg,k6,u0,u1,u2,u3,u4,k12,k13,k14,k15,k16,trivial⟩
  have hl:Rlog lim (chgO (rev+1) (mkO (gI O (i:Int) 0) (gS O (i:Int) 1) (gI O (i:Int) 2) (rev+1) gen false (gL O (i:Int) 6) v0 v1 v2 v3 v4 (gI O (i:Int) 12) (gS O (i:Int) 13) (gI O (i:Int) 14) (gL O (i:Int) 15) (gL O (i:Int) 16)) false):=⟨_,_,_,_,_,_,_,_,_,_,_,_,_,_,_,_,_,_,_,rfl,hr1,k0,k1,k2,hr1,hg,k6,u0,u1,u2,u3,u4,k12,k13,k14,k15,k16,trivial⟩
  have hwo:ZbY (mkO (gI O (i:Int) 0) (gS O (i:Int) 1) (gI O (i:Int) 2) (rev+1) gen false (gL O (i:Int) 6) v0 v1 v2 v3 v4 (gI O (i:Int) 12) (gS O (i:Int) 13) (gI O (i:Int) 14) (gL O (i:Int) 15) (gL O (i:Int) 16))<=268435456:=by
   simp only[mkO,ZbY,wtD] at hwt⊢
   omega
  generalize hoE:mkO (gI O (i:Int) 0) (gS O (i:Int) 1) (gI O (i:Int) 2) (rev+1) gen false (gL O (i:Int) 6) v0 v1 v2 v3 v4 (gI O (i:Int) 12) (gS O (i:Int) 13) (gI O (i:Int) 14) (gL O (i:Int) 15) (gL O (i:Int) 16)=o at ho hl hwo
  have hwl:=wt_chg (x:=rev+1) (o:=o) (b:=false)
  have e1:=withF_len (less:=Yaj) (same:=YaQ) (o:=o) (o':=o) (l:=O) (put:=false)
  have e2:=wt_with (less:=Yaj) (same:=YaQ) (o:=o) (o':=o) (l:=O) (put:=false)
  simp only[cond_false] at e1 e2
  have e3:Zu (ZbS (L++[chgO (rev+1) o false]))<=Zu L+268435466:=by
   have:Zu (L++[chgO (rev+1) o false])<=Zu L+268435466:=by
    rw[Zbe]
    simp only[Zu]
    omega
   unfold ZbS
   cases decide (((L++[chgO (rev+1) o false]).length:Int)>40)
   ·exact this
   ·have:=wt_split (L++[chgO (rev+1) o false]) 1
    simp only[cond_true]
    omega
  have e4:ZB Robj lim (YaR Yaj YaQ o o false O):=⟨by omega,λx hx=>by
   rcases withF_mem hx with hx|hx
   ·exact wO.2 x hx
   ·rw[hx];exact ho⟩
  have e5:ZB Rlog lim (ZbS (L++[chgO (rev+1) o false])):=⟨by have:=(keep_sub (M:=L++[chgO (rev+1) o false])).length_le;rw[List.length_append,List.length_singleton] at this;omega,λx hx=>by
   rcases List.mem_append.mp (keep_sub.subset hx) with hx|hx
   ·exact wL.2 x hx
   ·rw[List.mem_singleton.mp hx];exact hl⟩
  unfold putsV
  exact⟨Ya.wide e4,by show Zu (YaR Yaj YaQ o o false O)<=_;omega,Yb.wide e5,by show Zu (ZbS (L++[chgO (rev+1) o false]))<=_;omega,trivial⟩
theorem YaD.T {aC:LD} {aB aD:Int} {aA:LD} {a1:Int} {a2:BA} {a3 cA:Int} {cC:BA} {cE:Int} {cF bZ:LD} (g0:ZB Robj lim aC) (_:(Lit.int .i64 aB).wf=true) (_:(Lit.int .i64 aD).wf=true) (g3:ZB Rlog lim aA) (_:(Lit.int .i64 a1).wf=true) (hs:a2.size<=lim) (_:(Lit.int .i64 a3).wf=true) (u0:(Lit.int .i64 cA).wf=true) (u1:cC.size<=lim) (u2:(Lit.int .i64 cE).wf=true) (u3:ZB RS lim cF) (u4:ZB Yo lim bZ) (w0:Zu aC<=67108864) (w3:Zu aA<=67108864) (w4:Zu bZ<=67108864):
  Tm (Zai 1) (λk=>YaD.t k aC aB aD aA a1 a2 a3 cA cC cE cF bZ) (λz=>ZB Robj 2097152 z.1/\Zu z.1<=1125899906842624/\ZB Rlog 2097152 z.2.2.2.1/\Zu z.2.2.2.1<=1125899906842624/\True):=
 Tm.of (λk hk=>spec_Update_t g0 g3 hs u1 u3 u4 hk) (updV_ok g0 g3 hs u0 u1 u2 u3 u4 w0 w3 w4)
theorem YaB.same {aC:LD} {aB aD:Int} {aA:LD} {a1:Int} {a2:BA} {a3 cA:Int} {cC:BA} {cE:Int} {cF bZ:LD} (g0:ZB Robj lim aC) (_:(Lit.int .i64 aB).wf=true) (_:(Lit.int .i64 aD).wf=true) (g3:ZB Rlog lim aA) (_:(Lit.int .i64 a1).wf=true) (hs:a2.size<=lim) (_:(Lit.int .i64 a3).wf=true) (u0:(Lit.int .i64 cA).wf=true) (u1:cC.size<=lim) (u2:(Lit.int .i64 cE).wf=true) (u3:ZB RS lim cF) (u4:ZB Yo lim bZ) (w0:Zu aC<=67108864) (w3:Zu aA<=67108864) (w4:Zu bZ<=67108864) {k:Nat} (hk:Zai 1 k) {z0:LD} {z1 z2:Int} {z3:LD} {z4:Int}
  (hz:YaD.t k aC aB aD aA a1 a2 a3 cA cC cE cF bZ=some (z0,z1,z2,z3,z4)):YaB.t k aC aB aD aA a1 a2 a3 cA cC cE cF bZ=some (Zc z0,z1,z2,Zc z3,z4):=by
 rw[spec_Update_t g0 g3 hs u1 u3 u4 hk] at hz
 rw[impl_Update_t g0 g3 hs u1 u3 u4 hk]
 injection hz with hz
 rw[hz]
theorem YI.tm {ι α:Type} {ok:ι->Prop} {ψ:α->Prop} {p:ι->Nat} {B:Nat} (hp:∀ i,ok i->B<=p i) {a0 a1 φ} (h:Tm (λk=>B<=k) (λk=>YI.t k a0 a1) φ) {G:ι->Bool->Option α} (hG:∀ z0,φ z0->Tm ok (λi=>G i z0) ψ):Tm ok (λi=>YI.f (p i) a0 a1 (G i)) ψ:=bd1_tm (t:=λk=>YI.t k a0 a1) hp h hG
set_option maxRecDepth 100000 in
theorem YI.T {B:Nat} {a0:LD} (ga0:ZB RS B a0) (hB:B<=1099511627776):Tm Fuel (λk=>YI.t k a0 a0) (λr=>r=true):=by
 unfold YI.t YI.g
 have hm:=maxLen_eq
 have hlim:lim=1048576:=rfl
 have hlen:=ga0.1
 refine Tm.ite (λh1=>?_) (λh1=>?_)
 ·try simp only[bz0,bz1,bz2,bz3,bz4,bz5,bz6,bz7,bz8,bz9,bza] at h1
  exact Tm.ret (by first|rfl|(exfalso;simp[strEq_self] at *))
 ·try simp only[bz0,bz1,bz2,bz3,bz4,bz5,bz6,bz7,bz8,bz9,bza] at h1
  refine Tm.loop (okk:=Fuel) (p:=λk=>k) (λi hi=>hi) (b:=λk=>YI.l0 k a0 a0 (λz0=>some z0)) (λi=>(((a0.length:Int))-i).toNat) (λi=>0<=i/\i<=(a0.length:Int)) ?_ ?_ ?_
  ·rintro i hI
   try simp only[] at hI⊢
   have:big=2^64:=rfl
   have:=ga0.1
   omega
  ·((try simp only[]);omega)
  ·rintro i hI L hL
   try simp only[] at hI
   obtain⟨i0,i1⟩:=hI
   simp only[YI.l0,atR,rdQ,Q.ask]
   refine Tm.ite (λh2=>?_) (λh2=>?_)
   ·try simp only[bz0,bz1,bz2,bz3,bz4,bz5,bz6,bz7,bz8,bz9,bza] at h2
    refine Tm.atRow (by first|assumption|omega) (by first|assumption|omega) (λx3 hx4 hm5=>?_)
    obtain⟨c6,rfl,g7,_⟩:=(ga0.2 x3 hm5).open
    refine Tm.uncons ?_
    refine Tm.dStr ?_
    refine Tm.atEnd ?_
    refine Tm.atRow (by first|assumption|omega) (by first|assumption|omega) (λx8 hx9 hm10=>?_)
    rw[hx4] at hx9
    injection hx9 with hx9
    subst hx9
    refine Tm.uncons ?_
    refine Tm.dStr ?_
    refine Tm.atEnd ?_
    refine Tm.ite (λh12=>?_) (λh12=>?_)
    ·try simp only[bz0,bz1,bz2,bz3,bz4,bz5,bz6,bz7,bz8,bz9,bza] at h12
     exact Tm.ret (by first|rfl|(exfalso;simp[strEq_self] at *))
    ·try simp only[bz0,bz1,bz2,bz3,bz4,bz5,bz6,bz7,bz8,bz9,bza] at h12
     try rw[Z9 (x:=i+1) (by omega) (by omega)]
     exact hL _ (by(try simp only[]);omega) (by(try simp only[]);omega)
   ·try simp only[bz0,bz1,bz2,bz3,bz4,bz5,bz6,bz7,bz8,bz9,bza] at h2
    exact Tm.ret (by first|rfl|(exfalso;simp[strEq_self] at *))
theorem Yy.tm {ι α:Type} {ok:ι->Prop} {ψ:α->Prop} {p:ι->Nat} {B:Nat} (hp:∀ i,ok i->B<=p i) {a0 a1 φ} (h:Tm (λk=>B<=k) (λk=>Yy.t k a0 a1) φ) {G:ι->Bool->Option α} (hG:∀ z0,φ z0->Tm ok (λi=>G i z0) ψ):Tm ok (λi=>Yy.f (p i) a0 a1 (G i)) ψ:=bd1_tm (t:=λk=>Yy.t k a0 a1) hp h hG
theorem YN.tm {ι α:Type} {ok:ι->Prop} {ψ:α->Prop} {p:ι->Nat} {B:Nat} (hp:∀ i,ok i->B<=p i) {aC aB aD aA aI aM aN aO aP aQ φ} (h:Tm (λk=>B<=k) (λk=>YN.t k aC aB aD aA aI aM aN aO aP aQ) φ) {G:ι->Bool->Option α} (hG:∀ z0,φ z0->Tm ok (λi=>G i z0) ψ):Tm ok (λi=>YN.f (p i) aC aB aD aA aI aM aN aO aP aQ (G i)) ψ:=bd1_tm (t:=λk=>YN.t k aC aB aD aA aI aM aN aO aP aQ) hp h hG
set_option maxRecDepth 100000 in
theorem eqVal {B:Nat} (hB:B<=1099511627776) (n:Nat):(∀ (a:LD),a.length<=B->(∀ x∈a,Y0 B n x)->Tm (λk=>big+2*n+1<=k) (λk=>Yy.t k a a) (λr=>r=true))/\
  (∀ (c0:Int) (c1:BA) (c2:Int) (c3 c4:LD),c1.size<=B->ZB RS B c3->c4.length<=B->(∀ x∈c4,Y0 B n x)->Tm (λk=>big+2*n+2<=k) (λk=>YN.t k c0 c1 c2 c3 c4 c0 c1 c2 c3 c4) (λr=>r=true)):=by
 have hb:big=2^64:=rfl
 induction n using Nat.strongRecOn with
 |ind n ih=>
 have S:∀ (a:LD),a.length<=B->(∀ x∈a,Y0 B n x)->Tm (λk=>big+2*n+1<=k) (λk=>Yy.t k a a) (λr=>r=true):=by
  intro a hlen g
  refine Tm.succ (g:=λk=>Yy.g k a a (λz0=>some z0)) (λk=>Yy.t_succ k a a) ?_
  unfold Yy.g Yy.body
  refine Tm.ite (λh3=>by simp at h3) (λh3=>?_)
  refine Tm.loop (okk:=λk=>big+2*n<=k) (p:=λk=>k) (λi hi=>by omega) (b:=λk=>Yy.l0 k (Yy.f k) (YN.f k) a a (λz0=>some z0)) (λi=>(((a.length:Int))-i).toNat) (λi=>0<=i/\i<=(a.length:Int)) ?_ ?_ ?_
  ·rintro i hI
   omega
  ·omega
  ·rintro i hI L hL
   obtain⟨i0,i1⟩:=hI
   simp only[Yy.l0,atR,rdQ,Q.ask]
   refine Tm.ite (λh4=>?_) (λh4=>?_)
   ·simp only[decide_eq_true_eq] at h4
    refine Tm.atRow (by omega) (by omega) (λx5 hx6 hm7=>?_)
    obtain⟨n',hn',c0,c1,c2,c3,c4,rfl,w0,g1,w2,g3,l4,g4⟩:∃ n',n=n'+1/\∃ c0 c1 c2 c3 c4,x5=[.int .i64 c0,.str c1,.int .i64 c2,.sl c3,.sl c4]/\(Lit.int .i64 c0).wf=true/\c1.size<=B/\(Lit.int .i64 c2).wf=true/\ZB RS B c3/\c4.length<=B/\∀ x∈c4,Y0 B n' x:=by
     have:=g x5 hm7
     cases this with
     |mk c0 c1 c2 c3 c4 w0 g1 w2 g3 l4 g4=>exact⟨_,rfl,_,_,_,_,_,rfl,w0,g1,w2,g3,l4,g4⟩
    refine Tm.uncons (Tm.dInt (Tm.uncons (Tm.dStr (Tm.uncons (Tm.dInt (Tm.uncons (Tm.dSl (Tm.uncons (Tm.dSl (Tm.atEnd ?_))))))))))
    refine Tm.atRow (by omega) (by omega) (λx8 hx8 _=>?_)
    rw[hx6] at hx8
    injection hx8 with hx8
    subst hx8
    refine Tm.uncons (Tm.dInt (Tm.uncons (Tm.dStr (Tm.uncons (Tm.dInt (Tm.uncons (Tm.dSl (Tm.uncons (Tm.dSl (Tm.atEnd ?_))))))))))
    refine YN.tm (B:=big+2*n'+2) (λi hi=>by have:=hi.1;omega) ((ih n' (by omega)).2 c0 c1 c2 c3 c4 g1 g3 l4 g4) (λy hy=>?_)
    subst hy
    refine Tm.ite (λh=>by simp at h) (λ_=>?_)
    rw[Z9 (x:=i+1) (by omega) (by omega)]
    exact hL (i+1) ⟨by omega,by omega⟩ (by omega)
   ·exact Tm.ret rfl
 refine⟨S,?_⟩
 intro c0 c1 c2 c3 c4 g1 g3 l4 g4
 refine Tm.succ (g:=λk=>YN.g k c0 c1 c2 c3 c4 c0 c1 c2 c3 c4 (λz0=>some z0)) (λk=>YN.t_succ k c0 c1 c2 c3 c4 c0 c1 c2 c3 c4) ?_
 unfold YN.g YN.body
 refine Tm.ite (λh=>by simp at h) (λ_=>?_)
 refine Tm.ite (λh=>by simp[strEq_self] at h) (λ_=>?_)
 refine Tm.ite (λh=>by simp at h) (λ_=>?_)
 refine YI.tm (B:=big) (λi hi=>by omega) (YI.T g3 hB) (λy hy=>?_)
 subst hy
 refine Tm.ite (λh=>by simp at h) (λ_=>?_)
 refine Yy.tm (B:=big+2*n+1) (λi hi=>hi) (S c4 l4 g4) (λy' hy'=>?_)
 subst hy'
 exact Tm.ite (λh=>by simp at h) (λ_=>Tm.ret rfl)
theorem big_lv1e {n:Nat} (h:n<=4398046511104):big+n<=lv 1:=by
 have hb:big=2^64:=rfl
 have:lv 1=2^65:=rfl
 omega
theorem YN.T {B:Nat} {aC:Int} {aB:BA} {aD:Int} {aA aI:LD} (g1:aB.size<=B) (g3:ZB RS B aA) (g4:ZB Yo B aI) (hB:B<=1099511627776):Tm (Zai 1) (λk=>YN.t k aC aB aD aA aI aC aB aD aA aI) (λr=>r=true):=by
 have g':∀ x∈aI,Y0 B 1099511627776 x:=λx hx=>by
  obtain⟨h,hh,hx⟩:=g4.2 x hx
  exact hx.mono (hh hB)
 exact((eqVal hB 1099511627776).2 aC aB aD aA aI g1 g3 g4.1 g').up (big_lv1e (n:=2*1099511627776+2) (by omega))
theorem YaF.tm {ι α:Type} {ok:ι->Prop} {ψ:α->Prop} {p:ι->Nat} {B:Nat} (hp:∀ i,ok i->B<=p i) {aC aB aD aA aI bE aW bB aR bC aT aY bA aU bD aV aZ aM aN aO aP aQ bJ bK bL bM bN bO bP bQ bR bT bU bV φ} (h:Tm (λk=>B<=k) (λk=>YaF.t k aC aB aD aA aI bE aW bB aR bC aT aY bA aU bD aV aZ aM aN aO aP aQ bJ bK bL bM bN bO bP bQ bR bT bU bV) φ) {G:ι->Bool->Option α} (hG:∀ z0,φ z0->Tm ok (λi=>G i z0) ψ):Tm ok (λi=>YaF.f (p i) aC aB aD aA aI bE aW bB aR bC aT aY bA aU bD aV aZ aM aN aO aP aQ bJ bK bL bM bN bO bP bQ bR bT bU bV (G i)) ψ:=bd1_tm (t:=λk=>YaF.t k aC aB aD aA aI bE aW bB aR bC aT aY bA aU bD aV aZ aM aN aO aP aQ bJ bK bL bM bN bO bP bQ bR bT bU bV) hp h hG
theorem YaF.T {B:Nat} {aC:Int} {aB:BA} {aD aA aI:Int} {bE:Bool} {aW:LD} {bB:Int} {aR:BA} {bC:Int} {aT aY:LD} {bA:Int} {aU:BA} {bD:Int} {aV aZ:LD} (ga0_1:aB.size<=B) (ga0_6:ZB RS B aW) (ga0_8:aR.size<=B) (ga0_10:ZB RS B aT) (ga0_11:ZB Yo B aY) (ga0_13:aU.size<=B) (ga0_15:ZB RS B aV) (ga0_16:ZB Yo B aZ) (hB:B<=1099511627776):Tm (Zai 1) (λk=>YaF.t k aC aB aD aA aI bE aW bB aR bC aT aY bA aU bD aV aZ aC aB aD aA aI bE aW bB aR bC aT aY bA aU bD aV aZ) (λr=>r=true):=by
 unfold YaF.t YaF.g
 have hm:=maxLen_eq
 have hlim:lim=1048576:=rfl
 refine Tm.ite (λh1=>?_) (λh1=>?_)
 ·try simp only[bz0,bz1,bz2,bz3,bz4,bz5,bz6,bz7,bz8,bz9,bza] at h1
  exact Tm.ret (by first|rfl|(exfalso;simp[strEq_self] at *))
 ·try simp only[bz0,bz1,bz2,bz3,bz4,bz5,bz6,bz7,bz8,bz9,bza] at h1
  refine Tm.ite (λh2=>?_) (λh2=>?_)
  ·try simp only[bz0,bz1,bz2,bz3,bz4,bz5,bz6,bz7,bz8,bz9,bza] at h2
   exact Tm.ret (by first|rfl|(exfalso;simp[strEq_self] at *))
  ·try simp only[bz0,bz1,bz2,bz3,bz4,bz5,bz6,bz7,bz8,bz9,bza] at h2
   refine Tm.ite (λh3=>?_) (λh3=>?_)
   ·try simp only[bz0,bz1,bz2,bz3,bz4,bz5,bz6,bz7,bz8,bz9,bza] at h3
    exact Tm.ret (by first|rfl|(exfalso;simp[strEq_self] at *))
   ·try simp only[bz0,bz1,bz2,bz3,bz4,bz5,bz6,bz7,bz8,bz9,bza] at h3
    refine Tm.ite (λh4=>?_) (λh4=>?_)
    ·try simp only[bz0,bz1,bz2,bz3,bz4,bz5,bz6,bz7,bz8,bz9,bza] at h4
     exact Tm.ret (by first|rfl|(exfalso;simp[strEq_self] at *))
    ·try simp only[bz0,bz1,bz2,bz3,bz4,bz5,bz6,bz7,bz8,bz9,bza] at h4
     refine Tm.ite (λh5=>?_) (λh5=>?_)
     ·try simp only[bz0,bz1,bz2,bz3,bz4,bz5,bz6,bz7,bz8,bz9,bza] at h5
      exact Tm.ret (by first|rfl|(exfalso;simp[strEq_self] at *))
     ·try simp only[bz0,bz1,bz2,bz3,bz4,bz5,bz6,bz7,bz8,bz9,bza] at h5
      refine Tm.ite (λh6=>?_) (λh6=>?_)
      ·try simp only[bz0,bz1,bz2,bz3,bz4,bz5,bz6,bz7,bz8,bz9,bza] at h6
       exact Tm.ret (by first|rfl|(exfalso;simp[strEq_self] at *))
      ·try simp only[bz0,bz1,bz2,bz3,bz4,bz5,bz6,bz7,bz8,bz9,bza] at h6
       refine YI.tm (λi hi=>up0 hi) (YI.T (by first|assumption|omega) (by first|assumption|omega)) (λy8 hy7=>?_)
       subst hy7
       refine Tm.ite (λh9=>?_) (λh9=>?_)
       ·try simp only[bz0,bz1,bz2,bz3,bz4,bz5,bz6,bz7,bz8,bz9,bza] at h9
        exact Tm.ret (by first|rfl|(exfalso;simp[strEq_self] at *))
       ·try simp only[bz0,bz1,bz2,bz3,bz4,bz5,bz6,bz7,bz8,bz9,bza] at h9
        refine YN.tm (λi hi=>hi) (YN.T (by first|assumption|omega) (by first|assumption|omega) (by first|assumption|omega) (by first|assumption|omega)) (λy11 hy10=>?_)
        subst hy10
        refine Tm.ite (λh12=>?_) (λh12=>?_)
        ·try simp only[bz0,bz1,bz2,bz3,bz4,bz5,bz6,bz7,bz8,bz9,bza] at h12
         exact Tm.ret (by first|rfl|(exfalso;simp[strEq_self] at *))
        ·try simp only[bz0,bz1,bz2,bz3,bz4,bz5,bz6,bz7,bz8,bz9,bza] at h12
         refine YN.tm (λi hi=>hi) (YN.T (by first|assumption|omega) (by first|assumption|omega) (by first|assumption|omega) (by first|assumption|omega)) (λy14 hy13=>?_)
         subst hy13
         refine Tm.ite (λh15=>?_) (λh15=>?_)
         ·try simp only[bz0,bz1,bz2,bz3,bz4,bz5,bz6,bz7,bz8,bz9,bza] at h15
          exact Tm.ret (by first|rfl|(exfalso;simp[strEq_self] at *))
         ·try simp only[bz0,bz1,bz2,bz3,bz4,bz5,bz6,bz7,bz8,bz9,bza] at h15
          exact Tm.ret (by first|rfl|(exfalso;simp[strEq_self] at *))
theorem Y7.tm {ι α:Type} {ok:ι->Prop} {ψ:α->Prop} {p:ι->Nat} {B:Nat} (hp:∀ i,ok i->B<=p i) {a0 a1 φ} (h:Tm (λk=>B<=k) (λk=>Y7.t k a0 a1) φ) {G:ι->Bool->Option α} (hG:∀ z0,φ z0->Tm ok (λi=>G i z0) ψ):Tm ok (λi=>Y7.f (p i) a0 a1 (G i)) ψ:=bd1_tm (t:=λk=>Y7.t k a0 a1) hp h hG
set_option maxRecDepth 100000 in
theorem Y7.T {B:Nat} {a0:LD} (ga0:ZB Ya B a0) (hB:B<=1099511627776):Tm (Zai 1) (λk=>Y7.t k a0 a0) (λr=>r=true):=by
 unfold Y7.t Y7.g
 have hm:=maxLen_eq
 have hlim:lim=1048576:=rfl
 have hlen:=ga0.1
 refine Tm.ite (λh1=>?_) (λh1=>?_)
 ·try simp only[bz0,bz1,bz2,bz3,bz4,bz5,bz6,bz7,bz8,bz9,bza] at h1
  exact Tm.ret (by first|rfl|(exfalso;simp[strEq_self] at *))
 ·try simp only[bz0,bz1,bz2,bz3,bz4,bz5,bz6,bz7,bz8,bz9,bza] at h1
  refine Tm.loop (okk:=(Zai 1)) (p:=λk=>k) (λi hi=>up0 hi) (b:=λk=>Y7.l0 k a0 a0 (λz0=>some z0)) (λi=>(((a0.length:Int))-i).toNat) (λi=>0<=i/\i<=(a0.length:Int)) ?_ ?_ ?_
  ·rintro i hI
   try simp only[] at hI⊢
   have:big=2^64:=rfl
   have:=ga0.1
   omega
  ·((try simp only[]);omega)
  ·rintro i hI L hL
   try simp only[] at hI
   obtain⟨i0,i1⟩:=hI
   simp only[Y7.l0,atR,rdQ,Q.ask]
   refine Tm.ite (λh2=>?_) (λh2=>?_)
   ·try simp only[bz0,bz1,bz2,bz3,bz4,bz5,bz6,bz7,bz8,bz9,bza] at h2
    refine Tm.atRow (by first|assumption|omega) (by first|assumption|omega) (λx3 hx4 hm5=>?_)
    obtain⟨c6,c7,c8,c9,c10,c11,c12,c13,c14,c15,c16,c17,c18,c19,c20,c21,c22,rfl,g23,g24,g25,g26,g27,g28,g29,g30,g31,g32,g33,g34,g35,g36,g37,g38,_⟩:=(ga0.2 x3 hm5).open
    refine Tm.uncons ?_
    refine Tm.dInt ?_
    refine Tm.uncons ?_
    refine Tm.dStr ?_
    refine Tm.uncons ?_
    refine Tm.dInt ?_
    refine Tm.uncons ?_
    refine Tm.dInt ?_
    refine Tm.uncons ?_
    refine Tm.dInt ?_
    refine Tm.uncons ?_
    refine Tm.dBool ?_
    refine Tm.uncons ?_
    refine Tm.dSl ?_
    refine Tm.uncons ?_
    refine Tm.dInt ?_
    refine Tm.uncons ?_
    refine Tm.dStr ?_
    refine Tm.uncons ?_
    refine Tm.dInt ?_
    refine Tm.uncons ?_
    refine Tm.dSl ?_
    refine Tm.uncons ?_
    refine Tm.dSl ?_
    refine Tm.uncons ?_
    refine Tm.dInt ?_
    refine Tm.uncons ?_
    refine Tm.dStr ?_
    refine Tm.uncons ?_
    refine Tm.dInt ?_
    refine Tm.uncons ?_
    refine Tm.dSl ?_
    refine Tm.uncons ?_
    refine Tm.dSl ?_
    refine Tm.atEnd ?_
    refine Tm.atRow (by first|assumption|omega) (by first|assumption|omega) (λx39 hx40 hm41=>?_)
    rw[hx4] at hx40
    injection hx40 with hx40
    subst hx40
    refine Tm.uncons ?_
    refine Tm.dInt ?_
    refine Tm.uncons ?_
    refine Tm.dStr ?_
    refine Tm.uncons ?_
    refine Tm.dInt ?_
    refine Tm.uncons ?_
    refine Tm.dInt ?_
    refine Tm.uncons ?_
    refine Tm.dInt ?_
    refine Tm.uncons ?_
    refine Tm.dBool ?_
    refine Tm.uncons ?_
    refine Tm.dSl ?_
    refine Tm.uncons ?_
    refine Tm.dInt ?_
    refine Tm.uncons ?_
    refine Tm.dStr ?_
    refine Tm.uncons ?_
    refine Tm.dInt ?_
    refine Tm.uncons ?_
    refine Tm.dSl ?_
    refine Tm.uncons ?_
    refine Tm.dSl ?_
    refine Tm.uncons ?_
    refine Tm.dInt ?_
    refine Tm.uncons ?_
    refine Tm.dStr ?_
    refine Tm.uncons ?_
    refine Tm.dInt ?_
    refine Tm.uncons ?_
    refine Tm.dSl ?_
    refine Tm.uncons ?_
    refine Tm.dSl ?_
    refine Tm.atEnd ?_
    refine YaF.tm (λi hi=>hi.1) (YaF.T (by first|assumption|omega) (by first|assumption|omega) (by first|assumption|omega) (by first|assumption|omega) (by first|assumption|omega) (by first|assumption|omega) (by first|assumption|omega) (by first|assumption|omega) (by first|assumption|omega)) (λy60 hy59=>?_)
    subst hy59
    refine Tm.ite (λh61=>?_) (λh61=>?_)
    ·try simp only[bz0,bz1,bz2,bz3,bz4,bz5,bz6,bz7,bz8,bz9,bza] at h61
     exact Tm.ret (by first|rfl|(exfalso;simp[strEq_self] at *))
    ·try simp only[bz0,bz1,bz2,bz3,bz4,bz5,bz6,bz7,bz8,bz9,bza] at h61
     try rw[Z9 (x:=i+1) (by omega) (by omega)]
     exact hL _ (by(try simp only[]);omega) (by(try simp only[]);omega)
   ·try simp only[bz0,bz1,bz2,bz3,bz4,bz5,bz6,bz7,bz8,bz9,bza] at h2
    exact Tm.ret (by first|rfl|(exfalso;simp[strEq_self] at *))
theorem Yay.tm {ι α:Type} {ok:ι->Prop} {ψ:α->Prop} {p:ι->Nat} {B:Nat} (hp:∀ i,ok i->B<=p i) {aC aB aD aA aI bE aW bB aR bC aT aY bA aU bD aV aZ cN cO aM aN aO aP aQ bJ bK bL bM bN bO bP bQ bR bT bU bV a1_17 a1_18 φ} (h:Tm (λk=>B<=k) (λk=>Yay.t k aC aB aD aA aI bE aW bB aR bC aT aY bA aU bD aV aZ cN cO aM aN aO aP aQ bJ bK bL bM bN bO bP bQ bR bT bU bV a1_17 a1_18) φ) {G:ι->Bool->Option α} (hG:∀ z0,φ z0->Tm ok (λi=>G i z0) ψ):Tm ok (λi=>Yay.f (p i) aC aB aD aA aI bE aW bB aR bC aT aY bA aU bD aV aZ cN cO aM aN aO aP aQ bJ bK bL bM bN bO bP bQ bR bT bU bV a1_17 a1_18 (G i)) ψ:=bd1_tm (t:=λk=>Yay.t k aC aB aD aA aI bE aW bB aR bC aT aY bA aU bD aV aZ cN cO aM aN aO aP aQ bJ bK bL bM bN bO bP bQ bR bT bU bV a1_17 a1_18) hp h hG
theorem Yay.T {B:Nat} {aC:Int} {aB:Bool} {aD:Int} {aA:BA} {aI bE aW:Int} {bB:Bool} {aR:LD} {bC:Int} {aT:BA} {aY:Int} {bA aU:LD} {bD:Int} {aV:BA} {aZ:Int} {cN cO:LD} (ga0_3:aA.size<=B) (ga0_8:ZB RS B aR) (ga0_10:aT.size<=B) (ga0_12:ZB RS B bA) (ga0_13:ZB Yo B aU) (ga0_15:aV.size<=B) (ga0_17:ZB RS B cN) (ga0_18:ZB Yo B cO) (hB:B<=1099511627776):Tm (Zai 1) (λk=>Yay.t k aC aB aD aA aI bE aW bB aR bC aT aY bA aU bD aV aZ cN cO aC aB aD aA aI bE aW bB aR bC aT aY bA aU bD aV aZ cN cO) (λr=>r=true):=by
 unfold Yay.t Yay.g
 have hm:=maxLen_eq
 have hlim:lim=1048576:=rfl
 refine Tm.ite (λh1=>?_) (λh1=>?_)
 ·try simp only[bz0,bz1,bz2,bz3,bz4,bz5,bz6,bz7,bz8,bz9,bza] at h1
  exact Tm.ret (by first|rfl|(exfalso;simp[strEq_self] at *))
 ·try simp only[bz0,bz1,bz2,bz3,bz4,bz5,bz6,bz7,bz8,bz9,bza] at h1
  refine Tm.ite (λh2=>?_) (λh2=>?_)
  ·try simp only[bz0,bz1,bz2,bz3,bz4,bz5,bz6,bz7,bz8,bz9,bza] at h2
   exact Tm.ret (by first|rfl|(exfalso;simp[strEq_self] at *))
  ·try simp only[bz0,bz1,bz2,bz3,bz4,bz5,bz6,bz7,bz8,bz9,bza] at h2
   refine YaF.tm (λi hi=>hi) (YaF.T (by first|assumption|omega) (by first|assumption|omega) (by first|assumption|omega) (by first|assumption|omega) (by first|assumption|omega) (by first|assumption|omega) (by first|assumption|omega) (by first|assumption|omega) (by first|assumption|omega)) (λy4 hy3=>?_)
   subst hy3
   refine Tm.ite (λh5=>?_) (λh5=>?_)
   ·try simp only[bz0,bz1,bz2,bz3,bz4,bz5,bz6,bz7,bz8,bz9,bza] at h5
    exact Tm.ret (by first|rfl|(exfalso;simp[strEq_self] at *))
   ·try simp only[bz0,bz1,bz2,bz3,bz4,bz5,bz6,bz7,bz8,bz9,bza] at h5
    exact Tm.ret (by first|rfl|(exfalso;simp[strEq_self] at *))
theorem YQ.tm {ι α:Type} {ok:ι->Prop} {ψ:α->Prop} {p:ι->Nat} {B:Nat} (hp:∀ i,ok i->B<=p i) {a0 a1 φ} (h:Tm (λk=>B<=k) (λk=>YQ.t k a0 a1) φ) {G:ι->Bool->Option α} (hG:∀ z0,φ z0->Tm ok (λi=>G i z0) ψ):Tm ok (λi=>YQ.f (p i) a0 a1 (G i)) ψ:=bd1_tm (t:=λk=>YQ.t k a0 a1) hp h hG
set_option maxRecDepth 100000 in
theorem YQ.T {B:Nat} {a0:LD} (ga0:ZB Yb B a0) (hB:B<=1099511627776):Tm (Zai 1) (λk=>YQ.t k a0 a0) (λr=>r=true):=by
 unfold YQ.t YQ.g
 have hm:=maxLen_eq
 have hlim:lim=1048576:=rfl
 have hlen:=ga0.1
 refine Tm.ite (λh1=>?_) (λh1=>?_)
 ·try simp only[bz0,bz1,bz2,bz3,bz4,bz5,bz6,bz7,bz8,bz9,bza] at h1
  exact Tm.ret (by first|rfl|(exfalso;simp[strEq_self] at *))
 ·try simp only[bz0,bz1,bz2,bz3,bz4,bz5,bz6,bz7,bz8,bz9,bza] at h1
  refine Tm.loop (okk:=(Zai 1)) (p:=λk=>k) (λi hi=>up0 hi) (b:=λk=>YQ.l0 k a0 a0 (λz0=>some z0)) (λi=>(((a0.length:Int))-i).toNat) (λi=>0<=i/\i<=(a0.length:Int)) ?_ ?_ ?_
  ·rintro i hI
   try simp only[] at hI⊢
   have:big=2^64:=rfl
   have:=ga0.1
   omega
  ·((try simp only[]);omega)
  ·rintro i hI L hL
   try simp only[] at hI
   obtain⟨i0,i1⟩:=hI
   simp only[YQ.l0,atR,rdQ,Q.ask]
   refine Tm.ite (λh2=>?_) (λh2=>?_)
   ·try simp only[bz0,bz1,bz2,bz3,bz4,bz5,bz6,bz7,bz8,bz9,bza] at h2
    refine Tm.atRow (by first|assumption|omega) (by first|assumption|omega) (λx3 hx4 hm5=>?_)
    obtain⟨c6,c7,c8,c9,c10,c11,c12,c13,c14,c15,c16,c17,c18,c19,c20,c21,c22,c23,c24,rfl,g25,g26,g27,g28,g29,g30,g31,g32,g33,g34,g35,g36,g37,g38,g39,g40,g41,_⟩:=(ga0.2 x3 hm5).open
    refine Tm.uncons ?_
    refine Tm.dInt ?_
    refine Tm.uncons ?_
    refine Tm.dBool ?_
    refine Tm.uncons ?_
    refine Tm.dInt ?_
    refine Tm.uncons ?_
    refine Tm.dStr ?_
    refine Tm.uncons ?_
    refine Tm.dInt ?_
    refine Tm.uncons ?_
    refine Tm.dInt ?_
    refine Tm.uncons ?_
    refine Tm.dInt ?_
    refine Tm.uncons ?_
    refine Tm.dBool ?_
    refine Tm.uncons ?_
    refine Tm.dSl ?_
    refine Tm.uncons ?_
    refine Tm.dInt ?_
    refine Tm.uncons ?_
    refine Tm.dStr ?_
    refine Tm.uncons ?_
    refine Tm.dInt ?_
    refine Tm.uncons ?_
    refine Tm.dSl ?_
    refine Tm.uncons ?_
    refine Tm.dSl ?_
    refine Tm.uncons ?_
    refine Tm.dInt ?_
    refine Tm.uncons ?_
    refine Tm.dStr ?_
    refine Tm.uncons ?_
    refine Tm.dInt ?_
    refine Tm.uncons ?_
    refine Tm.dSl ?_
    refine Tm.uncons ?_
    refine Tm.dSl ?_
    refine Tm.atEnd ?_
    refine Tm.atRow (by first|assumption|omega) (by first|assumption|omega) (λx42 hx43 hm44=>?_)
    rw[hx4] at hx43
    injection hx43 with hx43
    subst hx43
    refine Tm.uncons ?_
    refine Tm.dInt ?_
    refine Tm.uncons ?_
    refine Tm.dBool ?_
    refine Tm.uncons ?_
    refine Tm.dInt ?_
    refine Tm.uncons ?_
    refine Tm.dStr ?_
    refine Tm.uncons ?_
    refine Tm.dInt ?_
    refine Tm.uncons ?_
    refine Tm.dInt ?_
    refine Tm.uncons ?_
    refine Tm.dInt ?_
    refine Tm.uncons ?_
    refine Tm.dBool ?_
    refine Tm.uncons ?_
    refine Tm.dSl ?_
    refine Tm.uncons ?_
    refine Tm.dInt ?_
    refine Tm.uncons ?_
    refine Tm.dStr ?_
    refine Tm.uncons ?_
    refine Tm.dInt ?_
    refine Tm.uncons ?_
    refine Tm.dSl ?_
    refine Tm.uncons ?_
    refine Tm.dSl ?_
    refine Tm.uncons ?_
    refine Tm.dInt ?_
    refine Tm.uncons ?_
    refine Tm.dStr ?_
    refine Tm.uncons ?_
    refine Tm.dInt ?_
    refine Tm.uncons ?_
    refine Tm.dSl ?_
    refine Tm.uncons ?_
    refine Tm.dSl ?_
    refine Tm.atEnd ?_
    refine Yay.tm (λi hi=>hi.1) (Yay.T (by first|assumption|omega) (by first|assumption|omega) (by first|assumption|omega) (by first|assumption|omega) (by first|assumption|omega) (by first|assumption|omega) (by first|assumption|omega) (by first|assumption|omega) (by first|assumption|omega)) (λy65 hy64=>?_)
    subst hy64
    refine Tm.ite (λh66=>?_) (λh66=>?_)
    ·try simp only[bz0,bz1,bz2,bz3,bz4,bz5,bz6,bz7,bz8,bz9,bza] at h66
     exact Tm.ret (by first|rfl|(exfalso;simp[strEq_self] at *))
    ·try simp only[bz0,bz1,bz2,bz3,bz4,bz5,bz6,bz7,bz8,bz9,bza] at h66
     try rw[Z9 (x:=i+1) (by omega) (by omega)]
     exact hL _ (by(try simp only[]);omega) (by(try simp only[]);omega)
   ·try simp only[bz0,bz1,bz2,bz3,bz4,bz5,bz6,bz7,bz8,bz9,bza] at h2
    exact Tm.ret (by first|rfl|(exfalso;simp[strEq_self] at *))
theorem Yaq.tm {ι α:Type} {ok:ι->Prop} {ψ:α->Prop} {p:ι->Nat} {B:Nat} (hp:∀ i,ok i->B<=p i) {aC aB aD aA aM aN aO aP φ} (h:Tm (λk=>B<=k) (λk=>Yaq.t k aC aB aD aA aM aN aO aP) φ) {G:ι->Bool->Option α} (hG:∀ z0,φ z0->Tm ok (λi=>G i z0) ψ):Tm ok (λi=>Yaq.f (p i) aC aB aD aA aM aN aO aP (G i)) ψ:=bd1_tm (t:=λk=>Yaq.t k aC aB aD aA aM aN aO aP) hp h hG
theorem Yaq.T {B:Nat} {aC:LD} {aB aD:Int} {aA:LD} (ga0_0:ZB Ya B aC) (ga0_3:ZB Yb B aA) (hB:B<=1099511627776):Tm (Zai 1) (λk=>Yaq.t k aC aB aD aA aC aB aD aA) (λr=>r=true):=by
 unfold Yaq.t Yaq.g
 have hm:=maxLen_eq
 have hlim:lim=1048576:=rfl
 refine Y7.tm (λi hi=>hi) (Y7.T (by first|assumption|omega) (by first|assumption|omega)) (λy2 hy1=>?_)
 subst hy1
 refine Tm.ite (λh3=>?_) (λh3=>?_)
 ·try simp only[bz0,bz1,bz2,bz3,bz4,bz5,bz6,bz7,bz8,bz9,bza] at h3
  exact Tm.ret (by first|rfl|(exfalso;simp[strEq_self] at *))
 ·try simp only[bz0,bz1,bz2,bz3,bz4,bz5,bz6,bz7,bz8,bz9,bza] at h3
  refine Tm.ite (λh4=>?_) (λh4=>?_)
  ·try simp only[bz0,bz1,bz2,bz3,bz4,bz5,bz6,bz7,bz8,bz9,bza] at h4
   exact Tm.ret (by first|rfl|(exfalso;simp[strEq_self] at *))
  ·try simp only[bz0,bz1,bz2,bz3,bz4,bz5,bz6,bz7,bz8,bz9,bza] at h4
   refine Tm.ite (λh5=>?_) (λh5=>?_)
   ·try simp only[bz0,bz1,bz2,bz3,bz4,bz5,bz6,bz7,bz8,bz9,bza] at h5
    exact Tm.ret (by first|rfl|(exfalso;simp[strEq_self] at *))
   ·try simp only[bz0,bz1,bz2,bz3,bz4,bz5,bz6,bz7,bz8,bz9,bza] at h5
    refine YQ.tm (λi hi=>hi) (YQ.T (by first|assumption|omega) (by first|assumption|omega)) (λy7 hy6=>?_)
    subst hy6
    refine Tm.ite (λh8=>?_) (λh8=>?_)
    ·try simp only[bz0,bz1,bz2,bz3,bz4,bz5,bz6,bz7,bz8,bz9,bza] at h8
     exact Tm.ret (by first|rfl|(exfalso;simp[strEq_self] at *))
    ·try simp only[bz0,bz1,bz2,bz3,bz4,bz5,bz6,bz7,bz8,bz9,bza] at h8
     exact Tm.ret (by first|rfl|(exfalso;simp[strEq_self] at *))
theorem Yg.f_of {β:Type} {k a0 z0} (h:Yg.t k a0=some z0) (K:BA->Option β):Yg.f k a0 K=K z0:=by unfold Yg.f;rw[h];rfl
theorem Yg.tm {ι α:Type} {ok:ι->Prop} {ψ:α->Prop} {p:ι->Nat} {B:Nat} (hp:∀ i,ok i->B<=p i) {a0 φ} (h:Tm (λk=>B<=k) (λk=>Yg.t k a0) φ) {G:ι->BA->Option α} (hG:∀ z0,φ z0->Tm ok (λi=>G i z0) ψ):Tm ok (λi=>Yg.f (p i) a0 (G i)) ψ:=bd1_tm (t:=λk=>Yg.t k a0) hp h hG
theorem Yg.T {a0:Int} (h1:a0<=4611686018427387904):Tm Fuel (λk=>Yg.t k a0) (λ_=>True):=by
 unfold Yg.t Yg.g
 have hb:big=2^64:=rfl
 refine Tm.ite (λ_=>Tm.ret trivial) (λh=>?_)
 simp only[decide_eq_false_iff_not,Int.not_le] at h
 refine Tm.loop (okk:=Fuel) (p:=λk=>k) (λi hi=>hi) (b:=λk=>Yg.l0 k (λz0=>some z0)) (λv=>match v with|(u,s)=>u.toNat) (λv=>match v with|(u,s)=>0<=u/\u+s.size<=a0) ?_ ?_ ?_
 ·rintro⟨u,s⟩ hI
  simp only[] at hI⊢
  omega
 ·simp only[]
  have:(⟨#[]⟩:BA).size=0:=rfl
  omega
 ·rintro⟨u,s⟩ hI L hL
  simp only[] at hI
  obtain⟨u0,u1⟩:=hI
  simp only[Yg.l0]
  refine Tm.ite (λh4=>?_) (λh4=>?_)
  ·simp only[decide_eq_true_eq] at h4
   have e1:∀ x:UInt8,(⟨#[x]⟩:BA).size=1:=λ_=>rfl
   have ed:Int.tdiv u 10=u/10:=Int.tdiv_eq_ediv_of_nonneg (by omega)
   refine Tm.guard (by decide) (Tm.guard (by rw[e1];omega) (Tm.guard (by decide) ?_))
   rw[ed,Z9 (x:=u/10) (by omega) (by omega)]
   refine hL (_,_) ⟨by omega,?_⟩ (by simp only[];omega)
   rw[ByteArray.size_append,e1]
   omega
  ·have e1:(⟨#[109]⟩:BA).size=1:=rfl
   exact Tm.guard (by rw[e1];omega) (Tm.ret trivial)
noncomputable def Yg.v (a0:Int):BA:=(Yg.t big a0).getD default
theorem Yg.tv {a0:Int} (h1:a0<=4611686018427387904) {k:Nat} (hk:Fuel k):Yg.t k a0=some (Yg.v a0):=(Yg.T h1).val hk
theorem Yg.fv {a0:Int} (h1:a0<=4611686018427387904) {k:Nat} (hk:Fuel k) {β:Type} (K:BA->Option β):Yg.f k a0 K=K (Yg.v a0):=Yg.f_of (Yg.tv h1 hk) K
theorem Yl.tm {ι α:Type} {ok:ι->Prop} {ψ:α->Prop} {p:ι->Nat} {B:Nat} (hp:∀ i,ok i->B<=p i) {a0 a1 φ} (h:Tm (λk=>B<=k) (λk=>Yl.t k a0 a1) φ) {G:ι->Int->LC->Option α} (hG:∀ z0 z1,φ (z0,z1)->Tm ok (λi=>G i z0 z1) ψ):Tm ok (λi=>Yl.f (p i) a0 a1 (G i)) ψ:=bd2_tm (t:=λk=>Yl.t k a0 a1) hp h hG
theorem Yj.tm {ι α:Type} {ok:ι->Prop} {ψ:α->Prop} {p:ι->Nat} {B:Nat} (hp:∀ i,ok i->B<=p i) {a0 a1 φ} (h:Tm (λk=>B<=k) (λk=>Yj.t k a0 a1) φ) {G:ι->Int->LC->Option α} (hG:∀ z0 z1,φ (z0,z1)->Tm ok (λi=>G i z0 z1) ψ):Tm ok (λi=>Yj.f (p i) a0 a1 (G i)) ψ:=bd2_tm (t:=λk=>Yj.t k a0 a1) hp h hG
theorem YV.tm {ι α:Type} {ok:ι->Prop} {ψ:α->Prop} {p:ι->Nat} {B:Nat} (hp:∀ i,ok i->B<=p i) {a0 a1 φ} (h:Tm (λk=>B<=k) (λk=>YV.t k a0 a1) φ) {G:ι->Int->LC->Option α} (hG:∀ z0 z1,φ (z0,z1)->Tm ok (λi=>G i z0 z1) ψ):Tm ok (λi=>YV.f (p i) a0 a1 (G i)) ψ:=bd2_tm (t:=λk=>YV.t k a0 a1) hp h hG
theorem YD.tm {ι α:Type} {ok:ι->Prop} {ψ:α->Prop} {p:ι->Nat} {B:Nat} (hp:∀ i,ok i->B<=p i) {a0 a1 φ} (h:Tm (λk=>B<=k) (λk=>YD.t k a0 a1) φ) {G:ι->Int->LC->Option α} (hG:∀ z0 z1,φ (z0,z1)->Tm ok (λi=>G i z0 z1) ψ):Tm ok (λi=>YD.f (p i) a0 a1 (G i)) ψ:=bd2_tm (t:=λk=>YD.t k a0 a1) hp h hG
theorem Yap.tm {ι α:Type} {ok:ι->Prop} {ψ:α->Prop} {p:ι->Nat} {B:Nat} (hp:∀ i,ok i->B<=p i) {aC aB aD aA a1 φ} (h:Tm (λk=>B<=k) (λk=>Yap.t k aC aB aD aA a1) φ) {G:ι->Int->LC->LC->Option α} (hG:∀ z0 z1 z2,φ (z0,z1,z2)->Tm ok (λi=>G i z0 z1 z2) ψ):Tm ok (λi=>Yap.f (p i) aC aB aD aA a1 (G i)) ψ:=bd3_tm (t:=λk=>Yap.t k aC aB aD aA a1) hp h hG
theorem Yau.tm {ι α:Type} {ok:ι->Prop} {ψ:α->Prop} {p:ι->Nat} {B:Nat} (hp:∀ i,ok i->B<=p i) {aC aB aD aA aI a1 φ} (h:Tm (λk=>B<=k) (λk=>Yau.t k aC aB aD aA aI a1) φ) {G:ι->Int->LC->LC->Option α} (hG:∀ z0 z1 z2,φ (z0,z1,z2)->Tm ok (λi=>G i z0 z1 z2) ψ):Tm ok (λi=>Yau.f (p i) aC aB aD aA aI a1 (G i)) ψ:=bd3_tm (t:=λk=>Yau.t k aC aB aD aA aI a1) hp h hG
theorem Ym.f_of {β:Type} {k a0 a1 z0} (h:Ym.t k a0 a1=some z0) (K:Int->Option β):Ym.f k a0 a1 K=K z0:=by unfold Ym.f;rw[h];rfl
set_option maxRecDepth 100000 in
set_option maxHeartbeats 8000000 in
theorem Ym.step {u:Int}  (h0:0<=u)  (h1:u+1<=4611686018427387904) {k:Nat} (hk:Fuel k):HStep (λxs L v=>Ym.l0 k xs (λz0=>some z0) L v) u [.str (Yg.v (u))] (u+1):=by
 have hk0:Fuel k:=hk
 intro xs i i0 i1 hl hr L
 simp(maxSteps:=4000000) (disch:=first|assumption|omega) only[Ym.l0,atR,rdQ,Q.ask,ZY i1,cond_true,cond_false,Zck i0 i1,hr,Z4,Z5,ZaQ,ZaV,Zbl,Zan,Z9,Yg.fv,strEq_self,bne_self_eq_false,beq_self_eq_true,Bool.not_true]
set_option maxRecDepth 100000 in
set_option maxHeartbeats 8000000 in
theorem Yl.T {B:Nat} (hB:B<=1099511627776) {xs:LD} {n:Int} (g:ZB RS B xs) (h0:0<=n) (h1:n+Zu xs<=4611686018427387904):Tm Fuel (λk=>Yl.t k (Zc xs) n) (λz=>∃ ys,z.2=Zc ys/\ys.length=xs.length/\z.1=n+Zu xs/\∀ k,Fuel k->Ym.t k ys n=some z.1):=by
 have hb:big=2^64:=rfl
 have hl:=g.1
 have key:Tm Fuel (λk=>Yl.t k (Zc xs) n) (λz=>∃ ys,z.2=Zc ys/\ys.length=xs.length/\z.1=n+Zu xs/\HeldL (λu r u'=>∀ k,Fuel k->HStep (λxs L v=>Ym.l0 k xs (λz0=>some z0) L v) u r u') n ys z.1):=by
  unfold Yl.t Yl.g
  refine Tm.loop (okk:=Fuel) (p:=λk=>k) (λi hi=>hi) (b:=λk=>Yl.l0 k (λz0 z1=>some (z0,z1))) (λv=>match v with|(u,i,tab)=>((xs.length:Int)-i).toNat) (λv=>match v with|(u,i,tab)=>0<=i/\i<=xs.length/\∃ done:LD,done.length=i.toNat/\tab=Zc done++Zc (xs.drop i.toNat)/\u=n+Zu (xs.take i.toNat)/\HeldL (λu r u'=>∀ k,Fuel k->HStep (λxs L v=>Ym.l0 k xs (λz0=>some z0) L v) u r u') n done u) ?_ ?_ ?_
  ·rintro⟨u,i,tab⟩ hI
   simp only[] at hI⊢
   omega
  ·exact⟨by omega,by omega,[],rfl,by simp[Zc],by simp[Zu],.nil⟩
  ·rintro⟨u,i,tab⟩ hI L hL
   simp only[] at hI
   obtain⟨i0,i1,done,hd,rfl,hu,hH⟩:=hI
   have hA:(Zc done).length=i.toNat:=by rw[ZS,hd]
   have hT:(Zc done++Zc (xs.drop i.toNat)).length=xs.length:=by rw[List.length_append,hA,ZS,List.length_drop];omega
   simp only[Yl.l0]
   refine Tm.ite (λh4=>?_) (λh4=>?_)
   ·simp only[decide_eq_true_eq,hT] at h4
    have hx:=gR_at i0 h4
    obtain⟨c0,e,k0,_⟩:=(g.2 _ (gR_mem i0 h4)).open
    rw[e] at hx
    have hdr:=drop_at i0 hx
    have hw:=wt_take i0 hx
    simp only[ZbY,wtD] at hw
    have hs:=wt_split xs (i+1).toNat
    rw[hdr] at hT⊢
    simp only[Zc,ZN,deepD] at hT⊢
    have hT2:=hT
    simp only[List.length_append,List.length_cons] at hT2
    try simp(disch:=omega) only[Z9]
    refine Yg.tm (λi hi=>hi.1) (Tm.at (ok:=Fuel) (v:=Yg.v _) (λk hk=>Yg.tv (by omega) hk)) (λy hy=>?_)
    subst hy
    refine Tm.guard (by first|decide|(simp only[List.length_modify,List.length_append,List.length_cons];omega)) ?_
    refine Tm.guard (by first|decide|(simp only[List.length_modify,List.length_append,List.length_cons];omega)) ?_
    try simp(disch:=omega) only[Z9]
    try simp only[modify_mid hA,Zs,List.take_zero,List.take_succ_cons,List.drop_succ_cons,List.drop_zero,List.nil_append,List.cons_append,List.length_cons,List.length_nil,Nat.zero_add,Nat.reduceAdd,List.set_cons_succ,List.set_cons_zero]
    refine hL (_,_,_) ⟨by omega,by omega,done++[[.str (Yg.v (u))]],by simp only[List.length_append,List.length_cons,List.length_nil];omega,?_,by omega,HeldL.snoc hH (λk hk=>Ym.step (by omega) (by omega) hk)⟩ (by simp only[];omega)
    rw[Zbb]
    simp only[Zc,ZN,deepD,List.append_assoc,List.cons_append,List.nil_append]
   ·simp only[decide_eq_false_iff_not,hT] at h4
    refine Tm.ret ⟨done,?_,by omega,?_,hH⟩
    ·rw[List.drop_eq_nil_of_le (by omega)]
     simp only[Zc,List.append_nil]
    ·rw[List.take_of_length_le (by omega)] at hu
     exact hu
 obtain⟨v,⟨ys,e1,e2,e3,hH⟩,h2⟩:=key
 exact⟨v,⟨ys,e1,e2,e3,λk hk=>by
  have hk0:Fuel k:=hk
  unfold Ym.t Ym.g
  exact held_run (b:=λxs L v=>Ym.l0 k xs (λz0=>some z0) L v) (by omega) (hH.mono λ_ _ _ h=>h k hk) (by omega) (λL=>by simp[Ym.l0,atR,rdQ,Q.ask])⟩,h2⟩
theorem Yi.f_of {β:Type} {k a0 a1 z0} (h:Yi.t k a0 a1=some z0) (K:Int->Option β):Yi.f k a0 a1 K=K z0:=by unfold Yi.f Yi.w;rw[h];rfl
set_option maxRecDepth 100000 in
theorem Yi.step {N:Nat} {u:Int} {ys3:LD} {n3:Int} {ys4:LD} {n4:Int} (h0:0<=u) (hn3:u+1+1+1<=n3) (hh3:∀ k,Fuel k->Ym.t k ys3 (u+1+1+1)=some n3) (hn4:n3<=n4) (hh4:∀ k,N<=k->Yi.t k ys4 (n3)=some n4) (h1:n4<=4611686018427387904) {k:Nat} (hk:N<=k) (hk0:Fuel k):HStep (λxs L v=>Yi.l0 k (Yi.f k) xs (λz0=>some z0) L v) u [.int .i64 (u),.str (Yg.v (u+1)),.int .i64 (u+1+1),.sl ys3,.sl ys4] (n4):=by
 intro xs i i0 i1 hl hr L
 simp(disch:=first|assumption|omega) only[Yi.l0,atR,rdQ,Q.ask,ZY i1,cond_true,cond_false,Zck i0 i1,hr,Z4,Z5,ZaQ,ZaV,Zbl,Zan,Z9,Yg.fv,strEq_self,bne_self_eq_false,beq_self_eq_true,Bool.not_true,Ym.f_of (hh3 k hk0),ZZ (show ¬ n3<0 by omega),Yi.f_of (hh4 k hk),ZZ (show ¬ n4<0 by omega)]
set_option maxRecDepth 100000 in
theorem markVal {B:Nat} (hB:B<=1099511627776) (h:Nat):∀ {xs:LD} {n:Int},xs.length<=B->(∀ r∈xs,Y0 B h r)->0<=n->n+Zu xs<=4611686018427387904->Tm (λk=>big+h+1<=k) (λk=>Yj.t k (Zc xs) n) (λz=>∃ ys,z.2=Zc ys/\ys.length=xs.length/\z.1=n+Zu xs/\∀ k,big+h+1<=k->Yi.t k ys n=some z.1):=by
 have hb:big=2^64:=rfl
 induction h using Nat.strongRecOn with
 |ind h ih=>
 intro xs n hl g h0 h1
 have key:Tm (λk=>big+h<=k) (λk=>Yj.g k (Zc xs) n (λz0 z1=>some (z0,z1))) (λz=>∃ ys,z.2=Zc ys/\ys.length=xs.length/\z.1=n+Zu xs/\HeldL (λu r u'=>∀ k,big+h<=k->HStep (λxs L v=>Yi.l0 k (Yi.f k) xs (λz0=>some z0) L v) u r u') n ys z.1):=by
  unfold Yj.g Yj.body
  refine Tm.loop (okk:=λk=>big+h<=k) (p:=λk=>k) (λi hi=>by omega) (b:=λk=>Yj.l0 k (Yj.f k) (λz0 z1=>some (z0,z1))) (λv=>match v with|(u,i,tab)=>((xs.length:Int)-i).toNat) (λv=>match v with|(u,i,tab)=>0<=i/\i<=xs.length/\∃ done:LD,done.length=i.toNat/\tab=Zc done++Zc (xs.drop i.toNat)/\u=n+Zu (xs.take i.toNat)/\HeldL (λu r u'=>∀ k,big+h<=k->HStep (λxs L v=>Yi.l0 k (Yi.f k) xs (λz0=>some z0) L v) u r u') n done u) ?_ ?_ ?_
  ·rintro⟨u,i,tab⟩ hI
   simp only[] at hI⊢
   omega
  ·exact⟨by omega,by omega,[],rfl,by simp[Zc],by simp[Zu],.nil⟩
  ·rintro⟨u,i,tab⟩ hI L hL
   simp only[] at hI
   obtain⟨i0,i1,done,hd,rfl,hu,hH⟩:=hI
   have hA:(Zc done).length=i.toNat:=by rw[ZS,hd]
   have hT:(Zc done++Zc (xs.drop i.toNat)).length=xs.length:=by rw[List.length_append,hA,ZS,List.length_drop];omega
   simp only[Yj.l0]
   refine Tm.ite (λh4=>?_) (λh4=>?_)
   ·simp only[decide_eq_true_eq,hT] at h4
    have hx:=gR_at i0 h4
    obtain⟨h',hh',c0,c1,c2,c3,c4,e,k3,l4,k4⟩:∃ h',h=h'+1/\∃ c0 c1 c2 c3 c4,gR xs i=[.int .i64 c0,.str c1,.int .i64 c2,.sl c3,.sl c4]/\ZB RS B c3/\c4.length<=B/\∀ r∈c4,Y0 B h' r:=by
     have:=g _ (gR_mem i0 h4)
     generalize gR xs i=r at this
     cases this with
     |mk c0 c1 c2 c3 c4 w0 g1 w2 g3 l4 g4=>exact⟨_,rfl,_,_,_,_,_,rfl,g3,l4,g4⟩
    rw[e] at hx
    have hdr:=drop_at i0 hx
    have hw:=wt_take i0 hx
    simp only[ZbY,wtD] at hw
    have hs:=wt_split xs (i+1).toNat
    rw[hdr] at hT⊢
    simp only[Zc,ZN,deepD] at hT⊢
    have hT2:=hT
    simp only[List.length_append,List.length_cons] at hT2
    refine Tm.guard (by first|decide|(simp only[List.length_modify,List.length_append,List.length_cons];omega)) ?_
    refine Tm.guard (by first|decide|(simp only[List.length_modify,List.length_append,List.length_cons];omega)) ?_
    try simp(disch:=omega) only[Z9]
    refine Yg.tm (B:=big) (λi hi=>by have:=hi.1;omega) (Tm.at (ok:=Fuel) (v:=Yg.v _) (λk hk=>Yg.tv (by omega) hk)) (λy hy=>?_)
    subst hy
    refine Tm.guard (by first|decide|(simp only[List.length_modify,List.length_append,List.length_cons];omega)) ?_
    refine Tm.guard (by first|decide|(simp only[List.length_modify,List.length_append,List.length_cons];omega)) ?_
    refine Tm.guard (by first|decide|(simp only[List.length_modify,List.length_append,List.length_cons];omega)) ?_
    refine Tm.guard (by first|decide|(simp only[List.length_modify,List.length_append,List.length_cons];omega)) ?_
    refine Tm.guard (by first|decide|(simp only[List.length_modify,List.length_append,List.length_cons];omega)) ?_
    try simp only[modify_mid hA,atNat_mid hA,Zs,List.take_zero,List.take_succ_cons,List.drop_succ_cons,List.drop_zero,List.nil_append,List.cons_append,List.length_cons,List.length_nil,Nat.zero_add,Nat.reduceAdd,List.set_cons_succ,List.set_cons_zero]
    refine Tm.uncons ?_
    refine Tm.cOwn ?_
    try simp(disch:=omega) only[Z9]
    refine Yl.tm (B:=big) (λi hi=>by have:=hi.1;omega) (Yl.T hB k3 (by omega) (by omega)) (λy3 t3 hy=>?_)
    obtain⟨ys3,et3,el3,en3,hh3⟩:=hy
    simp only[] at et3 en3 hh3
    subst et3 en3
    refine Tm.guard (by first|decide|(simp only[List.length_modify,List.length_append,List.length_cons];omega)) ?_
    try simp only[modify_mid hA,atNat_mid hA,Zs,List.take_zero,List.take_succ_cons,List.drop_succ_cons,List.drop_zero,List.nil_append,List.cons_append,List.length_cons,List.length_nil,Nat.zero_add,Nat.reduceAdd,List.set_cons_succ,List.set_cons_zero]
    refine Tm.uncons ?_
    refine Tm.cOwn ?_
    try simp(disch:=omega) only[Z9]
    refine Yj.tm (B:=big+h'+1) (λi hi=>by have:=hi.1;omega) (ih h' (by omega) l4 k4 (by omega) (by omega)) (λy4 t4 hy=>?_)
    obtain⟨ys4,et4,el4,en4,hh4⟩:=hy
    simp only[] at et4 en4 hh4
    subst et4 en4
    try simp(disch:=omega) only[Z9]
    try simp only[modify_mid hA,Zs,List.take_zero,List.take_succ_cons,List.drop_succ_cons,List.drop_zero,List.nil_append,List.cons_append,List.length_cons,List.length_nil,Nat.zero_add,Nat.reduceAdd,List.set_cons_succ,List.set_cons_zero]
    refine hL (_,_,_) ⟨by omega,by omega,done++[[.int .i64 (u),.str (Yg.v (u+1)),.int .i64 (u+1+1),.sl ys3,.sl ys4]],by simp only[List.length_append,List.length_cons,List.length_nil];omega,?_,by omega,HeldL.snoc hH (λk hk=>Yi.step (by omega) (by omega) hh3 (by omega) hh4 (by omega) (by omega) (by unfold Fuel;omega))⟩ (by simp only[];omega)
    rw[Zbb]
    simp only[Zc,ZN,deepD,List.append_assoc,List.cons_append,List.nil_append]
   ·simp only[decide_eq_false_iff_not,hT] at h4
    refine Tm.ret ⟨done,?_,by omega,?_,hH⟩
    ·rw[List.drop_eq_nil_of_le (by omega)]
     simp only[Zc,List.append_nil]
    ·rw[List.take_of_length_le (by omega)] at hu
     exact hu
 refine Tm.succ (g:=λk=>Yj.g k (Zc xs) n (λz0 z1=>some (z0,z1))) (λk=>Yj.t_succ k (Zc xs) n) ?_
 refine key.mono λz hz=>?_
 obtain⟨ys,e1,e2,e3,hH⟩:=hz
 refine⟨ys,e1,e2,e3,λk hk=>?_⟩
 cases k with
 |zero=>omega
 |succ k=>
  rw[Yi.t_succ]
  unfold Yi.g Yi.body
  exact held_run (b:=λxs L v=>Yi.l0 k (Yi.f k) xs (λz0=>some z0) L v) (by omega) (hH.mono λ_ _ _ h=>h k (by omega)) (by omega) (λL=>by simp[Yi.l0,atR,rdQ,Q.ask])
theorem Yj.T {B:Nat} (hB:B<=1099511627776) {xs:LD} {n:Int} (g:ZB Yo B xs) (h0:0<=n) (h1:n+Zu xs<=4611686018427387904):Tm (Zai 1) (λk=>Yj.t k (Zc xs) n) (λz=>∃ ys,z.2=Zc ys/\ys.length=xs.length/\z.1=n+Zu xs/\∀ k,(Zai 1) k->Yi.t k ys n=some z.1):=by
 have hb:big=2^64:=rfl
 have h2:lv 1=2^65:=rfl
 obtain⟨H,hH⟩:∃ H:Nat,H=1099511627776:=⟨_,rfl⟩
 have g':∀ x∈xs,Y0 B H x:=λx hx=>by
  obtain⟨h,hh,hx⟩:=g.2 x hx
  exact hx.mono (by have:=hh hB;omega)
 have hN:big+H+1<=lv 1:=by omega
 refine((markVal hB H g.1 g' h0 h1).up hN).mono λz hz=>?_
 obtain⟨ys,e1,e2,e3,hh⟩:=hz
 exact⟨ys,e1,e2,e3,λk hk=>hh k (Nat.le_trans hN hk)⟩
theorem YP.f_of {β:Type} {k a0 a1 z0} (h:YP.t k a0 a1=some z0) (K:Int->Option β):YP.f k a0 a1 K=K z0:=by unfold YP.f;rw[h];rfl
set_option maxRecDepth 100000 in
set_option maxHeartbeats 8000000 in
theorem YP.step {u:Int} {ys6:LD} {n6:Int} {ys10:LD} {n10:Int} {ys11:LD} {n11:Int} {ys15:LD} {n15:Int} {ys16:LD} {n16:Int} (h0:0<=u) (hn6:u+1+1+1+1+1+1<=n6) (hh6:∀ k,Fuel k->Ym.t k ys6 (u+1+1+1+1+1+1)=some n6) (hn10:n6+1+1+1<=n10) (hh10:∀ k,Fuel k->Ym.t k ys10 (n6+1+1+1)=some n10) (hn11:n10<=n11) (hh11:∀ k,(Zai 1) k->Yi.t k ys11 (n10)=some n11) (hn15:n11+1+1+1<=n15) (hh15:∀ k,Fuel k->Ym.t k ys15 (n11+1+1+1)=some n15) (hn16:n15<=n16) (hh16:∀ k,(Zai 1) k->Yi.t k ys16 (n15)=some n16) (h1:n16<=4611686018427387904) {k:Nat} (hk:(Zai 1) k):HStep (λxs L v=>YP.l0 k xs (λz0=>some z0) L v) u [.int .i64 (u),.str (Yg.v (u+1)),.int .i64 (u+1+1),.int .i64 (u+1+1+1),.int .i64 (u+1+1+1+1),.bool (Int.tmod (u+1+1+1+1+1) 3==0),.sl ys6,.int .i64 (n6),.str (Yg.v (n6+1)),.int .i64 (n6+1+1),.sl ys10,.sl ys11,.int .i64 (n11),.str (Yg.v (n11+1)),.int .i64 (n11+1+1),.sl ys15,.sl ys16] (n16):=by
 have hk0:Fuel k:=up0 hk
 intro xs i i0 i1 hl hr L
 simp(maxSteps:=4000000) (disch:=first|assumption|omega) only[YP.l0,atR,rdQ,Q.ask,ZY i1,cond_true,cond_false,Zck i0 i1,hr,Z4,Z5,ZaQ,ZaV,Zbl,Zan,Z9,Yg.fv,strEq_self,bne_self_eq_false,beq_self_eq_true,Bool.not_true,ZH (show(3:Int)≠0 by decide),Ym.f_of (hh6 k (up0 hk)),ZZ (show ¬ n6<0 by omega),Ym.f_of (hh10 k (up0 hk)),ZZ (show ¬ n10<0 by omega),Yi.f_of (hh11 k hk),ZZ (show ¬ n11<0 by omega),Ym.f_of (hh15 k (up0 hk)),ZZ (show ¬ n15<0 by omega),Yi.f_of (hh16 k hk),ZZ (show ¬ n16<0 by omega)]
set_option maxRecDepth 100000 in
set_option maxHeartbeats 8000000 in
theorem YV.T {B:Nat} (hB:B<=1099511627776) {xs:LD} {n:Int} (g:ZB Ya B xs) (h0:0<=n) (h1:n+Zu xs<=4611686018427387904):Tm (Zai 1) (λk=>YV.t k (Zc xs) n) (λz=>∃ ys,z.2=Zc ys/\ys.length=xs.length/\z.1=n+Zu xs/\∀ k,(Zai 1) k->YP.t k ys n=some z.1):=by
 have hb:big=2^64:=rfl
 have hl:=g.1
 have key:Tm (Zai 1) (λk=>YV.t k (Zc xs) n) (λz=>∃ ys,z.2=Zc ys/\ys.length=xs.length/\z.1=n+Zu xs/\HeldL (λu r u'=>∀ k,(Zai 1) k->HStep (λxs L v=>YP.l0 k xs (λz0=>some z0) L v) u r u') n ys z.1):=by
  unfold YV.t YV.g
  refine Tm.loop (okk:=(Zai 1)) (p:=λk=>k) (λi hi=>up0 hi) (b:=λk=>YV.l0 k (λz0 z1=>some (z0,z1))) (λv=>match v with|(u,i,tab)=>((xs.length:Int)-i).toNat) (λv=>match v with|(u,i,tab)=>0<=i/\i<=xs.length/\∃ done:LD,done.length=i.toNat/\tab=Zc done++Zc (xs.drop i.toNat)/\u=n+Zu (xs.take i.toNat)/\HeldL (λu r u'=>∀ k,(Zai 1) k->HStep (λxs L v=>YP.l0 k xs (λz0=>some z0) L v) u r u') n done u) ?_ ?_ ?_
  ·rintro⟨u,i,tab⟩ hI
   simp only[] at hI⊢
   omega
  ·exact⟨by omega,by omega,[],rfl,by simp[Zc],by simp[Zu],.nil⟩
  ·rintro⟨u,i,tab⟩ hI L hL
   simp only[] at hI
   obtain⟨i0,i1,done,hd,rfl,hu,hH⟩:=hI
   have hA:(Zc done).length=i.toNat:=by rw[ZS,hd]
   have hT:(Zc done++Zc (xs.drop i.toNat)).length=xs.length:=by rw[List.length_append,hA,ZS,List.length_drop];omega
   simp only[YV.l0]
   refine Tm.ite (λh4=>?_) (λh4=>?_)
   ·simp only[decide_eq_true_eq,hT] at h4
    have hx:=gR_at i0 h4
    obtain⟨c0,c1,c2,c3,c4,c5,c6,c7,c8,c9,c10,c11,c12,c13,c14,c15,c16,e,k0,k1,k2,k3,k4,k6,k7,k8,k9,k10,k11,k12,k13,k14,k15,k16,_⟩:=(g.2 _ (gR_mem i0 h4)).open
    rw[e] at hx
    have hdr:=drop_at i0 hx
    have hw:=wt_take i0 hx
    simp only[ZbY,wtD] at hw
    have hs:=wt_split xs (i+1).toNat
    rw[hdr] at hT⊢
    simp only[Zc,ZN,deepD] at hT⊢
    have hT2:=hT
    simp only[List.length_append,List.length_cons] at hT2
    refine Tm.guard (by first|decide|(simp only[List.length_modify,List.length_append,List.length_cons];omega)) ?_
    refine Tm.guard (by first|decide|(simp only[List.length_modify,List.length_append,List.length_cons];omega)) ?_
    try simp(disch:=omega) only[Z9]
    refine Yg.tm (λi hi=>up0 hi.1) (Tm.at (ok:=Fuel) (v:=Yg.v _) (λk hk=>Yg.tv (by omega) hk)) (λy hy=>?_)
    subst hy
    refine Tm.guard (by first|decide|(simp only[List.length_modify,List.length_append,List.length_cons];omega)) ?_
    refine Tm.guard (by first|decide|(simp only[List.length_modify,List.length_append,List.length_cons];omega)) ?_
    refine Tm.guard (by first|decide|(simp only[List.length_modify,List.length_append,List.length_cons];omega)) ?_
    refine Tm.guard (by first|decide|(simp only[List.length_modify,List.length_append,List.length_cons];omega)) ?_
    refine Tm.guard (by first|decide|(simp only[List.length_modify,List.length_append,List.length_cons];omega)) ?_
    refine Tm.guard (by first|decide|(simp only[List.length_modify,List.length_append,List.length_cons];omega)) ?_
    refine Tm.guard (by first|decide|(simp only[List.length_modify,List.length_append,List.length_cons];omega)) ?_
    refine Tm.guard (by first|decide|(simp only[List.length_modify,List.length_append,List.length_cons];omega)) ?_
    refine Tm.guard (by first|decide|(simp only[List.length_modify,List.length_append,List.length_cons];omega)) ?_
    refine Tm.guard (by first|decide|(simp only[List.length_modify,List.length_append,List.length_cons];omega)) ?_
    refine Tm.guard (by first|decide|(simp only[List.length_modify,List.length_append,List.length_cons];omega)) ?_
    refine Tm.guard (by first|decide|(simp only[List.length_modify,List.length_append,List.length_cons];omega)) ?_
    try simp only[modify_mid hA,atNat_mid hA,Zs,List.take_zero,List.take_succ_cons,List.drop_succ_cons,List.drop_zero,List.nil_append,List.cons_append,List.length_cons,List.length_nil,Nat.zero_add,Nat.reduceAdd,List.set_cons_succ,List.set_cons_zero]
    refine Tm.uncons ?_
    refine Tm.cOwn ?_
    try simp(disch:=omega) only[Z9]
    refine Yl.tm (λi hi=>up0 hi.1) (Yl.T hB k6 (by omega) (by omega)) (λy6 t6 hy=>?_)
    obtain⟨ys6,et6,el6,en6,hh6⟩:=hy
    simp only[] at et6 en6 hh6
    subst et6 en6
    refine Tm.guard (by first|decide|(simp only[List.length_modify,List.length_append,List.length_cons];omega)) ?_
    refine Tm.guard (by first|decide|(simp only[List.length_modify,List.length_append,List.length_cons];omega)) ?_
    try simp(disch:=omega) only[Z9]
    refine Yg.tm (λi hi=>up0 hi.1) (Tm.at (ok:=Fuel) (v:=Yg.v _) (λk hk=>Yg.tv (by omega) hk)) (λy hy=>?_)
    subst hy
    refine Tm.guard (by first|decide|(simp only[List.length_modify,List.length_append,List.length_cons];omega)) ?_
    refine Tm.guard (by first|decide|(simp only[List.length_modify,List.length_append,List.length_cons];omega)) ?_
    refine Tm.guard (by first|decide|(simp only[List.length_modify,List.length_append,List.length_cons];omega)) ?_
    refine Tm.guard (by first|decide|(simp only[List.length_modify,List.length_append,List.length_cons];omega)) ?_
    refine Tm.guard (by first|decide|(simp only[List.length_modify,List.length_append,List.length_cons];omega)) ?_
    try simp only[modify_mid hA,atNat_mid hA,Zs,List.take_zero,List.take_succ_cons,List.drop_succ_cons,List.drop_zero,List.nil_append,List.cons_append,List.length_cons,List.length_nil,Nat.zero_add,Nat.reduceAdd,List.set_cons_succ,List.set_cons_zero]
    refine Tm.uncons ?_
    refine Tm.cOwn ?_
    try simp(disch:=omega) only[Z9]
    refine Yl.tm (λi hi=>up0 hi.1) (Yl.T hB k10 (by omega) (by omega)) (λy10 t10 hy=>?_)
    obtain⟨ys10,et10,el10,en10,hh10⟩:=hy
    simp only[] at et10 en10 hh10
    subst et10 en10
    refine Tm.guard (by first|decide|(simp only[List.length_modify,List.length_append,List.length_cons];omega)) ?_
    try simp only[modify_mid hA,atNat_mid hA,Zs,List.take_zero,List.take_succ_cons,List.drop_succ_cons,List.drop_zero,List.nil_append,List.cons_append,List.length_cons,List.length_nil,Nat.zero_add,Nat.reduceAdd,List.set_cons_succ,List.set_cons_zero]
    refine Tm.uncons ?_
    refine Tm.cOwn ?_
    try simp(disch:=omega) only[Z9]
    refine Yj.tm (λi hi=>hi.1) (Yj.T hB k11 (by omega) (by omega)) (λy11 t11 hy=>?_)
    obtain⟨ys11,et11,el11,en11,hh11⟩:=hy
    simp only[] at et11 en11 hh11
    subst et11 en11
    refine Tm.guard (by first|decide|(simp only[List.length_modify,List.length_append,List.length_cons];omega)) ?_
    refine Tm.guard (by first|decide|(simp only[List.length_modify,List.length_append,List.length_cons];omega)) ?_
    try simp(disch:=omega) only[Z9]
    refine Yg.tm (λi hi=>up0 hi.1) (Tm.at (ok:=Fuel) (v:=Yg.v _) (λk hk=>Yg.tv (by omega) hk)) (λy hy=>?_)
    subst hy
    refine Tm.guard (by first|decide|(simp only[List.length_modify,List.length_append,List.length_cons];omega)) ?_
    refine Tm.guard (by first|decide|(simp only[List.length_modify,List.length_append,List.length_cons];omega)) ?_
    refine Tm.guard (by first|decide|(simp only[List.length_modify,List.length_append,List.length_cons];omega)) ?_
    refine Tm.guard (by first|decide|(simp only[List.length_modify,List.length_append,List.length_cons];omega)) ?_
    refine Tm.guard (by first|decide|(simp only[List.length_modify,List.length_append,List.length_cons];omega)) ?_
    try simp only[modify_mid hA,atNat_mid hA,Zs,List.take_zero,List.take_succ_cons,List.drop_succ_cons,List.drop_zero,List.nil_append,List.cons_append,List.length_cons,List.length_nil,Nat.zero_add,Nat.reduceAdd,List.set_cons_succ,List.set_cons_zero]
    refine Tm.uncons ?_
    refine Tm.cOwn ?_
    try simp(disch:=omega) only[Z9]
    refine Yl.tm (λi hi=>up0 hi.1) (Yl.T hB k15 (by omega) (by omega)) (λy15 t15 hy=>?_)
    obtain⟨ys15,et15,el15,en15,hh15⟩:=hy
    simp only[] at et15 en15 hh15
    subst et15 en15
    refine Tm.guard (by first|decide|(simp only[List.length_modify,List.length_append,List.length_cons];omega)) ?_
    try simp only[modify_mid hA,atNat_mid hA,Zs,List.take_zero,List.take_succ_cons,List.drop_succ_cons,List.drop_zero,List.nil_append,List.cons_append,List.length_cons,List.length_nil,Nat.zero_add,Nat.reduceAdd,List.set_cons_succ,List.set_cons_zero]
    refine Tm.uncons ?_
    refine Tm.cOwn ?_
    try simp(disch:=omega) only[Z9]
    refine Yj.tm (λi hi=>hi.1) (Yj.T hB k16 (by omega) (by omega)) (λy16 t16 hy=>?_)
    obtain⟨ys16,et16,el16,en16,hh16⟩:=hy
    simp only[] at et16 en16 hh16
    subst et16 en16
    try simp(disch:=omega) only[Z9]
    try simp only[modify_mid hA,Zs,List.take_zero,List.take_succ_cons,List.drop_succ_cons,List.drop_zero,List.nil_append,List.cons_append,List.length_cons,List.length_nil,Nat.zero_add,Nat.reduceAdd,List.set_cons_succ,List.set_cons_zero]
    refine hL (_,_,_) ⟨by omega,by omega,done++[[.int .i64 (u),.str (Yg.v (u+1)),.int .i64 (u+1+1),.int .i64 (u+1+1+1),.int .i64 (u+1+1+1+1),.bool (Int.tmod (u+1+1+1+1+1) 3==0),.sl ys6,.int .i64 (u+1+1+1+1+1+1+(Zu c6:Int)),.str (Yg.v (u+1+1+1+1+1+1+(Zu c6:Int)+1)),.int .i64 (u+1+1+1+1+1+1+(Zu c6:Int)+1+1),.sl ys10,.sl ys11,.int .i64 (u+1+1+1+1+1+1+(Zu c6:Int)+1+1+1+(Zu c10:Int)+(Zu c11:Int)),.str (Yg.v (u+1+1+1+1+1+1+(Zu c6:Int)+1+1+1+(Zu c10:Int)+(Zu c11:Int)+1)),.int .i64 (u+1+1+1+1+1+1+(Zu c6:Int)+1+1+1+(Zu c10:Int)+(Zu c11:Int)+1+1),.sl ys15,.sl ys16]],by simp only[List.length_append,List.length_cons,List.length_nil];omega,?_,by omega,HeldL.snoc hH (λk hk=>YP.step (by omega) (by omega) hh6 (by omega) hh10 (by omega) hh11 (by omega) hh15 (by omega) hh16 (by omega) hk)⟩ (by simp only[];omega)
    rw[Zbb]
    simp only[Zc,ZN,deepD,List.append_assoc,List.cons_append,List.nil_append]
   ·simp only[decide_eq_false_iff_not,hT] at h4
    refine Tm.ret ⟨done,?_,by omega,?_,hH⟩
    ·rw[List.drop_eq_nil_of_le (by omega)]
     simp only[Zc,List.append_nil]
    ·rw[List.take_of_length_le (by omega)] at hu
     exact hu
 obtain⟨v,⟨ys,e1,e2,e3,hH⟩,h2⟩:=key
 exact⟨v,⟨ys,e1,e2,e3,λk hk=>by
  have hk0:Fuel k:=up0 hk
  unfold YP.t YP.g
  exact held_run (b:=λxs L v=>YP.l0 k xs (λz0=>some z0) L v) (by omega) (hH.mono λ_ _ _ h=>h k hk) (by omega) (λL=>by simp[YP.l0,atR,rdQ,Q.ask])⟩,h2⟩
theorem YB.f_of {β:Type} {k a0 a1 z0} (h:YB.t k a0 a1=some z0) (K:Int->Option β):YB.f k a0 a1 K=K z0:=by unfold YB.f;rw[h];rfl
set_option maxRecDepth 100000 in
set_option maxHeartbeats 8000000 in
theorem YB.step {u:Int} {ys8:LD} {n8:Int} {ys12:LD} {n12:Int} {ys13:LD} {n13:Int} {ys17:LD} {n17:Int} {ys18:LD} {n18:Int} (h0:0<=u) (hn8:u+1+1+1+1+1+1+1+1<=n8) (hh8:∀ k,Fuel k->Ym.t k ys8 (u+1+1+1+1+1+1+1+1)=some n8) (hn12:n8+1+1+1<=n12) (hh12:∀ k,Fuel k->Ym.t k ys12 (n8+1+1+1)=some n12) (hn13:n12<=n13) (hh13:∀ k,(Zai 1) k->Yi.t k ys13 (n12)=some n13) (hn17:n13+1+1+1<=n17) (hh17:∀ k,Fuel k->Ym.t k ys17 (n13+1+1+1)=some n17) (hn18:n17<=n18) (hh18:∀ k,(Zai 1) k->Yi.t k ys18 (n17)=some n18) (h1:n18<=4611686018427387904) {k:Nat} (hk:(Zai 1) k):HStep (λxs L v=>YB.l0 k xs (λz0=>some z0) L v) u [.int .i64 (u),.bool (Int.tmod (u+1) 3==0),.int .i64 (u+1+1),.str (Yg.v (u+1+1+1)),.int .i64 (u+1+1+1+1),.int .i64 (u+1+1+1+1+1),.int .i64 (u+1+1+1+1+1+1),.bool (Int.tmod (u+1+1+1+1+1+1+1) 3==0),.sl ys8,.int .i64 (n8),.str (Yg.v (n8+1)),.int .i64 (n8+1+1),.sl ys12,.sl ys13,.int .i64 (n13),.str (Yg.v (n13+1)),.int .i64 (n13+1+1),.sl ys17,.sl ys18] (n18):=by
 have hk0:Fuel k:=up0 hk
 intro xs i i0 i1 hl hr L
 simp(maxSteps:=4000000) (disch:=first|assumption|omega) only[YB.l0,atR,rdQ,Q.ask,ZY i1,cond_true,cond_false,Zck i0 i1,hr,Z4,Z5,ZaQ,ZaV,Zbl,Zan,Z9,Yg.fv,strEq_self,bne_self_eq_false,beq_self_eq_true,Bool.not_true,ZH (show(3:Int)≠0 by decide),ZH (show(3:Int)≠0 by decide),Ym.f_of (hh8 k (up0 hk)),ZZ (show ¬ n8<0 by omega),Ym.f_of (hh12 k (up0 hk)),ZZ (show ¬ n12<0 by omega),Yi.f_of (hh13 k hk),ZZ (show ¬ n13<0 by omega),Ym.f_of (hh17 k (up0 hk)),ZZ (show ¬ n17<0 by omega),Yi.f_of (hh18 k hk),ZZ (show ¬ n18<0 by omega)]
set_option maxRecDepth 100000 in
set_option maxHeartbeats 8000000 in
theorem YD.T {B:Nat} (hB:B<=1099511627776) {xs:LD} {n:Int} (g:ZB Yb B xs) (h0:0<=n) (h1:n+Zu xs<=4611686018427387904):Tm (Zai 1) (λk=>YD.t k (Zc xs) n) (λz=>∃ ys,z.2=Zc ys/\ys.length=xs.length/\z.1=n+Zu xs/\∀ k,(Zai 1) k->YB.t k ys n=some z.1):=by
 have hb:big=2^64:=rfl
 have hl:=g.1
 have key:Tm (Zai 1) (λk=>YD.t k (Zc xs) n) (λz=>∃ ys,z.2=Zc ys/\ys.length=xs.length/\z.1=n+Zu xs/\HeldL (λu r u'=>∀ k,(Zai 1) k->HStep (λxs L v=>YB.l0 k xs (λz0=>some z0) L v) u r u') n ys z.1):=by
  unfold YD.t YD.g
  refine Tm.loop (okk:=(Zai 1)) (p:=λk=>k) (λi hi=>up0 hi) (b:=λk=>YD.l0 k (λz0 z1=>some (z0,z1))) (λv=>match v with|(u,i,tab)=>((xs.length:Int)-i).toNat) (λv=>match v with|(u,i,tab)=>0<=i/\i<=xs.length/\∃ done:LD,done.length=i.toNat/\tab=Zc done++Zc (xs.drop i.toNat)/\u=n+Zu (xs.take i.toNat)/\HeldL (λu r u'=>∀ k,(Zai 1) k->HStep (λxs L v=>YB.l0 k xs (λz0=>some z0) L v) u r u') n done u) ?_ ?_ ?_
  ·rintro⟨u,i,tab⟩ hI
   simp only[] at hI⊢
   omega
  ·exact⟨by omega,by omega,[],rfl,by simp[Zc],by simp[Zu],.nil⟩
  ·rintro⟨u,i,tab⟩ hI L hL
   simp only[] at hI
   obtain⟨i0,i1,done,hd,rfl,hu,hH⟩:=hI
   have hA:(Zc done).length=i.toNat:=by rw[ZS,hd]
   have hT:(Zc done++Zc (xs.drop i.toNat)).length=xs.length:=by rw[List.length_append,hA,ZS,List.length_drop];omega
   simp only[YD.l0]
   refine Tm.ite (λh4=>?_) (λh4=>?_)
   ·simp only[decide_eq_true_eq,hT] at h4
    have hx:=gR_at i0 h4
    obtain⟨c0,c1,c2,c3,c4,c5,c6,c7,c8,c9,c10,c11,c12,c13,c14,c15,c16,c17,c18,e,k0,k2,k3,k4,k5,k6,k8,k9,k10,k11,k12,k13,k14,k15,k16,k17,k18,_⟩:=(g.2 _ (gR_mem i0 h4)).open
    rw[e] at hx
    have hdr:=drop_at i0 hx
    have hw:=wt_take i0 hx
    simp only[ZbY,wtD] at hw
    have hs:=wt_split xs (i+1).toNat
    rw[hdr] at hT⊢
    simp only[Zc,ZN,deepD] at hT⊢
    have hT2:=hT
    simp only[List.length_append,List.length_cons] at hT2
    refine Tm.guard (by first|decide|(simp only[List.length_modify,List.length_append,List.length_cons];omega)) ?_
    refine Tm.guard (by first|decide|(simp only[List.length_modify,List.length_append,List.length_cons];omega)) ?_
    refine Tm.guard (by first|decide|(simp only[List.length_modify,List.length_append,List.length_cons];omega)) ?_
    refine Tm.guard (by first|decide|(simp only[List.length_modify,List.length_append,List.length_cons];omega)) ?_
    refine Tm.guard (by first|decide|(simp only[List.length_modify,List.length_append,List.length_cons];omega)) ?_
    refine Tm.guard (by first|decide|(simp only[List.length_modify,List.length_append,List.length_cons];omega)) ?_
    refine Tm.guard (by first|decide|(simp only[List.length_modify,List.length_append,List.length_cons];omega)) ?_
    try simp(disch:=omega) only[Z9]
    refine Yg.tm (λi hi=>up0 hi.1) (Tm.at (ok:=Fuel) (v:=Yg.v _) (λk hk=>Yg.tv (by omega) hk)) (λy hy=>?_)
    subst hy
    refine Tm.guard (by first|decide|(simp only[List.length_modify,List.length_append,List.length_cons];omega)) ?_
    refine Tm.guard (by first|decide|(simp only[List.length_modify,List.length_append,List.length_cons];omega)) ?_
    refine Tm.guard (by first|decide|(simp only[List.length_modify,List.length_append,List.length_cons];omega)) ?_
    refine Tm.guard (by first|decide|(simp only[List.length_modify,List.length_append,List.length_cons];omega)) ?_
    refine Tm.guard (by first|decide|(simp only[List.length_modify,List.length_append,List.length_cons];omega)) ?_
    refine Tm.guard (by first|decide|(simp only[List.length_modify,List.length_append,List.length_cons];omega)) ?_
    refine Tm.guard (by first|decide|(simp only[List.length_modify,List.length_append,List.length_cons];omega)) ?_
    refine Tm.guard (by first|decide|(simp only[List.length_modify,List.length_append,List.length_cons];omega)) ?_
    refine Tm.guard (by first|decide|(simp only[List.length_modify,List.length_append,List.length_cons];omega)) ?_
    refine Tm.guard (by first|decide|(simp only[List.length_modify,List.length_append,List.length_cons];omega)) ?_
    refine Tm.guard (by first|decide|(simp only[List.length_modify,List.length_append,List.length_cons];omega)) ?_
    refine Tm.guard (by first|decide|(simp only[List.length_modify,List.length_append,List.length_cons];omega)) ?_
    try simp only[modify_mid hA,atNat_mid hA,Zs,List.take_zero,List.take_succ_cons,List.drop_succ_cons,List.drop_zero,List.nil_append,List.cons_append,List.length_cons,List.length_nil,Nat.zero_add,Nat.reduceAdd,List.set_cons_succ,List.set_cons_zero]
    refine Tm.uncons ?_
    refine Tm.cOwn ?_
    try simp(disch:=omega) only[Z9]
    refine Yl.tm (λi hi=>up0 hi.1) (Yl.T hB k8 (by omega) (by omega)) (λy8 t8 hy=>?_)
    obtain⟨ys8,et8,el8,en8,hh8⟩:=hy
    simp only[] at et8 en8 hh8
    subst et8 en8
    refine Tm.guard (by first|decide|(simp only[List.length_modify,List.length_append,List.length_cons];omega)) ?_
    refine Tm.guard (by first|decide|(simp only[List.length_modify,List.length_append,List.length_cons];omega)) ?_
    try simp(disch:=omega) only[Z9]
    refine Yg.tm (λi hi=>up0 hi.1) (Tm.at (ok:=Fuel) (v:=Yg.v _) (λk hk=>Yg.tv (by omega) hk)) (λy hy=>?_)
    subst hy
    refine Tm.guard (by first|decide|(simp only[List.length_modify,List.length_append,List.length_cons];omega)) ?_
    refine Tm.guard (by first|decide|(simp only[List.length_modify,List.length_append,List.length_cons];omega)) ?_
    refine Tm.guard (by first|decide|(simp only[List.length_modify,List.length_append,List.length_cons];omega)) ?_
    refine Tm.guard (by first|decide|(simp only[List.length_modify,List.length_append,List.length_cons];omega)) ?_
    refine Tm.guard (by first|decide|(simp only[List.length_modify,List.length_append,List.length_cons];omega)) ?_
    try simp only[modify_mid hA,atNat_mid hA,Zs,List.take_zero,List.take_succ_cons,List.drop_succ_cons,List.drop_zero,List.nil_append,List.cons_append,List.length_cons,List.length_nil,Nat.zero_add,Nat.reduceAdd,List.set_cons_succ,List.set_cons_zero]
    refine Tm.uncons ?_
    refine Tm.cOwn ?_
    try simp(disch:=omega) only[Z9]
    refine Yl.tm (λi hi=>up0 hi.1) (Yl.T hB k12 (by omega) (by omega)) (λy12 t12 hy=>?_)
    obtain⟨ys12,et12,el12,en12,hh12⟩:=hy
    simp only[] at et12 en12 hh12
    subst et12 en12
    refine Tm.guard (by first|decide|(simp only[List.length_modify,List.length_append,List.length_cons];omega)) ?_
    try simp only[modify_mid hA,atNat_mid hA,Zs,List.take_zero,List.take_succ_cons,List.drop_succ_cons,List.drop_zero,List.nil_append,List.cons_append,List.length_cons,List.length_nil,Nat.zero_add,Nat.reduceAdd,List.set_cons_succ,List.set_cons_zero]
    refine Tm.uncons ?_
    refine Tm.cOwn ?_
    try simp(disch:=omega) only[Z9]
    refine Yj.tm (λi hi=>hi.1) (Yj.T hB k13 (by omega) (by omega)) (λy13 t13 hy=>?_)
    obtain⟨ys13,et13,el13,en13,hh13⟩:=hy
    simp only[] at et13 en13 hh13
    subst et13 en13
    refine Tm.guard (by first|decide|(simp only[List.length_modify,List.length_append,List.length_cons];omega)) ?_
    refine Tm.guard (by first|decide|(simp only[List.length_modify,List.length_append,List.length_cons];omega)) ?_
    try simp(disch:=omega) only[Z9]
    refine Yg.tm (λi hi=>up0 hi.1) (Tm.at (ok:=Fuel) (v:=Yg.v _) (λk hk=>Yg.tv (by omega) hk)) (λy hy=>?_)
    subst hy
    refine Tm.guard (by first|decide|(simp only[List.length_modify,List.length_append,List.length_cons];omega)) ?_
    refine Tm.guard (by first|decide|(simp only[List.length_modify,List.length_append,List.length_cons];omega)) ?_
    refine Tm.guard (by first|decide|(simp only[List.length_modify,List.length_append,List.length_cons];omega)) ?_
    refine Tm.guard (by first|decide|(simp only[List.length_modify,List.length_append,List.length_cons];omega)) ?_
    refine Tm.guard (by first|decide|(simp only[List.length_modify,List.length_append,List.length_cons];omega)) ?_
    try simp only[modify_mid hA,atNat_mid hA,Zs,List.take_zero,List.take_succ_cons,List.drop_succ_cons,List.drop_zero,List.nil_append,List.cons_append,List.length_cons,List.length_nil,Nat.zero_add,Nat.reduceAdd,List.set_cons_succ,List.set_cons_zero]
    refine Tm.uncons ?_
    refine Tm.cOwn ?_
    try simp(disch:=omega) only[Z9]
    refine Yl.tm (λi hi=>up0 hi.1) (Yl.T hB k17 (by omega) (by omega)) (λy17 t17 hy=>?_)
    obtain⟨ys17,et17,el17,en17,hh17⟩:=hy
    simp only[] at et17 en17 hh17
    subst et17 en17
    refine Tm.guard (by first|decide|(simp only[List.length_modify,List.length_append,List.length_cons];omega)) ?_
    try simp only[modify_mid hA,atNat_mid hA,Zs,List.take_zero,List.take_succ_cons,List.drop_succ_cons,List.drop_zero,List.nil_append,List.cons_append,List.length_cons,List.length_nil,Nat.zero_add,Nat.reduceAdd,List.set_cons_succ,List.set_cons_zero]
    refine Tm.uncons ?_
    refine Tm.cOwn ?_
    try simp(disch:=omega) only[Z9]
    refine Yj.tm (λi hi=>hi.1) (Yj.T hB k18 (by omega) (by omega)) (λy18 t18 hy=>?_)
    obtain⟨ys18,et18,el18,en18,hh18⟩:=hy
    simp only[] at et18 en18 hh18
    subst et18 en18
    try simp(disch:=omega) only[Z9]
    try simp only[modify_mid hA,Zs,List.take_zero,List.take_succ_cons,List.drop_succ_cons,List.drop_zero,List.nil_append,List.cons_append,List.length_cons,List.length_nil,Nat.zero_add,Nat.reduceAdd,List.set_cons_succ,List.set_cons_zero]
    refine hL (_,_,_) ⟨by omega,by omega,done++[[.int .i64 (u),.bool (Int.tmod (u+1) 3==0),.int .i64 (u+1+1),.str (Yg.v (u+1+1+1)),.int .i64 (u+1+1+1+1),.int .i64 (u+1+1+1+1+1),.int .i64 (u+1+1+1+1+1+1),.bool (Int.tmod (u+1+1+1+1+1+1+1) 3==0),.sl ys8,.int .i64 (u+1+1+1+1+1+1+1+1+(Zu c8:Int)),.str (Yg.v (u+1+1+1+1+1+1+1+1+(Zu c8:Int)+1)),.int .i64 (u+1+1+1+1+1+1+1+1+(Zu c8:Int)+1+1),.sl ys12,.sl ys13,.int .i64 (u+1+1+1+1+1+1+1+1+(Zu c8:Int)+1+1+1+(Zu c12:Int)+(Zu c13:Int)),.str (Yg.v (u+1+1+1+1+1+1+1+1+(Zu c8:Int)+1+1+1+(Zu c12:Int)+(Zu c13:Int)+1)),.int .i64 (u+1+1+1+1+1+1+1+1+(Zu c8:Int)+1+1+1+(Zu c12:Int)+(Zu c13:Int)+1+1),.sl ys17,.sl ys18]],by simp only[List.length_append,List.length_cons,List.length_nil];omega,?_,by omega,HeldL.snoc hH (λk hk=>YB.step (by omega) (by omega) hh8 (by omega) hh12 (by omega) hh13 (by omega) hh17 (by omega) hh18 (by omega) hk)⟩ (by simp only[];omega)
    rw[Zbb]
    simp only[Zc,ZN,deepD,List.append_assoc,List.cons_append,List.nil_append]
   ·simp only[decide_eq_false_iff_not,hT] at h4
    refine Tm.ret ⟨done,?_,by omega,?_,hH⟩
    ·rw[List.drop_eq_nil_of_le (by omega)]
     simp only[Zc,List.append_nil]
    ·rw[List.take_of_length_le (by omega)] at hu
     exact hu
 obtain⟨v,⟨ys,e1,e2,e3,hH⟩,h2⟩:=key
 exact⟨v,⟨ys,e1,e2,e3,λk hk=>by
  have hk0:Fuel k:=up0 hk
  unfold YB.t YB.g
  exact held_run (b:=λxs L v=>YB.l0 k xs (λz0=>some z0) L v) (by omega) (hH.mono λ_ _ _ h=>h k hk) (by omega) (λL=>by simp[YB.l0,atR,rdQ,Q.ask])⟩,h2⟩
theorem Yax.tm {ι α:Type} {ok:ι->Prop} {ψ:α->Prop} {p:ι->Nat} {B:Nat} (hp:∀ i,ok i->B<=p i) {aC aB aD aA a1 φ} (h:Tm (λk=>B<=k) (λk=>Yax.t k aC aB aD aA a1) φ) {G:ι->Int->Option α} (hG:∀ z0,φ z0->Tm ok (λi=>G i z0) ψ):Tm ok (λi=>Yax.f (p i) aC aB aD aA a1 (G i)) ψ:=bd1_tm (t:=λk=>Yax.t k aC aB aD aA a1) hp h hG
set_option maxRecDepth 100000 in
set_option maxHeartbeats 8000000 in
theorem Yap.T {B:Nat} (hB:B<=1099511627776) {c1 c2:Int} {a0 a3:LD} {n:Int} (g0:ZB Ya B a0) (g3:ZB Yb B a3) (h0:0<=n) (h1:n+Zu a0+Zu a3<=4611686018427387904):Tm (Zai 1) (λk=>Yap.t k (Zc a0) c1 c2 (Zc a3) n) (λz=>∃ ys0 ys3,z.1=n+Zu a0+Zu a3/\z.2.1=Zc ys0/\z.2.2=Zc ys3/\ys0.length=a0.length/\ys3.length=a3.length/\∀ k,(Zai 1) k->Yax.t k ys0 c1 c2 ys3 n=some z.1):=by
 unfold Yap.t Yap.g
 refine YV.tm (λi hi=>hi) (YV.T hB g0 (by omega) (by omega)) (λy0 t0 hy=>?_)
 obtain⟨ys0,et0,el0,en0,hh0⟩:=hy
 simp only[] at et0 en0 hh0
 subst et0 en0
 try refine Tm.guard (by rw[ZS,ZS];first|exact el0|exact el0.1) ?_
 refine YD.tm (λi hi=>hi) (YD.T hB g3 (by omega) (by omega)) (λy3 t3 hy=>?_)
 obtain⟨ys3,et3,el3,en3,hh3⟩:=hy
 simp only[] at et3 en3 hh3
 subst et3 en3
 try refine Tm.guard (by rw[ZS,ZS];first|exact el3|exact el3.1) ?_
 exact Tm.ret ⟨ys0,ys3,rfl,rfl,rfl,(by first|exact el0|exact el0.1),(by first|exact el3|exact el3.1),λk hk=>by
  unfold Yax.t Yax.g
  rw[YP.f_of (hh0 k hk)];simp only[ZZ (show ¬ (n+(Zu a0:Int))<0 by omega),cond_false]
  rw[YB.f_of (hh3 k hk)];simp only[ZZ (show ¬ (n+(Zu a0:Int)+(Zu a3:Int))<0 by omega),cond_false]⟩
end Go.Proofs.YtlobhlnahhjpjaaGreat
