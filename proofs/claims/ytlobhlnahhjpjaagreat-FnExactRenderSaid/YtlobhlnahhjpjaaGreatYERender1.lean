/- Printed,and by hand: the functions that FnExactRender reaches come to their end; the program's answer as the reference's. -/
import Derived.Test.YtlobhlnahhjpjaaGreatYERender0
import Derived.KernelRfl
set_option linter.unusedVariables false
set_option linter.unusedSimpArgs false
namespace Go.Proofs.YtlobhlnahhjpjaaGreat
open Go Go.T Go.Proofs
abbrev Rop:Nat->List D->Prop:=Yn
noncomputable def itemB (w:BA):Bool:=Yp.v w||decide (0<=numV w)
noncomputable def pathB (ps:LD):Bool:=(List.range ps.length).all (λi=>itemB (gS ps (i:Int) 0))&&inB ps.length 1 5
def zeroB (x0:Int) (x1:BA) (x2:Int) (x3 x4:LD):Bool:=(x0==0)&&(Zae x1 (⟨#[]⟩:BA)&&((x2==0)&&(((x3.length:Int)==0)&&((x4.length:Int)==0))))
noncomputable def opOkB (kind:Int) (ps:LD) (x0:Int) (x1:BA) (x2:Int) (x3 x4:LD):Bool:=inB kind 1 3&&(pathB ps&&(bif kind==2 then zeroB x0 x1 x2 x3 x4 else valB x0 x1 x2 x3 x4))
noncomputable def opsB (l:LD):Bool:=(List.range l.length).all (λi=>opOkB (gI l (i:Int) 0) (gL l (i:Int) 1) (gI l (i:Int) 2) (gS l (i:Int) 3) (gI l (i:Int) 4) (gL l (i:Int) 5) (gL l (i:Int) 6))&&decide ((l.length:Int)<=20)
set_option maxRecDepth 100000 in
theorem path_fv {ps:LD} (g:ZB RS lim ps) {k:Nat} (hk:Fuel k) {β:Type} (K:Bool->Option β):Yad.f k ps K=K (pathB ps):=Yad.f_of (by
 have hlim:lim=1048576:=rfl
 have hb:big=2^64:=rfl
 have hl:=g.1
 unfold Yad.t Yad.g pathB
 rw[iter_all0 (n:=ps.length) (λi=>itemB (gS ps (i:Int) 0)) (r1:=some false) (r2:=some (inB ps.length 1 5)) (by unfold Fuel at hk;omega)]
 ·cases(List.range ps.length).all λi=>itemB (gS ps (i:Int) 0)<;>rfl
 ·intro L i hi
  have hw:=(RS.get g (v:=(i:Int)) (by omega) (by omega)).2.1
  simp(disch:=omega) only[Yad.l0,atR,rdQ,Q.ask,ZY (show(i:Int)<ps.length by omega),cond_true,RS.row g,Z4,ZaQ,Zan,Z9,l4Number_fv hk]
  rw[Yp.fv hw hk]
  unfold itemB
  cases Yp.v (gS ps (i:Int) 0)<;>simp only[Bool.not_true,Bool.not_false,cond_true,cond_false,Bool.true_or,Bool.false_or]
  by_cases q:numV (gS ps (i:Int) 0)<0
  ·rw[ZY q,ZZ (show ¬ 0<=numV (gS ps (i:Int) 0) by omega)]
   rfl
  ·rw[ZZ q,ZY (show 0<=numV (gS ps (i:Int) 0) by omega)]
   rfl
 ·intro L
  simp only[Yad.l0,atR,rdQ,Q.ask,ZZ (show ¬ (ps.length:Int)<(ps.length:Int) by omega),cond_false,l1In_fv]) K
set_option maxRecDepth 100000 in
theorem patchS_fv {l:LD} (g:ZB Rop lim l) {k:Nat} (hk:Zai 1 k) {β:Type} (K:Bool->Option β):Y5.f k l K=K (opsB l):=Y5.f_of (by
 have hlim:lim=1048576:=rfl
 have hb:big=2^64:=rfl
 have hl:=g.1
 have hk0:Fuel k:=up0 hk
 unfold Y5.t Y5.g opsB
 rw[iter_all0 (n:=l.length) (λi=>opOkB (gI l (i:Int) 0) (gL l (i:Int) 1) (gI l (i:Int) 2) (gS l (i:Int) 3) (gI l (i:Int) 4) (gL l (i:Int) 5) (gL l (i:Int) 6)) (r1:=some false) (r2:=some (decide ((l.length:Int)<=20))) (by unfold Fuel at hk0;omega)]
 ·generalize List.all _ _=b
  cases b<;>rfl
 ·intro L i hi
  obtain⟨-,-,p1,-,p3,-,p5,p6,-⟩:=Yn.get g (v:=(i:Int)) (by omega) (by omega)
  have hz:∀ {β:Type} (K:Bool->Option β),YaQ.f k (gI l (i:Int) 2) (gS l (i:Int) 3) (gI l (i:Int) 4) (gL l (i:Int) 5) (gL l (i:Int) 6) K=K (zeroB (gI l (i:Int) 2) (gS l (i:Int) 3) (gI l (i:Int) 4) (gL l (i:Int) 5) (gL l (i:Int) 6)):=λ{β} K=>YaQ.f_of (by
   unfold YaQ.t YaQ.g zeroB
   generalize(gI l (i:Int) 2==0)=b1
   generalize Zae (gS l (i:Int) 3) (⟨#[]⟩:BA)=b2
   generalize(gI l (i:Int) 4==0)=b3
   generalize(((gL l (i:Int) 5).length:Int)==0)=b4
   generalize(((gL l (i:Int) 6).length:Int)==0)=b5
   cases b1<;>cases b2<;>cases b3<;>cases b4<;>cases b5<;>rfl) K
  simp(disch:=omega) only[Y5.l0,atR,rdQ,Q.ask,ZY (show(i:Int)<l.length by omega),cond_true,Yn.row g,Z4,Z5,ZaQ,Zbl,Zan,Z9,l1In_fv,path_fv p1 hk0,hz,Ybh p3 p5 p6 hk]
  unfold opOkB
  generalize inB (gI l (i:Int) 0) 1 3=b1
  generalize pathB (gL l (i:Int) 1)=b2
  generalize zeroB _ _ _ _ _=b3
  generalize valB _ _ _ _ _=b4
  cases h2:(gI l (i:Int) 0==2)<;>simp only[bne,h2,Bool.not_true,Bool.not_false,cond_true,cond_false]<;>cases b1<;>cases b2<;>cases b3<;>cases b4<;>rfl
 ·intro L
  simp only[Y5.l0,atR,rdQ,Q.ask,ZZ (show ¬ (l.length:Int)<(l.length:Int) by omega),cond_false]) K
theorem sameF_zero (N:Nat) {x0:Int} {x1:BA} {x2:Int} {x3 x4:LD}:sameF (N+1) (rowV x0 x1 x2 x3 x4) (rowV 0 (⟨#[]⟩:BA) 0 [] [])=zeroB x0 x1 x2 x3 x4:=by
 show((x0==0)&&(Zae x1 (⟨#[]⟩:BA)&&((x2==0)&&(((x3.length:Int)==0)&&(((x4.length:Int)==0)&&((List.range x3.length).all (λi=>Zae (gS x3 (i:Int) 0) (gS [] (i:Int) 0))&&(List.range x4.length).all λi=>sameF N (gR x4 (i:Int)) (gR [] (i:Int))))))))=_
 unfold zeroB
 cases h3:((x3.length:Int)==0)<;>cases h4:((x4.length:Int)==0)<;>simp only[Bool.and_false,Bool.false_and,Bool.true_and,Bool.and_true]
 have e3:x3.length=0:=by have:=eq_of_beq h3;omega
 have e4:x4.length=0:=by have:=eq_of_beq h4;omega
 rw[e3,e4]
 simp
theorem zero_same {x0:Int} {x1:BA} {x2:Int} {x3 x4:LD}:sameVB x0 x1 x2 x3 x4 0 (⟨#[]⟩:BA) 0 [] []=zeroB x0 x1 x2 x3 x4:=by
 unfold sameVB
 generalize 1099511627776=N
 exact sameF_zero N
set_option maxRecDepth 100000 in
theorem opOk_fv {kind:Int} {ps:LD} {x0:Int} {x1:BA} {x2:Int} {x3 x4:LD} (gp:ZB RS lim ps) (u1:x1.size<=lim) (u3:ZB RS lim x3) (u4:ZB Yr lim x4) {k:Nat} (hk:Zai 1 k) {β:Type} (K:Bool->Option β):Ya3.f k kind ps x0 x1 x2 x3 x4 K=K (opOkB kind ps x0 x1 x2 x3 x4):=Ya3.f_of (by
 have hlim:lim=1048576:=rfl
 have hb:big=2^64:=rfl
 have hl:=gp.1
 have hk0:Fuel k:=up0 hk
 have hi:∀ {β:Type} (K:Int->Option β),Yd.f k ps K=K (ZbV (λi=>!itemB (gS ps (i:Int) 0)) ps.length):=λ{β} K=>Yd.f_of (by
  unfold Yd.t Yd.g
  refine iter_findI (n:=ps.length) _ some (by unfold Fuel at hk0;omega) (λL i hi=>?_) (λL=>by simp[Yd.l0,atR,rdQ,Q.ask])
  have hw:=(RS.get gp (v:=(i:Int)) (by omega) (by omega)).2.1
  have h1:∀ {β:Type} (K:Bool->Option β),YaR.f k (gS ps (i:Int) 0) K=K (!itemB (gS ps (i:Int) 0)):=λ{β} K=>YaR.f_of (by
   unfold YaR.t YaR.g itemB
   have hn:∀ {β:Type} (K:Bool->Option β),YaA.f k (gS ps (i:Int) 0) K=K (decide (0<=numV (gS ps (i:Int) 0))):=λ{β} K=>YaA.f_of (by
    unfold YaA.t YaA.g
    rw[number_fv hk0]
    by_cases q:numV (gS ps (i:Int) 0)<0
    ·rw[ZY q,ZZ (show ¬ 0<=numV (gS ps (i:Int) 0) by omega)]
     rfl
    ·rw[ZZ q,ZY (show 0<=numV (gS ps (i:Int) 0) by omega)]
     rfl) K
   rw[YbA,Yp.fv hw hk0,hn]
   cases Yp.v (gS ps (i:Int) 0)<;>rfl) K
  simp(disch:=omega) only[Yd.l0,atR,rdQ,Q.ask,ZY (show(i:Int)<ps.length by omega),cond_true,RS.row gp,Z4,ZaQ,Zan,h1,Z9]) K
 have hc:∀ {β:Type} (K:Bool->Option β),Yo.f k ps K=K (!(List.range ps.length).all λi=>itemB (gS ps (i:Int) 0)):=λ{β} K=>Yo.f_of (by
  unfold Yo.t Yo.g
  rw[hi,findI_all]
  simp only[Bool.not_not]) K
 unfold Ya3.t Ya3.g opOkB pathB
 rw[within_fv,hc]
 have hs:∀ {β:Type} (K:Bool->Option β),YH.f k x0 x1 x2 x3 x4 0 (⟨#[]⟩:BA) 0 [] [] K=K (zeroB x0 x1 x2 x3 x4):=λ{β} K=>by
  rw[YH.f_of (sameVB_t u3 u4 ⟨Nat.zero_le _,λr hr=>by cases hr⟩ ⟨Nat.zero_le _,λr hr=>by cases hr⟩ hk).2,zero_same]
 simp only[hs,Ybc u1 u3 u4 hk]
 generalize(List.range ps.length).all (λi=>itemB (gS ps (i:Int) 0))=b2
 generalize inB (ps.length:Int) 1 5=b3
 generalize zeroB x0 x1 x2 x3 x4=b4
 generalize valB x0 x1 x2 x3 x4=b5
 have hk3:kind=1\/kind=2\/kind=3\/((kind==1)=false/\(kind==2)=false/\(kind==3)=false/\inB kind 1 3=false):=by
  by_cases e1:kind=1
  ·exact .inl e1
  by_cases e2:kind=2
  ·exact .inr (.inl e2)
  by_cases e3:kind=3
  ·exact .inr (.inr (.inl e3))
  refine .inr (.inr (.inr ⟨beq_eq_false_iff_ne.mpr e1,beq_eq_false_iff_ne.mpr e2,beq_eq_false_iff_ne.mpr e3,?_⟩))
  cases q:inB kind 1 3
  ·rfl
  ·unfold inB at q
   rw[Bool.and_eq_true,decide_eq_true_iff,decide_eq_true_iff] at q
   omega
 rcases hk3 with rfl|rfl|rfl|⟨e1,e2,e3,e4⟩
 ·cases b2<;>cases b3<;>cases b4<;>cases b5<;>rfl
 ·cases b2<;>cases b3<;>cases b4<;>cases b5<;>rfl
 ·cases b2<;>cases b3<;>cases b4<;>cases b5<;>rfl
 ·rw[e1,e2,e3,e4]
  cases b2<;>cases b3<;>cases b4<;>cases b5<;>rfl) K
set_option maxRecDepth 100000 in
theorem patchI_fv {l:LD} (g:ZB Rop lim l) {k:Nat} (hk:Zai 1 k) {β:Type} (K:Bool->Option β):YaF.f k l K=K (opsB l):=YaF.f_of (by
 have hlim:lim=1048576:=rfl
 have hb:big=2^64:=rfl
 have hl:=g.1
 have hk0:Fuel k:=up0 hk
 have hi:∀ {β:Type} (K:Int->Option β),Yc.f k l K=K (ZbV (λi=>!opOkB (gI l (i:Int) 0) (gL l (i:Int) 1) (gI l (i:Int) 2) (gS l (i:Int) 3) (gI l (i:Int) 4) (gL l (i:Int) 5) (gL l (i:Int) 6)) l.length):=λ{β} K=>Yc.f_of (by
  unfold Yc.t Yc.g
  refine iter_findI (n:=l.length) _ some (by unfold Fuel at hk0;omega) (λL i hi=>?_) (λL=>by simp[Yc.l0,atR,rdQ,Q.ask])
  obtain⟨-,-,p1,-,p3,-,p5,p6,-⟩:=Yn.get g (v:=(i:Int)) (by omega) (by omega)
  have h1:∀ {β:Type} (K:Bool->Option β),Yay.f k (gI l (i:Int) 0) (gL l (i:Int) 1) (gI l (i:Int) 2) (gS l (i:Int) 3) (gI l (i:Int) 4) (gL l (i:Int) 5) (gL l (i:Int) 6) K=K (!opOkB (gI l (i:Int) 0) (gL l (i:Int) 1) (gI l (i:Int) 2) (gS l (i:Int) 3) (gI l (i:Int) 4) (gL l (i:Int) 5) (gL l (i:Int) 6)):=λ{β} K=>Yay.f_of (by
   unfold Yay.t Yay.g
   rw[opOk_fv p1 p3 p5 p6 hk]) K
  simp(disch:=omega) only[Yc.l0,atR,rdQ,Q.ask,ZY (show(i:Int)<l.length by omega),cond_true,Yn.row g,Z4,Z5,ZaQ,Zbl,Zan,h1,Z9]) K
 have hc:∀ {β:Type} (K:Bool->Option β),Ym.f k l K=K (!(List.range l.length).all λi=>opOkB (gI l (i:Int) 0) (gL l (i:Int) 1) (gI l (i:Int) 2) (gS l (i:Int) 3) (gI l (i:Int) 4) (gL l (i:Int) 5) (gL l (i:Int) 6)):=λ{β} K=>Ym.f_of (by
  unfold Ym.t Ym.g
  rw[hi,findI_all]
  simp only[Bool.not_not]) K
 unfold YaF.t YaF.g opsB
 simp only[hc,Bool.not_not]
 generalize List.all _ _=b
 cases decide ((l.length:Int)<=20)<;>cases b<;>rfl) K
theorem Yu.f_of {β:Type} {k a0 a1 z0} (h:Yu.t k a0 a1=some z0) (K:Int->Option β):Yu.f k a0 a1 K=K z0:=by unfold Yu.f;rw[h];rfl
theorem YaT.f_of {β:Type} {k aB aA aC aD aE a1 z0} (h:YaT.t k aB aA aC aD aE a1=some z0) (K:Int->Option β):YaT.f k aB aA aC aD aE a1 K=K z0:=by unfold YaT.f;rw[h];rfl
abbrev mkV (c0:Int) (c1:BA) (c2:Int) (c3 c4:LD):List D:=[.int .i64 c0,.str c1,.int .i64 c2,.sl c3,.sl c4]
structure OkV (d:Nat) (r:List D):Prop where
 h:YD lim d r
 ok:Ya2 d r≠0
structure Ybm (d:Nat) (c0:Int) (c1:BA) (c2:Int) (c3 c4:LD):Prop where
 w0:(Lit.int .i64 c0).wf=true
 w1:c1.size<=lim
 w2:(Lit.int .i64 c2).wf=true
 g3:ZB RS lim c3
 g4:c4.length<=lim
 sh:Ya8 c0 c1 c2 c3 c4=true
 len:c4.length<=300
 kids:∀ x∈c4,OkV d x
theorem sumL_all {f:List D->Int} (hf:∀ r,0<=f r):∀ {rs:LD} {n:Int},1<=n->sumL f rs n≠0->∀ x∈rs,f x≠0
 |[],n,_,_,x,hx=>by cases hx
 |r::rs,n,h1,h,x,hx=>by
  simp only[sumL] at h
  split at h
  ·exact absurd rfl h
  ·rename_i hq
   rcases List.mem_cons.mp hx with rfl|hx
   ·exact λe=>hq (.inl e)
   ·exact sumL_all hf (by have:=hf r;omega) h x hx
theorem look_parts {d:Nat} {r:List D} (h:Ya2 (d+1) r≠0):Ya8 (rI r 0) (rS r 1) (rI r 2) (rL r 3) (rL r 4)=true/\(rL r 4).length<=299/\∀ x∈rL r 4,Ya2 d x≠0:=by
 simp only[Ya2] at h
 have hr:=sumL_range (f:=Ya2 d) (λr=>(Ya9 d r).1) (rs:=rL r 4) (n:=1) (by omega) (by omega)
 have ha:=sumL_all (f:=Ya2 d) (λr=>(Ya9 d r).1) (rs:=rL r 4) (n:=1) (by omega)
 cases hz:(sumL (Ya2 d) (rL r 4) 1==0)<;>rw[hz] at h
 ·have hz':=beq_eq_false_iff_ne.mp hz
  cases hs:Ya8 (rI r 0) (rS r 1) (rI r 2) (rL r 3) (rL r 4)<;>rw[hs] at h
  ·exact absurd rfl h
  ·exact⟨rfl,by have:=hr.2.2 hz';omega,ha hz'⟩
 ·exact absurd rfl h
theorem look_h:∀ {d N:Nat} {r:List D},YD lim N r->Ya2 d r≠0->YD lim d r
 |0,_,r,_,h=>absurd rfl h
 |d+1,_,_,.mk c0 c1 c2 c3 c4 k0 k1 k2 k3 k4 m4,h=>.mk c0 c1 c2 c3 c4 k0 k1 k2 k3 k4 λx hx=>look_h (m4 x hx) ((look_parts h).2.2 x hx)
theorem OkV.of {d N:Nat} {r:List D} (h:YD lim N r) (ok:Ya2 d r≠0):OkV d r:=⟨look_h h ok,ok⟩
theorem OkV.open {d:Nat} {r:List D} (h:OkV d r):∃ d' c0 c1 c2 c3 c4,d=d'+1/\r=mkV c0 c1 c2 c3 c4/\Ybm d' c0 c1 c2 c3 c4:=by
 obtain⟨hh,ok⟩:=h
 cases hh with
 |@mk d' c0 c1 c2 c3 c4 k0 k1 k2 k3 k4 m4=>
  obtain⟨q1,q2,q3⟩:=look_parts ok
  replace q2:c4.length<=299:=q2
  exact⟨d',c0,c1,c2,c3,c4,rfl,rfl,k0,k1,k2,k3,k4,q1,by omega,λx hx=>⟨m4 x hx,q3 x hx⟩⟩
section
variable {d:Nat} {c0:Int} {c1:BA} {c2:Int} {c3 c4:LD}
theorem Ybm.kg (h:Ybm d c0 c1 c2 c3 c4) (hd:d<=1000):ZB Yr lim c4:=⟨h.g4,λx hx=>⟨d,λ_=>by omega,(h.kids x hx).h⟩⟩
theorem bare_eq {s:BA} (h:Zae s Ybr=true):s=⟨#[]⟩:=by
 unfold Zae Ybr at h
 rw[beq_iff_eq,Go.Lib.toList_data,Go.Lib.toList_data] at h
 exact ByteArray.ext (Array.toList_inj.mp h)
theorem Ybm.four (h:Ybm d c0 c1 c2 c3 c4) (e:c0=4):c1=⟨#[]⟩/\c2=0/\c3=[]:=by
 have:=h.sh
 subst e
 unfold Ya8 at this
 simp only[show((4:Int)==1)=false from rfl,show((4:Int)==2)=false from rfl,show((4:Int)==3)=false from rfl,show((4:Int)==4)=true from rfl,cond_false,cond_true,Bool.and_eq_true,beq_iff_eq] at this
 exact⟨bare_eq this.2.1,this.2.2,List.length_eq_zero_iff.mp (by omega)⟩
theorem Ybm.five (h:Ybm d c0 c1 c2 c3 c4) (e:c0=5):c1=⟨#[]⟩/\c2=0/\c3.length=c4.length/\Ybn c3=true:=by
 have:=h.sh
 subst e
 unfold Ya8 at this
 simp only[show((5:Int)==1)=false from rfl,show((5:Int)==2)=false from rfl,show((5:Int)==3)=false from rfl,show((5:Int)==4)=false from rfl,show((5:Int)==5)=true from rfl,cond_false,cond_true,Bool.and_eq_true,beq_iff_eq] at this
 exact⟨bare_eq this.2.1,this.2.2,by have:=this.1.2;omega,this.1.1⟩
end
theorem findI_same {p q:Nat->Bool} {n:Nat} (h:∀ i,i<n->p i=q i):ZbV p n=ZbV q n:=by
 unfold ZbV
 have:∀ (l:List Nat),(∀ i∈l,i<n)->l.find? p=l.find? q:=by
  intro l
  induction l with
  |nil=>intro _;rfl
  |cons x l ih=>
   intro hl
   rw[List.find?_cons,List.find?_cons,h x (hl x (by simp)),ih λi hi=>hl i (by simp[hi])]
 rw[this _ λi hi=>List.mem_range.mp hi]
noncomputable def Ya7 (c0:Int) (c3 c4:LD) (w:BA):Int:=
 bif c0==5 then ZbV (λi=>Zae (gS c3 (i:Int) 0) w&&decide ((i:Int)<(c4.length:Int))) c3.length else
 bif c0==4 then(bif decide (numV w<(c4.length:Int)) then numV w else -1) else -1
theorem kidV_lt {c0:Int} {c3 c4:LD} {w:BA} (h:¬ Ya7 c0 c3 c4 w<0):∃ i:Nat,Ya7 c0 c3 c4 w=(i:Int)/\i<c4.length:=by
 unfold Ya7 at *
 cases h5:(c0==5)<;>simp only[h5,cond_true,cond_false] at h⊢
 ·cases h4:(c0==4)<;>simp only[h4,cond_true,cond_false] at h⊢
  ·omega
  ·by_cases hn:numV w<(c4.length:Int)
   ·rw[ZY hn] at h⊢
    simp only[cond_true] at h⊢
    exact⟨(numV w).toNat,by omega,by omega⟩
   ·rw[ZZ hn] at h
    exact absurd (show(-1:Int)<0 by decide) h
 ·obtain⟨q1,q2,q3,-⟩:=findI_some (by omega:0<=ZbV (λi=>Zae (gS c3 (i:Int) 0) w&&decide ((i:Int)<(c4.length:Int))) c3.length)
  simp only[Bool.and_eq_true,decide_eq_true_iff] at q2
  exact⟨_,q3.symm,by omega⟩
set_option maxRecDepth 100000 in
theorem l4Kid_fv {c0:Int} {c1:BA} {c2:Int} {c3 c4:LD} {w:BA} (g3:ZB RS lim c3) {k:Nat} (hk:Fuel k) {β:Type} (K:Int->Option β):Yac.f k c0 c1 c2 c3 c4 w K=K (Ya7 c0 c3 c4 w):=Yac.f_of (by
 have hlim:lim=1048576:=rfl
 have hb:big=2^64:=rfl
 have hl:=g3.1
 unfold Yac.t Yac.g Ya7
 cases(c0==5)<;>simp only[cond_true,cond_false]
 ·cases(c0==4)<;>simp only[cond_true,cond_false]
  rw[l4Number_fv hk]
  cases decide (numV w<(c4.length:Int))<;>rfl
 ·refine iter_findI (n:=c3.length) _ some (by unfold Fuel at hk;omega) (λL i hi=>?_) (λL=>by simp[Yac.l0,atR,rdQ,Q.ask])
  simp(disch:=omega) only[Yac.l0,atR,rdQ,Q.ask,ZY (show(i:Int)<c3.length by omega),cond_true,RS.row g3,Z4,ZaQ,Zan,Z9]
  cases Zae (gS c3 (i:Int) 0) w<;>cases decide ((i:Int)<(c4.length:Int))<;>rfl) K
theorem strEq_sym (a b:BA):Zae a b=Zae b a:=by
 unfold Zae
 rw[Bool.eq_iff_iff,beq_iff_eq,beq_iff_eq]
 exact eq_comm
set_option maxRecDepth 100000 in
theorem index_fv {c3:LD} {w:BA} (g3:ZB RS lim c3) {k:Nat} (hk:Fuel k) {β:Type} (K:Int->Option β):Yu.f k c3 w K=K (ZbV (λi=>Zae (gS c3 (i:Int) 0) w) c3.length):=Yu.f_of (by
 have hlim:lim=1048576:=rfl
 have hb:big=2^64:=rfl
 have hl:=g3.1
 unfold Yu.t Yu.g
 refine iter_findI (n:=c3.length) _ some (by unfold Fuel at hk;omega) (λL i hi=>?_) (λL=>by simp[Yu.l0,atR,rdQ,Q.ask])
 simp(disch:=omega) only[Yu.l0,atR,rdQ,Q.ask,ZY (show(i:Int)<c3.length by omega),cond_true,RS.row g3,Z4,ZaQ,Zan,Z9]
 rw[strEq_sym w]) K
theorem step_fv {c0:Int} {c1:BA} {c2:Int} {c3 c4:LD} {w:BA} (g3:ZB RS lim c3) (h5:c0=5->c3.length=c4.length) {k:Nat} (hk:Fuel k) {β:Type} (K:Int->Option β):YaT.f k c0 c1 c2 c3 c4 w K=K (Ya7 c0 c3 c4 w):=YaT.f_of (by
 unfold YaT.t YaT.g Ya7
 cases h:(c0==5)<;>simp only[cond_true,cond_false]
 ·cases(c0==4)<;>simp only[cond_true,cond_false]
  rw[number_fv hk]
  rcases numV_sign (s:=w) with q|q
  ·rw[q,ZY (show(-1:Int)<0 by omega),ZY (show(-1:Int)<(c4.length:Int) by omega)]
   rfl
  ·rw[ZZ (show ¬ numV w<0 by omega)]
   cases decide (numV w<(c4.length:Int))<;>rfl
 ·rw[index_fv g3 hk]
  have:=h5 (eq_of_beq h)
  exact congrArg some (findI_same λi hi=>by rw[ZY (show(i:Int)<(c4.length:Int) by omega),Bool.and_true])) K
noncomputable def Ybf:LD->List D->Option (List D)
 |[],v=>some v
 |p::ps,v=>bif decide (Ya7 (rI v 0) (rL v 3) (rL v 4) (rS p 0)<0) then none else Ybf ps (gR (rL v 4) (Ya7 (rI v 0) (rL v 3) (rL v 4) (rS p 0)))
noncomputable def outV (o:Option (List D)):Int×BA×Int×LD×LD×Bool:=match o with|some r=>(rI r 0,rS r 1,rI r 2,rL r 3,rL r 4,true)|none=>(0,⟨#[]⟩,0,[],[],false)
noncomputable def outC (o:Option (List D)):Int×BA×Int×LC×LC×Bool:=match o with|some r=>(rI r 0,rS r 1,rI r 2,Zc (rL r 3),Zc (rL r 4),true)|none=>(0,⟨#[]⟩,0,[],[],false)
theorem reach_ok:∀ {ps:LD} {d:Nat} {v r:List D},OkV d v->Ybf ps v=some r->∃ d',d'<=d/\OkV d' r
 |[],d,v,r,h,e=>by unfold Ybf at e;injection e with e;subst e;exact⟨d,Nat.le_refl _,h⟩
 |p::ps,d,v,r,h,e=>by
  unfold Ybf at e
  obtain⟨d',c0,c1,c2,c3,c4,rfl,rfl,o⟩:=h.open
  by_cases hq:Ya7 c0 c3 c4 (rS p 0)<0
  ·rw[show(decide (Ya7 (rI (mkV c0 c1 c2 c3 c4) 0) (rL (mkV c0 c1 c2 c3 c4) 3) (rL (mkV c0 c1 c2 c3 c4) 4) (rS p 0)<0))=true from ZY hq] at e
   cases e
  ·rw[show(decide (Ya7 (rI (mkV c0 c1 c2 c3 c4) 0) (rL (mkV c0 c1 c2 c3 c4) 3) (rL (mkV c0 c1 c2 c3 c4) 4) (rS p 0)<0))=false from ZZ hq] at e
   obtain⟨i,hi,hil⟩:=kidV_lt hq
   replace e:Ybf ps (gR c4 (Ya7 c0 c3 c4 (rS p 0)))=some r:=e
   rw[hi] at e
   obtain⟨d2,h1,h2⟩:=reach_ok (o.kids _ (gR_mem (xs:=c4) (v:=(i:Int)) (by omega) (by omega))) e
   exact⟨d2,by omega,h2⟩
set_option maxRecDepth 100000 in
set_option maxHeartbeats 2000000 in
theorem l4Reach_t {d:Nat} (hd:d<=1000) {c0:Int} {c1:BA} {c2:Int} {c3 c4 ps:LD} (h:OkV d (mkV c0 c1 c2 c3 c4)) (gp:ZB RS lim ps) {k:Nat} (hk:Zai 1 k):Y3.t k c0 c1 c2 c3 c4 ps=some (outV (Ybf ps (mkV c0 c1 c2 c3 c4))):=by
 have hlim:lim=1048576:=rfl
 have hb:big=2^64:=rfl
 have hl:=gp.1
 have hk0:Fuel k:=up0 hk
 unfold Y3.t Y3.g
 refine Eq.trans (iter_val (λv:Int×Int×BA×Int×LD×LD=>ps.length-v.1.toNat) (λv=>0<=v.1/\v.1<=(ps.length:Int)/\∃ e,e<=1000/\OkV e (mkV v.2.1 v.2.2.1 v.2.2.2.1 v.2.2.2.2.1 v.2.2.2.2.2)) (λv=>some (outV (Ybf (ps.drop v.1.toNat) (mkV v.2.1 v.2.2.1 v.2.2.2.1 v.2.2.2.2.1 v.2.2.2.2.2)))) ?_ k (0,c0,c1,c2,c3,c4) ⟨by simp,by simp,d,hd,h⟩ (by unfold Fuel at hk0;show ps.length-(0:Int).toNat<k;omega)) (by rfl)
 rintro⟨n,c0,c1,c2,c3,c4⟩ ⟨n0,n1,e,he,ho⟩ L hL
 replace n0:0<=n:=n0
 obtain⟨i,rfl⟩:∃ i:Nat,n=(i:Int):=⟨n.toNat,by omega⟩
 replace n1:(i:Int)<=(ps.length:Int):=n1
 replace ho:OkV e (mkV c0 c1 c2 c3 c4):=ho
 simp only[Int.toNat_natCast]
 obtain⟨e',d0,d1,d2,d3,d4,rfl,ev,o⟩:=ho.open
 injection ev with v0 ev;injection ev with v1 ev;injection ev with v2 ev;injection ev with v3 ev;injection ev with v4 ev
 injection v0 with _ v0;injection v1 with v1;injection v2 with _ v2;injection v3 with v3;injection v4 with v4
 subst v0 v1 v2 v3 v4
 by_cases hi:i<ps.length
 ·rw[List.drop_eq_getElem_cons hi]
  have hg:ps[i]=gR ps (i:Int):=by have:=gR_at (xs:=ps) (v:=(i:Int)) (by omega) (by omega);rw[Int.toNat_natCast,List.getElem?_eq_getElem hi] at this;injection this
  rw[hg]
  unfold Ybf
  simp(disch:=omega) only[Y3.l0,atR,rdQ,Q.ask,ZY (show(i:Int)<(ps.length:Int) by omega),cond_true,RS.row gp,Z4,ZaQ,Zan,l4Kid_fv o.g3 hk0]
  have ek:Ya7 (rI (mkV c0 c1 c2 c3 c4) 0) (rL (mkV c0 c1 c2 c3 c4) 3) (rL (mkV c0 c1 c2 c3 c4) 4) (rS (gR ps (i:Int)) 0)=Ya7 c0 c3 c4 (gS ps (i:Int) 0):=rfl
  have el:rL (mkV c0 c1 c2 c3 c4) 4=c4:=rfl
  rw[ek,el]
  by_cases hq:Ya7 c0 c3 c4 (gS ps (i:Int) 0)<0
  ·rw[ZY hq]
   rfl
  ·rw[ZZ hq]
   simp only[cond_false]
   obtain⟨j,hj,hjl⟩:=kidV_lt hq
   rw[hj]
   have hrow:=(Yr.get (o.kg (by omega)) (v:=(j:Int)) (by omega) (by omega)).1
   simp(disch:=omega) only[Yr.row (o.kg (by omega)),Z4,Z5,ZaQ,Zbl,Zan,Z9]
   rw[hL _ ⟨by show 0<=(i:Int)+1;omega,by show(i:Int)+1<=_;omega,e',by omega,by show OkV e' (mkV (gI c4 (j:Int) 0) (gS c4 (j:Int) 1) (gI c4 (j:Int) 2) (gL c4 (j:Int) 3) (gL c4 (j:Int) 4));rw[show mkV (gI c4 (j:Int) 0) (gS c4 (j:Int) 1) (gI c4 (j:Int) 2) (gL c4 (j:Int) 3) (gL c4 (j:Int) 4)=gR c4 (j:Int) from hrow.symm];exact o.kids _ (gR_mem (by omega) (by omega))⟩ (by show ps.length-((i:Int)+1).toNat<ps.length-(i:Int).toNat;omega)]
   show some (outV (Ybf (ps.drop ((i:Int)+1).toNat) (mkV (gI c4 (j:Int) 0) (gS c4 (j:Int) 1) (gI c4 (j:Int) 2) (gL c4 (j:Int) 3) (gL c4 (j:Int) 4))))=_
   rw[show mkV (gI c4 (j:Int) 0) (gS c4 (j:Int) 1) (gI c4 (j:Int) 2) (gL c4 (j:Int) 3) (gL c4 (j:Int) 4)=gR c4 (j:Int) from hrow.symm,show((i:Int)+1).toNat=i+1 by omega]
 ·rw[List.drop_eq_nil_of_le (by omega)]
  simp only[Y3.l0,atR,rdQ,Q.ask,ZZ (show ¬ (i:Int)<(ps.length:Int) by omega),cond_false]
  rfl
theorem Yao.f_of {β:Type} {k:Nat} {aB:Int} {aA:BA} {aC:Int} {aD aE a1:LD} {z0:Int} {z1:BA} {z2:Int} {z3 z4:LC} {z5:Bool} (h:Yao.t k aB aA aC aD aE a1=some (z0,z1,z2,z3,z4,z5)) (K:Int->BA->Int->LC->LC->Bool->Option β):Yao.f k aB aA aC aD aE a1 K=K z0 z1 z2 z3 z4 z5:=by
 unfold Yao.f
 rw[h]
theorem Yaq.f_of {β:Type} {k a0 z0} (h:Yaq.t k a0=some z0) (K:Bool->Option β):Yaq.f k a0 K=K z0:=by unfold Yaq.f;rw[h];rfl
theorem Yau.f_of {β:Type} {k a0 a1 z0} (h:Yau.t k a0 a1=some z0) (K:Bool->Option β):Yau.f k a0 a1 K=K z0:=by unfold Yau.f;rw[h];rfl
theorem Y9.f_of {β:Type} {k a0 z0} (h:Y9.t k a0=some z0) (K:Bool->Option β):Y9.f k a0 K=K z0:=by unfold Y9.f;rw[h];rfl
theorem Yh.f_of {β:Type} {k a0 a1 z0 z1} (h:Yh.t k a0 a1=some (z0,z1)) (K:Int->Bool->Option β):Yh.f k a0 a1 K=K z0 z1:=by unfold Yh.f;rw[h];rfl
def lessS (x y:List D):Bool:=strLt (rS x 0) (rS y 0)
def sameS (x y:List D):Bool:=Zae (rS x 0) (rS y 0)
theorem Ybu {x y:List D}:sameS x y=true↔(rS x 0).toList=(rS y 0).toList:=strEq_iff2
theorem orderS:Ordered lessS sameS where
 irr x y h:=by
  cases q:lessS x y
  ·rfl
  ·have q2:=Ya6.mp q
   rw[Ybu.mp h,bl_irr] at q2
   cases q2
 tri x y h1 h2:=by
  refine Ya6.mpr (bl_tri ?_ λq=>?_)
  ·cases q:Op.bytesLess (rS x 0).toList (rS y 0).toList
   ·rfl
   ·have:lessS x y=true:=Ya6.mpr q
    rw[h1] at this
    cases this
  ·have:sameS x y=true:=Ybu.mpr q
   rw[h2] at this
   cases this
 asym x y h:=by
  cases q:lessS y x
  ·rfl
  ·have:=bl_trans (Ya6.mp h) (Ya6.mp q)
   rw[bl_irr] at this
   cases this
 trans x y z h1 h2:=Ya6.mpr (bl_trans (Ya6.mp h1) (Ya6.mp h2))
 cong x y z h1 h2:=by
  have:=Ya6.mp h2
  rw[<- Ybu.mp h1] at this
  exact Ya6.mpr this
 sym x y h:=Ybu.mpr (Ybu.mp h).symm
noncomputable def lbK (c3:LD) (w:BA):Nat:=lbF lessS [.str w] c3
noncomputable def hitK (c3:LD) (w:BA):Bool:=hitF lessS sameS [.str w] c3
theorem lbK_le {c3:LD} {w:BA}:lbK c3 w<=c3.length:=(List.takeWhile_sublist _).length_le
theorem key_facts {c3:LD} (hn:Ybn c3=true) {w:BA} {i:Nat} (hi:i<c3.length):strLt (gS c3 (i:Int) 0) w=decide (i<lbK c3 w)/\Zae (gS c3 (i:Int) 0) w=(decide (i=lbK c3 w)&&hitK c3 w):=by
 have hp:c3.Pairwise (λx y=>lessS x y=true):=(names_iff.mp hn).2
 have e1:strLt (gS c3 (i:Int) 0) w=lessS c3[i] [.str w]:=by rw[<- gR_lt hi];rfl
 have e2:Zae (gS c3 (i:Int) 0) w=sameS c3[i] [.str w]:=by rw[<- gR_lt hi];rfl
 rw[e1,e2]
 rcases Nat.lt_trichotomy i (lbK c3 w) with h|h|h
 ·have hl:=lbF_below (less:=lessS) hi h
  rw[hl,ZY h,ZZ (by omega:¬ i=lbK c3 w),Bool.false_and]
  refine⟨rfl,?_⟩
  cases q:sameS c3[i] [.str w]
  ·rfl
  ·rw[orderS.irr _ _ q] at hl
   cases hl
 ·have hl:=lbF_above orderS hp hi (show lbF lessS [.str w] c3<=i by unfold lbK at h;omega)
  rw[hl,ZZ (by omega:¬ i<lbK c3 w),ZY h,Bool.true_and]
  refine⟨rfl,?_⟩
  unfold hitK hitF
  rw[show lbF lessS [.str w] c3=i from h.symm,List.getElem?_eq_getElem hi]
 ·have hl:=lbF_above orderS hp hi (show lbF lessS [.str w] c3<=i by unfold lbK at h;omega)
  rw[hl,ZZ (by omega:¬ i<lbK c3 w),ZZ (by omega:¬ i=lbK c3 w),Bool.false_and]
  refine⟨rfl,?_⟩
  cases q:sameS c3[i] [.str w]
  ·rfl
  ·have hj:lbK c3 w<c3.length:=by omega
   have h1:=List.pairwise_iff_getElem.mp hp (lbK c3 w) i hj hi h
   have h2:=lbF_above orderS hp hj (Nat.le_refl _)
   have h5:lessS c3[lbK c3 w] [.str w]=true:=by
    have:=Ya6.mp h1
    rw[Ybu.mp q] at this
    exact Ya6.mpr this
   rw[show lessS c3[lbK c3 w] [.str w]=false from h2] at h5
   cases h5
theorem key_hit {c3:LD} (g3:ZB RS lim c3) (hn:Ybn c3=true) {w:BA} (h:hitK c3 w=true):∃ hl:lbK c3 w<c3.length,c3[lbK c3 w]=[.str w]:=by
 have hl:lbK c3 w<c3.length:=by
  rcases Nat.lt_or_ge (lbK c3 w) c3.length with q|q
  ·exact q
  ·unfold hitK hitF at h
   rw[show lbF lessS [.str w] c3=lbK c3 w from rfl,List.getElem?_eq_none q] at h
   cases h
 refine⟨hl,?_⟩
 have:=(key_facts hn (w:=w) hl).2
 rw[ZY rfl,h] at this
 obtain⟨e,-⟩:=RS.get g3 (v:=(lbK c3 w:Int)) (by omega) (by omega)
 have hw:gS c3 (lbK c3 w:Int) 0=w:=by
  have h2:Zae (gS c3 (lbK c3 w:Int) 0) w=true:=this
  unfold Zae at h2
  rw[beq_iff_eq,Go.Lib.toList_data,Go.Lib.toList_data] at h2
  exact ByteArray.ext (Array.toList_inj.mp h2)
 rw[<- gR_lt hl,e,hw]
theorem cmpLess_fv {a b:BA} {k:Nat} {β:Type} (K:Bool->Option β):Yau.f k a b K=K (strLt a b):=Yau.f_of (by
 unfold Yau.t Yau.g
 have hn:∀ {x:BA} {β:Type} (K:Bool->Option β),Yaq.f k x K=K false:=λ{x β} K=>Yaq.f_of (by unfold Yaq.t Yaq.g;rw[strEq_self];rfl) K
 rw[hn]
 rfl) K
set_option maxRecDepth 100000 in
set_option maxHeartbeats 2000000 in
theorem binStr_fv {c3:LD} (g3:ZB RS lim c3) (hn:Ybn c3=true) {w:BA} {k:Nat} (hk:Fuel k) {β:Type} (K:Int->Bool->Option β):Yh.f k c3 w K=K (lbK c3 w:Int) (hitK c3 w):=Yh.f_of (by
 have hlim:lim=1048576:=rfl
 have hb:big=2^64:=rfl
 have hl:=g3.1
 have hle:=lbK_le (c3:=c3) (w:=w)
 unfold Yh.t Yh.g
 refine iter_val (λv:Int×Int=>(v.2-v.1).toNat) (λv=>0<=v.1/\v.1<=(lbK c3 w:Int)/\(lbK c3 w:Int)<=v.2/\v.2<=(c3.length:Int)) (λ_=>some ((lbK c3 w:Int),hitK c3 w)) ?_ k _ ⟨by simp,by simp,by simp;omega,by simp⟩ (by show((c3.length:Int)-0).toNat<k;unfold Fuel at hk;omega)
 rintro⟨i,j⟩ ⟨i0,i1,j0,j1⟩ L hL
 simp only[] at i0 i1 j0 j1 hL
 by_cases h:i<j
 ·obtain⟨m,hm⟩:∃ m:Nat,(i+j)/2=(m:Int):=⟨((i+j)/2).toNat,by omega⟩
  have hml:m<c3.length:=by omega
  simp only[Yh.l0,atR,rdQ,Q.ask]
  rw[ZY h]
  simp only[cond_true]
  rw[halfF (by omega) (by omega),hm,Z9 (x:=(m:Int)) (by omega) (by omega),ZH (by decide)]
  simp(disch:=omega) only[atR,rdQ,Q.ask,RS.row g3,Z4,ZaQ,Zan,cmpLess_fv]
  rw[(key_facts hn (w:=w) hml).1]
  by_cases hq:m<lbK c3 w
  ·rw[ZY hq,cond_true,Z9 (by omega) (by omega)]
   exact hL _ ⟨by show 0<=(m:Int)+1;omega,by show(m:Int)+1<=_;omega,j0,j1⟩ (by simp only[];omega)
  ·rw[ZZ hq,cond_false]
   exact hL _ ⟨i0,i1,by show _<=(m:Int);omega,by show(m:Int)<=_;omega⟩ (by simp only[];omega)
 ·obtain rfl:i=(lbK c3 w:Int):=by omega
  simp only[Yh.l0,atR,rdQ,Q.ask]
  rw[ZZ h]
  simp only[cond_false]
  by_cases hlt:lbK c3 w<c3.length
  ·have hf:=(key_facts hn (w:=w) hlt).2
   rw[ZY rfl,Bool.true_and] at hf
   have hnan:∀ {x:BA} {β:Type} (K:Bool->Option β),Y9.f k x K=K false:=λ{x β} K=>Y9.f_of (by unfold Y9.t Y9.g;rw[strEq_self];rfl) K
   rw[ZY (show(lbK c3 w:Int)<(c3.length:Int) by omega)]
   simp(disch:=omega) only[atR,rdQ,Q.ask,cond_true,RS.row g3,Z4,ZaQ,Zan,hnan,hf]
   cases hitK c3 w<;>rfl
  ·rw[ZZ (show ¬ (lbK c3 w:Int)<(c3.length:Int) by omega),cond_false]
   unfold hitK hitF
   rw[show lbF lessS [.str w] c3=lbK c3 w from rfl,List.getElem?_eq_none (by omega)]) K
def inK {α:Type} (l:List α) (n:Nat) (h:Bool) (o:α):List α:=l.take n++o::l.drop (n+bif h then 1 else 0)
noncomputable def putJ (c0:Int) (c3 c4:LD) (w:BA) (x:List D):Option (List D):=
 bif c0==4 then(bif inB (numV w) 0 c4.length then some (mkV 4 ⟨#[]⟩ 0 [] (inK c4 (numV w).toNat true x)) else none) else
 bif c0==5 then(bif Yp.v w then some (mkV 5 ⟨#[]⟩ 0 (inK c3 (lbK c3 w) (hitK c3 w) [.str w]) (inK c4 (lbK c3 w) (hitK c3 w) x)) else none) else none
noncomputable def dropR (c0:Int) (c3 c4:LD) (w:BA):Option (List D):=
 bif decide (Ya7 c0 c3 c4 w<0) then none else
 some (mkV c0 ⟨#[]⟩ 0 (bif c0==5 then c3.take (Ya7 c0 c3 c4 w).toNat++c3.drop ((Ya7 c0 c3 c4 w).toNat+1) else[]) (c4.take (Ya7 c0 c3 c4 w).toNat++c4.drop ((Ya7 c0 c3 c4 w).toNat+1)))
noncomputable def retV (v:List D) (o:Option (List D)):Int×BA×Int×LD×LD×Bool:=match o with|some r=>(rI r 0,rS r 1,rI r 2,rL r 3,rL r 4,true)|none=>(rI v 0,rS v 1,rI v 2,rL v 3,rL v 4,false)
noncomputable def retC (r:List D) (b:Bool):Int×BA×Int×LC×LC×Bool:=(rI r 0,rS r 1,rI r 2,Zc (rL r 3),Zc (rL r 4),b)
theorem rows5 {l:LD} (g:ZB Yr lim l):Zbk 5 l:=λr hr=>(g.2 r hr).len
theorem rows5_sub {l m:LD} (g:ZB Yr lim l) (h:∀ r∈m,r∈l):Zbk 5 m:=λr hr=>(g.2 r (h r hr)).len
theorem rows1 {l:LD} (g:ZB RS lim l):Zbk 1 l:=λr hr=>(g.2 r hr).len
theorem flat1_sub {l m:LD} (g:ZB RS lim l) (h:∀ r∈m,r∈l):Zcg 1 m:=RS.flat (B:=lim) λr hr=>g.2 r (h r hr)
def seqK {α:Type} (l:List α) (n:Nat) (h:Bool) (o:α) (i:Nat):List α:=if i<=n then l.take i else l.take n++o::(l.take i).drop (n+bif h then 1 else 0)
section
variable {α:Type} {l:List α} {n:Nat} {h:Bool} {o:α} {i:Nat}
theorem seqK_len (hn:n<=l.length) (hi:i<=l.length):(seqK l n h o i).length<=l.length+1:=by
 unfold seqK
 split
 ·rw[List.length_take];omega
 ·simp only[List.length_append,List.length_cons,List.length_drop,List.length_take]
  cases h<;>simp only[cond_true,cond_false]<;>omega
theorem seqK_lt (hi:i<l.length) (hn:i<n):seqK l n h o (i+1)=seqK l n h o i++[l[i]]:=by
 unfold seqK
 rw[if_pos (by omega),if_pos (by omega),List.take_succ_eq_append_getElem hi]
theorem seqK_at (hi:n<l.length):seqK l n h o (n+1)=seqK l n h o n++[o]++(bif h then[] else[l[n]]):=by
 unfold seqK
 rw[if_neg (by omega),if_pos (Nat.le_refl _),List.append_assoc]
 refine congrArg (l.take n++·) ?_
 rw[List.singleton_append]
 refine congrArg (o::·) ?_
 cases h
 ·simp only[cond_false,Nat.add_zero]
  rw[List.take_succ_eq_append_getElem hi,List.drop_left' (by rw[List.length_take];omega)]
 ·simp only[cond_true]
  exact List.drop_eq_nil_of_le (by rw[List.length_take];omega)
theorem seqK_gt (hi:i<l.length) (hn:n<i):seqK l n h o (i+1)=seqK l n h o i++[l[i]]:=by
 unfold seqK
 rw[if_neg (by omega),if_neg (by omega),List.append_assoc,List.cons_append]
 refine congrArg (λz=>l.take n++o::z) ?_
 rw[List.take_succ_eq_append_getElem hi,List.drop_append_of_le_length]
 rw[List.length_take]
 cases h<;>simp only[cond_true,cond_false]<;>omega
theorem seqK_end (hn:n<=l.length):(bif decide (n<l.length) then seqK l n h o l.length else seqK l n h o l.length++[o])=inK l n h o:=by
 unfold seqK inK
 by_cases q:n<l.length
 ·rw[ZY q,cond_true,if_neg (by omega),List.take_length]
 ·rw[ZZ q,cond_false,if_pos (by omega),List.take_length,List.take_of_length_le (by omega),List.drop_eq_nil_of_le (by omega)]
end
abbrev upL (l:LD):LC:=l.map (·.map C.d)
theorem up_app {a b:LD}:upL (a++b)=upL a++upL b:=List.map_append ..
section
variable {d:Nat} {c0:Int} {c1:BA} {c2:Int} {c3 c4:LD} {w:BA} {k:Nat}
set_option maxRecDepth 100000 in
set_option maxHeartbeats 4000000 in
theorem l5Put_t (o:Ybm d c0 c1 c2 c3 c4) (hd:d<=1000) {x0:Int} {x1:BA} {x2:Int} {x3 x4:LD} (hw:w.size<=lim) (hk:Fuel k):Yah.t k c0 c1 c2 c3 c4 w x0 x1 x2 x3 x4=some (retV (mkV c0 c1 c2 c3 c4) (putJ c0 c3 c4 w (mkV x0 x1 x2 x3 x4))):=by
 have hlim:lim=1048576:=rfl
 have hm:Z8=2^36:=rfl
 have hb:big=2^64:=rfl
 have hk0:Fuel k:=hk
 have g4:=o.kg hd
 have l4:=o.len
 have hx:C.immRows ([[.d (.int .i64 x0),.d (.str x1),.d (.int .i64 x2),.d (.sl x3),.d (.sl x4)]]:LC)=[mkV x0 x1 x2 x3 x4]:=by simp only[C.immRows,C.immCells,C.imm]
 unfold Yah.t Yah.g Yah.m putJ
 cases h4:(c0==4)<;>simp only[cond_true,cond_false]
 ·cases h5:(c0==5)
  ·simp only[bne,h5,Bool.not_false,cond_true,cond_false]
   rfl
  simp only[bne,h5,Bool.not_true,cond_true,cond_false]
  obtain rfl:=eq_of_beq h5
  obtain⟨rfl,rfl,el,hn⟩:=o.five rfl
  have g3:=o.g3
  rw[Yp.fv hw hk0]
  cases Yp.v w<;>simp only[Bool.not_true,Bool.not_false,cond_true,cond_false]
  ·rfl
  have hlb:=lbK_le (c3:=c3) (w:=w)
  refine iter_seq (λi=>(decide (lbK c3 w<i),(i:Int),upL (seqK c3 (lbK c3 w) (hitK c3 w) [.str w] i),upL (seqK c4 (lbK c3 w) (hitK c3 w) (mkV x0 x1 x2 x3 x4) i))) (n:=c3.length) (by unfold Fuel at hk0;omega) (λL i hi=>?_) (λL=>?_)
  ·obtain⟨f1,f2⟩:=key_facts hn (w:=w) hi
   have a3:=seqK_len (l:=c3) (h:=hitK c3 w) (o:=[.str w]) hlb (Nat.le_of_lt hi)
   have a4:=seqK_len (l:=c4) (h:=hitK c3 w) (o:=mkV x0 x1 x2 x3 x4) (by omega:lbK c3 w<=c4.length) (by omega:i<=c4.length)
   have e3:=(RS.get g3 (v:=(i:Int)) (by omega) (by omega)).1
   have e4:=(Yr.get g4 (v:=(i:Int)) (by omega) (by omega)).1
   rw[gR_lt hi] at e3
   rw[gR_lt (by omega:i<c4.length)] at e4
   have gd:∀ {β:Type} {F:Option β} {n:Nat},n<=1000000->Zd (n<=Z8) F=F:=λ{β F n} h=>ZH (by omega)
   simp(disch:=omega) only[Yah.l0,atR,rdQ,Q.ask,ZY (show(i:Int)<(c3.length:Int) by omega),cond_true,RS.row g3,Yr.row g4,Z4,Z5,ZaQ,Zbl,Zan,Z9,f1,f2,List.length_append,List.length_singleton,List.length_cons,List.length_nil,map_len]
   rcases Nat.lt_trichotomy i (lbK c3 w) with q|q|q
   ·rw[ZZ (show ¬ lbK c3 w<i by omega),ZY q,ZZ (show ¬ i=lbK c3 w by omega),ZZ (show ¬ lbK c3 w<i+1 by omega)]
    simp only[Bool.not_false,Bool.not_true,Bool.false_and,cond_true,cond_false]
    rw[gd (by omega),gd (by omega),seqK_lt hi q,seqK_lt (by omega:i<c4.length) q,up_app,up_app,e3,e4]
    rfl
   ·subst q
    rw[ZZ (show ¬ lbK c3 w<lbK c3 w by omega),ZY (show lbK c3 w=lbK c3 w from rfl),ZY (show lbK c3 w<lbK c3 w+1 by omega)]
    simp only[Bool.not_false,Bool.true_and,cond_true]
    rw[gd (by omega),gd (by omega),seqK_at hi,seqK_at (by omega:lbK c3 w<c4.length),up_app,up_app,up_app,up_app]
    generalize hitK c3 w=hh at a3 a4⊢
    cases hh<;>simp only[Bool.not_true,Bool.not_false,cond_true,cond_false]
    ·rw[gd (by omega),gd (by omega),e3,e4]
     rfl
    ·rw[show upL []=[] from rfl,List.append_nil,List.append_nil]
     rfl
   ·rw[ZY q,ZZ (show ¬ i<lbK c3 w by omega),ZZ (show ¬ i=lbK c3 w by omega),ZY (show lbK c3 w<i+1 by omega)]
    simp only[Bool.not_false,Bool.not_true,Bool.false_and,cond_true,cond_false]
    rw[gd (by omega),gd (by omega),seqK_gt hi q,seqK_gt (by omega:i<c4.length) q,up_app,up_app,e3,e4]
    rfl
  ·have a3:=seqK_len (l:=c3) (h:=hitK c3 w) (o:=[.str w]) hlb (Nat.le_refl _)
   have a4:=seqK_len (l:=c4) (h:=hitK c3 w) (o:=mkV x0 x1 x2 x3 x4) (by omega:lbK c3 w<=c4.length) (by omega:c3.length<=c4.length)
   have s3:=seqK_end (l:=c3) (h:=hitK c3 w) (o:=[.str w]) hlb
   have s4:=seqK_end (l:=c4) (h:=hitK c3 w) (o:=mkV x0 x1 x2 x3 x4) (by omega:lbK c3 w<=c4.length)
   rw[<- el] at s4
   simp only[Yah.l0,atR,rdQ,Q.ask,ZZ (show ¬ (c3.length:Int)<(c3.length:Int) by omega),cond_false,List.length_singleton,map_len]
   rw[<- s3,<- s4]
   by_cases q:lbK c3 w<c3.length
   ·rw[ZY q]
    simp only[Bool.not_true,cond_true,cond_false,imm_rows]
    rfl
   ·rw[ZZ q]
    simp only[Bool.not_false,cond_true,cond_false,Za3,imm_rows,hx]
    rw[ZH (by omega),ZH (by omega)]
    rfl
 ·obtain rfl:=eq_of_beq h4
  obtain⟨rfl,rfl,rfl⟩:=o.four rfl
  rw[l4Number_fv hk0,l1In_fv]
  cases hq:inB (numV w) 0 (c4.length:Int)<;>simp only[Bool.not_true,Bool.not_false,cond_true,cond_false]
  ·rfl
  unfold inB at hq
  rw[Bool.and_eq_true,decide_eq_true_iff,decide_eq_true_iff] at hq
  obtain⟨n,hn⟩:∃ n:Nat,numV w=(n:Int):=⟨(numV w).toNat,by omega⟩
  rw[hn] at hq⊢
  have hw1:IntKind.wrap .i64 ((n:Int)+1)=((n+1:Nat):Int):=by rw[Z9 (by omega) (by omega)];omega
  rw[hw1]
  simp only[Int.toNat_natCast,Int.toNat_zero,List.drop_zero,Nat.sub_zero,List.nil_append]
  rw[ZH ⟨by omega,by omega,by omega,rows5 g4⟩,ZH (rows5_sub g4 λr hr=>List.mem_of_mem_take hr),ZH (by simp only[List.length_nil,map_len,List.length_take];omega),ZH (by simp only[map_len,List.length_take,List.length_singleton];omega)]
  unfold inK
  by_cases h:(n:Int)<(c4.length:Int)
  ·rw[ZY h,cond_true,ZH ⟨by omega,by omega,by omega,rows5 g4⟩,ZH (rows5_sub g4 λr hr=>List.mem_of_mem_drop (List.mem_of_mem_take hr)),ZH (by simp only[map_len,List.length_append,List.length_take,List.length_singleton,List.length_drop];omega)]
   rw[Za3,Za3,imm_rows,imm_rows,hx,List.take_of_length_le (i:=c4.length-(n+1)) (by rw[List.length_drop];exact Nat.le_refl _),List.append_assoc]
   rfl
  ·rw[ZZ h,cond_false,Za3,imm_rows,hx,List.drop_eq_nil_of_le (by simp only[cond_true];omega)]
   rfl
set_option maxRecDepth 100000 in
set_option maxHeartbeats 4000000 in
theorem l5Out_t (o:Ybm d c0 c1 c2 c3 c4) (hd:d<=1000) (hk:Fuel k):YaX.t k c0 c1 c2 c3 c4 w=some (retV (mkV c0 c1 c2 c3 c4) (dropR c0 c3 c4 w)):=by
 have hlim:lim=1048576:=rfl
 have hm:Z8=2^36:=rfl
 have hk0:Fuel k:=hk
 have g3:=o.g3
 have g4:=o.kg hd
 have l4:=o.len
 unfold YaX.t YaX.g dropR
 rw[l4Kid_fv g3 hk0]
 by_cases hq:Ya7 c0 c3 c4 w<0
 ·rw[ZY hq]
  rfl
 ·rw[ZZ hq]
  obtain⟨n,hn,hnl⟩:=kidV_lt hq
  rw[hn]
  have hw1:IntKind.wrap .i64 ((n:Int)+1)=((n+1:Nat):Int):=by rw[Z9 (by omega) (by omega)];omega
  rw[hw1]
  simp only[cond_false,Int.toNat_natCast,Int.toNat_zero,List.drop_zero,Nat.sub_zero,List.nil_append]
  rw[ZH ⟨by omega,by omega,by omega,rows5 g4⟩,ZH (rows5_sub g4 λr hr=>List.mem_of_mem_take hr),ZH (by simp only[List.length_nil,map_len,List.length_take];omega),ZH ⟨by omega,by omega,by omega,rows5 g4⟩,ZH (rows5_sub g4 λr hr=>List.mem_of_mem_drop (List.mem_of_mem_take hr)),ZH (by simp only[map_len,List.length_take,List.length_drop];omega)]
  simp only[Za3,imm_rows]
  rw[List.take_of_length_le (i:=c4.length-(n+1)) (l:=c4.drop (n+1)) (by rw[List.length_drop];exact Nat.le_refl _)]
  cases h5:(c0==5)
  ·rfl
  ·obtain⟨-,-,el,-⟩:=o.five (eq_of_beq h5)
   simp only[cond_true]
   rw[ZH ⟨by omega,by omega,by omega,rows1 g3⟩,ZH (flat1_sub g3 λr hr=>List.mem_of_mem_take hr),ZH (by simp only[List.length_nil,map_len,List.length_take];omega),ZH ⟨by omega,by omega,by omega,rows1 g3⟩,ZH (flat1_sub g3 λr hr=>List.mem_of_mem_drop (List.mem_of_mem_take hr)),ZH (by simp only[map_len,List.length_take,List.length_drop];omega)]
   rw[List.take_of_length_le (i:=c3.length-(n+1)) (l:=c3.drop (n+1)) (by rw[List.length_drop];exact Nat.le_refl _)]
   rfl
def AnsC (t:Option (Int×BA×Int×LC×LC×Bool)) (o:Option (List D)):Prop:=match o with|some r=>t=some (retC r true)|none=>∃ z0 z1 z2 z3 z4,t=some (z0,z1,z2,z3,z4,false)
theorem mod_deep {x0:Int} {x1:BA} {x2:Int} {x3 x4:LD} (g4:ZB Yr lim c4) {n:Nat} (hn:n<c4.length):((Zc c4).modify n λc=>Zs c 0 [.d (.int .i64 x0),.d (.str x1),.d (.int .i64 x2),.own (Zc x3),.own (Zc x4)])=Zc (c4.take n++mkV x0 x1 x2 x3 x4::c4.drop (n+1)):=by
 refine deepRows_mod hn λr hr=>?_
 rw[List.getElem?_eq_getElem hn] at hr
 injection hr with hr
 have e:([.d (.int .i64 x0),.d (.str x1),.d (.int .i64 x2),.own (Zc x3),.own (Zc x4)]:List C)=ZN (mkV x0 x1 x2 x3 x4):=by simp only[mkV,ZN,deepD]
 rw[e]
 refine splice_full ?_
 rw[Ybg,Ybg,<- hr,(g4.2 _ (List.getElem_mem hn)).len]
 rfl
set_option maxRecDepth 100000 in
set_option maxHeartbeats 4000000 in
theorem setKid_t (o:Ybm d c0 c1 c2 c3 c4) (hd:d<=1000) {x0:Int} {x1:BA} {x2:Int} {x3 x4:LD} (hw:w.size<=lim) (hk:Fuel k):AnsC (YaZ.t k c0 c1 c2 (Zc c3) (Zc c4) w x0 x1 x2 (Zc x3) (Zc x4)) (putJ c0 c3 c4 w (mkV x0 x1 x2 x3 x4)):=by
 have hlim:lim=1048576:=rfl
 have hm:Z8=2^36:=rfl
 have hk0:Fuel k:=hk
 have g3:=o.g3
 have g4:=o.kg hd
 have l4:=o.len
 have d3:=ZS c3
 have d4:=ZS c4
 have hx:([[.d (.int .i64 x0),.d (.str x1),.d (.int .i64 x2),.own (Zc x3),.own (Zc x4)]]:LC)=Zc [mkV x0 x1 x2 x3 x4]:=by simp only[mkV,Zc,ZN,deepD]
 have hs:([[.d (.str w)]]:LC)=Zc [[.str w]]:=by simp only[Zc,ZN,deepD]
 unfold YaZ.t YaZ.g putJ
 cases h5:(c0==5)<;>simp only[cond_true,cond_false]
 ·cases h4:(c0==4)<;>simp only[cond_true,cond_false]
  ·exact⟨_,_,_,_,_,rfl⟩
  obtain rfl:=eq_of_beq h4
  obtain⟨rfl,rfl,rfl⟩:=o.four rfl
  rw[number_fv hk0,d4]
  unfold inB
  rcases numV_sign (s:=w) with q|q
  ·rw[q,ZY (show(-1:Int)<0 by omega),ZZ (show ¬ (0:Int) <= -1 by omega)]
   exact⟨_,_,_,_,_,rfl⟩
  ·rw[ZZ (show ¬ numV w<0 by omega),ZY q]
   simp only[cond_false,Bool.not_true,Bool.true_and]
   obtain⟨n,hn⟩:∃ n:Nat,numV w=(n:Int):=⟨(numV w).toNat,by omega⟩
   rw[hn]
   by_cases h:(n:Int)>(c4.length:Int)
   ·rw[ZY h,ZZ (show ¬ (n:Int)<=(c4.length:Int) by omega)]
    exact⟨_,_,_,_,_,rfl⟩
   rw[ZZ h,ZY (show(n:Int)<=(c4.length:Int) by omega)]
   simp only[cond_false,cond_true,Int.toNat_natCast]
   unfold inK
   by_cases e:n=c4.length
   ·rw[show((n:Int)==(c4.length:Int))=true by rw[e];exact beq_self_eq_true _,cond_true,ZH (by simp only[List.length_singleton];omega),hx,<- Zbb,List.drop_eq_nil_of_le (by simp only[cond_true];omega),List.take_of_length_le (by omega)]
    rfl
   ·rw[show((n:Int)==(c4.length:Int))=false by rw[beq_eq_false_iff_ne];omega,cond_false,ZH (by omega),ZH (by omega),mod_deep g4 (by omega)]
    rfl
 ·obtain rfl:=eq_of_beq h5
  obtain⟨rfl,rfl,el,hn⟩:=o.five rfl
  simp only[show((5:Int)==4)=false from rfl,cond_false,ZK]
  rw[binStr_fv g3 hn hk0,YbA,Yp.fv hw hk0]
  have hlb:=lbK_le (c3:=c3) (w:=w)
  cases Yp.v w<;>simp only[Bool.not_true,Bool.not_false,cond_true,cond_false]
  ·exact⟨_,_,_,_,_,rfl⟩
  unfold inK
  cases hh:hitK c3 w<;>simp only[cond_true,cond_false,Int.toNat_natCast,Nat.add_zero]
  ·unfold YN.f YN.t YE.f YE.t
   rw[ZH (by simp only[List.length_singleton];omega)]
   dsimp only
   rw[ZH (by simp only[List.length_singleton];omega)]
   rw[hx,hs,Int.toNat_natCast,Ybd,Ybe,Ybd,Ybe]
   simp only[<- Zbb,List.append_assoc,List.singleton_append]
   rfl
  ·obtain⟨hl,ek⟩:=key_hit g3 hn hh
   rw[ZH (by omega),ZH (by omega),mod_deep g4 (by omega)]
   have e3:c3.take (lbK c3 w)++[.str w]::c3.drop (lbK c3 w+1)=c3:=by
    rw[<- ek,List.getElem_cons_drop,List.take_append_drop]
   rw[e3]
   rfl
theorem dropKid_t (o:Ybm d c0 c1 c2 c3 c4) (hd:d<=1000) (hk:Fuel k):AnsC (YaW.t k c0 c1 c2 (Zc c3) (Zc c4) w) (dropR c0 c3 c4 w):=by
 have hlim:lim=1048576:=rfl
 have hk0:Fuel k:=hk
 have g3:=o.g3
 have l4:=o.len
 have d3:=ZS c3
 have d4:=ZS c4
 unfold YaW.t YaW.g dropR
 rw[ZK,ZK,step_fv g3 (λe=>(o.five e).2.2.1) hk0]
 by_cases hq:Ya7 c0 c3 c4 w<0
 ·rw[ZY hq]
  exact⟨_,_,_,_,_,rfl⟩
 ·rw[ZZ hq]
  obtain⟨n,hn,hnl⟩:=kidV_lt hq
  have hk45:c0=5\/c0=4:=by
   unfold Ya7 at hq
   cases h5:(c0==5)<;>rw[h5] at hq
   ·cases h4:(c0==4)<;>rw[h4] at hq
    ·exact absurd (show(-1:Int)<0 by decide) hq
    ·exact .inr (eq_of_beq h4)
   ·exact .inl (eq_of_beq h5)
  rw[hn]
  have hw1:IntKind.wrap .i64 ((n:Int)+1)=((n+1:Nat):Int):=by rw[Z9 (by omega) (by omega)];omega
  rw[hw1]
  simp only[cond_false,Int.toNat_natCast]
  rcases hk45 with rfl|rfl
  ·obtain⟨rfl,rfl,el,-⟩:=o.five rfl
   simp only[show((5:Int)==5)=true from rfl,cond_true]
   unfold Y2.f Y2.t YI.f YI.t
   rw[ZH (by omega)]
   dsimp only
   rw[ZH (by omega),Int.toNat_natCast,Int.toNat_natCast,Ybd,Ybe,Ybd,Ybe]
   simp only[<- Zbb]
   rfl
  ·obtain⟨rfl,rfl,rfl⟩:=o.four rfl
   simp only[show((4:Int)==5)=false from rfl,cond_false]
   unfold YI.f YI.t
   rw[ZH (by omega),Int.toNat_natCast,Int.toNat_natCast,Ybd,Ybe]
   simp only[<- Zbb]
   rfl
end
noncomputable def doV (kind:Int) (x:List D):LD->List D->Option (List D)
 |[],_=>none
 |[p],v=>bif kind==1 then putJ (rI v 0) (rL v 3) (rL v 4) (rS p 0) x else dropR (rI v 0) (rL v 3) (rL v 4) (rS p 0)
 |p::q::ps,v=>bif decide (Ya7 (rI v 0) (rL v 3) (rL v 4) (rS p 0)<0) then none else
  match doV kind x (q::ps) (gR (rL v 4) (Ya7 (rI v 0) (rL v 3) (rL v 4) (rS p 0))) with
  |none=>none
  |some y=>some (mkV (rI v 0) ⟨#[]⟩ 0 (rL v 3) ((rL v 4).take (Ya7 (rI v 0) (rL v 3) (rL v 4) (rS p 0)).toNat++y::(rL v 4).drop ((Ya7 (rI v 0) (rL v 3) (rL v 4) (rS p 0)).toNat+1)))
theorem mem_in {α:Type} {l:List α} {n m:Nat} {o y:α} (h:y∈l.take n++o::l.drop m):y∈l\/y=o:=by
 rcases List.mem_append.mp h with h|h
 ·exact .inl (List.mem_of_mem_take h)
 ·rcases List.mem_cons.mp h with h|h
  ·exact .inr h
  ·exact .inl (List.mem_of_mem_drop h)
theorem len_in {α:Type} {l:List α} {n m:Nat} {o:α} (h:n<=m):(l.take n++o::l.drop m).length<=l.length+1:=by
 simp only[List.length_append,List.length_cons,List.length_take,List.length_drop]
 omega
theorem wf_lit {n:Int} (h0:0<=n) (h1:n<=1000000):(Lit.int .i64 n).wf=true:=wf_of (by omega) (by omega)
theorem kid45 {c0:Int} {c3 c4:LD} {w:BA} (hq:¬ Ya7 c0 c3 c4 w<0):c0=5\/c0=4:=by
 unfold Ya7 at hq
 cases h5:(c0==5)<;>rw[h5] at hq
 ·cases h4:(c0==4)<;>rw[h4] at hq
  ·exact absurd (show(-1:Int)<0 by decide) hq
  ·exact .inr (eq_of_beq h4)
 ·exact .inl (eq_of_beq h5)
section
variable {d N:Nat} {c0:Int} {c1:BA} {c2:Int} {c3 c4:LD} {w:BA}
theorem Ybm.mkH (o:Ybm d c0 c1 c2 c3 c4) {e0:Int} (h0:(Lit.int .i64 e0).wf=true) {k3 k4:LD} (g3:ZB RS lim k3) (l4:k4.length<=302) (h4:∀ x∈k4,YD lim (d+N) x):YD lim (d+1+N) (mkV e0 ⟨#[]⟩ 0 k3 k4):=by
 rw[show d+1+N=d+N+1 by omega]
 have hlim:lim=1048576:=rfl
 exact .mk e0 ⟨#[]⟩ 0 k3 k4 h0 (Nat.zero_le _) (by decide) g3 (by omega) h4
theorem putJ_h (o:Ybm d c0 c1 c2 c3 c4) {x r:List D} (hx:YD lim N x) (hw:w.size<=lim) (e:putJ c0 c3 c4 w x=some r):YD lim (d+1+N) r:=by
 have hlim:lim=1048576:=rfl
 have l4:=o.len
 have hk:∀ y∈c4,YD lim (d+N) y:=λy hy=>(o.kids y hy).h.mono (by omega)
 have hx':YD lim (d+N) x:=hx.mono (by omega)
 have nil3:ZB RS lim []:=⟨Nat.zero_le _,λr hr=>by cases hr⟩
 unfold putJ at e
 cases h4:(c0==4)<;>rw[h4] at e<;>simp only[cond_true,cond_false] at e
 ·cases h5:(c0==5)<;>rw[h5] at e<;>simp only[cond_true,cond_false] at e
  ·cases e
  obtain rfl:=eq_of_beq h5
  obtain⟨-,-,el,-⟩:=o.five rfl
  cases hn:Yp.v w<;>rw[hn] at e<;>simp only[cond_true,cond_false] at e
  ·cases e
  injection e with e
  subst e
  refine o.mkH (wf_lit (by omega) (by omega)) ⟨?_,λr hr=>?_⟩ ?_ λy hy=>?_
  ·have:=len_in (l:=c3) (n:=lbK c3 w) (m:=lbK c3 w+bif hitK c3 w then 1 else 0) (o:=[D.str w]) (by omega)
   unfold inK
   omega
  ·rcases mem_in hr with hr|rfl
   ·exact o.g3.2 r hr
   ·exact⟨w,rfl,hw,trivial⟩
  ·have:=len_in (l:=c4) (n:=lbK c3 w) (m:=lbK c3 w+bif hitK c3 w then 1 else 0) (o:=x) (by omega)
   unfold inK
   omega
  ·rcases mem_in hy with hy|rfl
   ·exact hk y hy
   ·exact hx'
 ·cases hn:inB (numV w) 0 (c4.length:Int)<;>rw[hn] at e<;>simp only[cond_true,cond_false] at e
  ·cases e
  injection e with e
  subst e
  refine o.mkH (wf_lit (by omega) (by omega)) nil3 ?_ λy hy=>?_
  ·have:=len_in (l:=c4) (n:=(numV w).toNat) (m:=(numV w).toNat+bif true then 1 else 0) (o:=x) (by omega)
   unfold inK
   omega
  ·rcases mem_in hy with hy|rfl
   ·exact hk y hy
   ·exact hx'
theorem dropR_h (o:Ybm d c0 c1 c2 c3 c4) {r:List D} (e:dropR c0 c3 c4 w=some r):YD lim (d+1+N) r:=by
 have hlim:lim=1048576:=rfl
 have l4:=o.len
 have l3:=o.g3.1
 have hk:∀ y∈c4,YD lim (d+N) y:=λy hy=>(o.kids y hy).h.mono (by omega)
 unfold dropR at e
 by_cases hq:Ya7 c0 c3 c4 w<0
 ·rw[ZY hq] at e
  cases e
 rw[ZZ hq] at e
 simp only[cond_false] at e
 injection e with e
 subst e
 have h45:=kid45 hq
 refine o.mkH (by rcases h45 with rfl|rfl<;>decide) ?_ (by simp only[List.length_append,List.length_take,List.length_drop];omega) λy hy=>?_
 ·cases(c0==5)
  ·exact⟨Nat.zero_le _,λr hr=>by cases hr⟩
  ·refine⟨by simp only[cond_true,List.length_append,List.length_take,List.length_drop];omega,λr hr=>?_⟩
   rcases List.mem_append.mp hr with hr|hr
   ·exact o.g3.2 r (List.mem_of_mem_take hr)
   ·exact o.g3.2 r (List.mem_of_mem_drop hr)
 ·rcases List.mem_append.mp hy with hy|hy
  ·exact hk y (List.mem_of_mem_take hy)
  ·exact hk y (List.mem_of_mem_drop hy)
end
theorem doV_h {kind:Int} {x:List D} {N:Nat} (hx:YD lim N x):∀ {ps:LD} {d:Nat} {v r:List D},OkV d v->(∀ p∈ps,RS lim p)->doV kind x ps v=some r->YD lim (d+N) r
 |[],d,v,r,_,_,e=>by unfold doV at e;cases e
 |[p],d,v,r,hv,hp,e=>by
  obtain⟨d',c0,c1,c2,c3,c4,rfl,rfl,o⟩:=hv.open
  obtain⟨w,rfl,hw,-⟩:=hp p (by simp)
  unfold doV at e
  cases hq:(kind==1)<;>rw[hq] at e
  ·exact dropR_h o e
  ·exact putJ_h o hx hw e
 |p::q::ps,d,v,r,hv,hp,e=>by
  obtain⟨d',c0,c1,c2,c3,c4,rfl,rfl,o⟩:=hv.open
  unfold doV at e
  replace e:(bif decide (Ya7 c0 c3 c4 (rS p 0)<0) then none else match doV kind x (q::ps) (gR c4 (Ya7 c0 c3 c4 (rS p 0))) with|none=>none|some y=>some (mkV c0 ⟨#[]⟩ 0 c3 (c4.take (Ya7 c0 c3 c4 (rS p 0)).toNat++y::c4.drop ((Ya7 c0 c3 c4 (rS p 0)).toNat+1))))=some r:=e
  by_cases hk:Ya7 c0 c3 c4 (rS p 0)<0
  ·rw[ZY hk] at e
   cases e
  rw[ZZ hk] at e
  obtain⟨n,hn,hnl⟩:=kidV_lt hk
  rw[hn] at e
  simp only[cond_false,Int.toNat_natCast] at e
  have l4:=o.len
  cases hd:doV kind x (q::ps) (gR c4 (n:Int)) with
  |none=>rw[hd] at e;cases e
  |some y=>
   rw[hd] at e
   injection e with e
   subst e
   have hy:=doV_h hx (o.kids _ (gR_mem (xs:=c4) (v:=(n:Int)) (by omega) (by omega))) (λp h=>hp p (by simp[h])) hd
   refine o.mkH o.w0 o.g3 ?_ λz hz=>?_
   ·have:=len_in (l:=c4) (n:=n) (m:=n+1) (o:=y) (by omega)
    omega
   ·rcases mem_in hz with hz|rfl
    ·exact(o.kids z hz).h.mono (by omega)
    ·exact hy
theorem doV_mk {kind:Int} {x:List D}:∀ {ps:LD} {v r:List D},doV kind x ps v=some r->r=mkV (rI r 0) (rS r 1) (rI r 2) (rL r 3) (rL r 4)
 |[],v,r,e=>by unfold doV at e;cases e
 |[p],v,r,e=>by
  unfold doV at e
  cases hq:(kind==1)<;>rw[hq] at e<;>simp only[cond_true,cond_false] at e
  ·unfold dropR at e
   cases hk:decide (Ya7 (rI v 0) (rL v 3) (rL v 4) (rS p 0)<0)<;>rw[hk] at e
   ·injection e with e;subst e;rfl
   ·cases e
  ·unfold putJ at e
   cases h4:(rI v 0==4)<;>rw[h4] at e<;>simp only[cond_true,cond_false] at e
   ·cases h5:(rI v 0==5)<;>rw[h5] at e<;>simp only[cond_true,cond_false] at e
    ·cases e
    ·cases hn:Yp.v (rS p 0)<;>rw[hn] at e
     ·cases e
     ·injection e with e;subst e;rfl
   ·cases hn:inB (numV (rS p 0)) 0 ((rL v 4).length:Int)<;>rw[hn] at e
    ·cases e
    ·injection e with e;subst e;rfl
 |p::q::ps,v,r,e=>by
  unfold doV at e
  cases hk:decide (Ya7 (rI v 0) (rL v 3) (rL v 4) (rS p 0)<0)<;>rw[hk] at e
  ·simp only[cond_false] at e
   cases hd:doV kind x (q::ps) (gR (rL v 4) (Ya7 (rI v 0) (rL v 3) (rL v 4) (rS p 0))) with
   |none=>rw[hd] at e;cases e
   |some y=>rw[hd] at e;injection e with e;subst e;rfl
  ·cases e
theorem up_mod {f:List C->List C} {o:List D}:∀ {l:LD} {i:Nat},i<l.length->(∀ r,l[i]? = some r->f (r.map C.d)=o.map C.d)->(upL l).modify i f=upL (l.take i++o::l.drop (i+1))
 |[],i,h,_=>absurd h (by simp)
 |r::xs,0,_,h2=>by
  simp only[upL,List.map_cons,List.modify_zero_cons,List.take_zero,List.nil_append,List.drop_succ_cons,List.drop_zero]
  rw[h2 r rfl]
 |r::xs,i+1,h1,h2=>by
  simp only[upL,List.map_cons,List.modify_succ_cons,List.take_succ_cons,List.cons_append,List.drop_succ_cons]
  have:=up_mod (f:=f) (o:=o) (l:=xs) (i:=i) (by simpa using h1) λx hx=>h2 x (by simpa using hx)
  simp only[upL] at this
  rw[this]
set_option maxRecDepth 100000 in
set_option maxHeartbeats 4000000 in
theorem l5Do_t {kind x0:Int} {x1:BA} {x2:Int} {x3 x4 ps:LD} (gp:ZB RS lim ps):∀ (m d i:Nat) (c0:Int) (c1:BA) (c2:Int) (c3 c4:LD) {k:Nat},d<=1000->OkV d (mkV c0 c1 c2 c3 c4)->i+m+1=ps.length->big+m+1<=k->
  Yap.t k c0 c1 c2 c3 c4 kind ps x0 x1 x2 x3 x4 (i:Int)=some (retV (mkV c0 c1 c2 c3 c4) (doV kind (mkV x0 x1 x2 x3 x4) (ps.drop i) (mkV c0 c1 c2 c3 c4))):=by
 have hlim:lim=1048576:=rfl
 have hm:Z8=2^36:=rfl
 have hl:=gp.1
 intro m
 induction m with
 |zero=>
  intro d i c0 c1 c2 c3 c4 k hd h hi hk
  obtain⟨k,rfl⟩:∃ k',k=k'+1:=⟨k-1,by omega⟩
  have hk1:Fuel k:=by unfold Fuel;omega
  obtain⟨d',e0,e1,e2,e3,e4,rfl,ev,o⟩:=h.open
  injection ev with v0 ev;injection ev with v1 ev;injection ev with v2 ev;injection ev with v3 ev;injection ev with v4 ev
  injection v0 with _ v0;injection v1 with v1;injection v2 with _ v2;injection v3 with v3;injection v4 with v4
  subst v0 v1 v2 v3 v4
  rw[Yap.t_succ]
  unfold Yap.g Yap.body;simp only[atR,rdQ,Q.ask]
  have hg:ps.drop i=[gR ps (i:Int)]:=by
   rw[List.drop_eq_getElem_cons (by omega),List.drop_eq_nil_of_le (by omega),gR_lt (by omega)]
  rw[hg]
  have hw:=(RS.get gp (v:=(i:Int)) (by omega) (by omega)).2.1
  simp(disch:=omega) only[atR,rdQ,Q.ask,RS.row gp,Z4,ZaQ,Zan,Z9]
  rw[show((i:Int)==(ps.length:Int)-1)=true by rw[beq_iff_eq];omega,cond_true]
  unfold doV
  cases(kind==1)<;>simp only[cond_true,cond_false]
  ·rw[YaX.f_of (l5Out_t o (by omega) hk1)]
   rfl
  ·rw[Yah.f_of (l5Put_t o (by omega) hw hk1)]
   rfl
 |succ m ih=>
  intro d i c0 c1 c2 c3 c4 k hd h hi hk
  obtain⟨k,rfl⟩:∃ k',k=k'+1:=⟨k-1,by omega⟩
  have hk1:Fuel k:=by unfold Fuel;omega
  obtain⟨d',e0,e1,e2,e3,e4,rfl,ev,o⟩:=h.open
  injection ev with v0 ev;injection ev with v1 ev;injection ev with v2 ev;injection ev with v3 ev;injection ev with v4 ev
  injection v0 with _ v0;injection v1 with v1;injection v2 with _ v2;injection v3 with v3;injection v4 with v4
  subst v0 v1 v2 v3 v4
  have g4:=o.kg (by omega)
  have l4:=o.len
  rw[Yap.t_succ]
  unfold Yap.g Yap.body;simp only[atR,rdQ,Q.ask]
  have hg:ps.drop i=gR ps (i:Int)::ps.drop (i+1):=by
   rw[List.drop_eq_getElem_cons (by omega),gR_lt (by omega)]
  have hg2:ps.drop (i+1)=gR ps ((i+1:Nat):Int)::ps.drop (i+1+1):=by
   rw[List.drop_eq_getElem_cons (by omega),gR_lt (by omega)]
  simp(disch:=omega) only[atR,rdQ,Q.ask,RS.row gp,Z4,ZaQ,Zan,Z9]
  rw[show((i:Int)==(ps.length:Int)-1)=false by rw[beq_eq_false_iff_ne];omega,cond_false,l4Kid_fv o.g3 hk1,hg,hg2]
  unfold doV
  rw[<- hg2]
  show _=some (retV (mkV c0 c1 c2 c3 c4) (bif decide (Ya7 c0 c3 c4 (gS ps (i:Int) 0)<0) then none else match doV kind (mkV x0 x1 x2 x3 x4) (ps.drop (i+1)) (gR c4 (Ya7 c0 c3 c4 (gS ps (i:Int) 0))) with|none=>none|some y=>some (mkV c0 ⟨#[]⟩ 0 c3 (c4.take (Ya7 c0 c3 c4 (gS ps (i:Int) 0)).toNat++y::c4.drop ((Ya7 c0 c3 c4 (gS ps (i:Int) 0)).toNat+1)))))
  by_cases hq:Ya7 c0 c3 c4 (gS ps (i:Int) 0)<0
  ·rw[ZY hq]
   rfl
  rw[ZZ hq]
  obtain⟨n,hn,hnl⟩:=kidV_lt hq
  rw[hn]
  simp only[cond_false,Int.toNat_natCast]
  obtain⟨hrow,-⟩:=Yr.get g4 (v:=(n:Int)) (by omega) (by omega)
  have hkid:=o.kids _ (gR_mem (xs:=c4) (v:=(n:Int)) (by omega) (by omega))
  have ih':=ih d' (i+1) (gI c4 (n:Int) 0) (gS c4 (n:Int) 1) (gI c4 (n:Int) 2) (gL c4 (n:Int) 3) (gL c4 (n:Int) 4) (k:=k) (by omega) (by rw[show mkV (gI c4 (n:Int) 0) (gS c4 (n:Int) 1) (gI c4 (n:Int) 2) (gL c4 (n:Int) 3) (gL c4 (n:Int) 4)=gR c4 (n:Int) from hrow.symm];exact hkid) (by omega) (by omega)
  rw[show mkV (gI c4 (n:Int) 0) (gS c4 (n:Int) 1) (gI c4 (n:Int) 2) (gL c4 (n:Int) 3) (gL c4 (n:Int) 4)=gR c4 (n:Int) from hrow.symm] at ih'
  simp(disch:=omega) only[Yr.row g4,Z4,Z5,ZaQ,Zbl,Zan]
  rw[show(i:Int)+1=((i+1:Nat):Int) by omega,Yap.f_of (show Yap.t k _ _ _ _ _ _ _ _ _ _ _ _ _=some (_,_,_,_,_,_) from ih')]
  cases hd:doV kind (mkV x0 x1 x2 x3 x4) (ps.drop (i+1)) (gR c4 (n:Int)) with
  |none=>rfl
  |some y=>
   simp only[retV,Bool.not_true,cond_false,List.nil_append]
   rw[ZH (rows5 g4),ZH (by simp only[List.length_nil,map_len];omega),ZH (by simp only[map_len];omega),ZH (by simp only[map_len];omega)]
   have hy:=doV_mk hd
   rw[show((c4.map (·.map C.d)).modify n λc=>Zs c 0 [.d (.int .i64 (rI y 0)),.d (.str (rS y 1)),.d (.int .i64 (rI y 2)),.d (.sl (rL y 3)),.d (.sl (rL y 4))])=upL (c4.take n++y::c4.drop (n+1)) from up_mod hnl λr hr=>by
    rw[List.getElem?_eq_getElem hnl] at hr
    injection hr with hr
    have e:y.map C.d=[.d (.int .i64 (rI y 0)),.d (.str (rS y 1)),.d (.int .i64 (rI y 2)),.d (.sl (rL y 3)),.d (.sl (rL y 4))]:=by
     conv=>lhs;rw[hy]
     rfl
    rw[e]
    refine splice_full ?_
    rw[List.length_map,<- hr,(g4.2 _ (List.getElem_mem hnl)).len]
    rfl,imm_rows]
   rfl
theorem atC_deep {xs:LD} (g:ZB Yr lim xs) {n:Nat} (hn:n<xs.length) {β:Type} (F:Int->BA->Int->LC->LC->Option β):atC (Zc xs) n [.n,.s,.n,.o,.o] F=F (gI xs (n:Int) 0) (gS xs (n:Int) 1) (gI xs (n:Int) 2) (Zc (gL xs (n:Int) 3)) (Zc (gL xs (n:Int) 4)):=by
 have hrow:=(Yr.get g (v:=(n:Int)) (by omega) (by omega)).1
 have h:(Zc xs)[n]? = some (ZN (gR xs (n:Int))):=by
  have e:∀ {l:LD} {i:Nat},(Zc l)[i]? = (l[i]?).map ZN:=by
   intro l
   induction l with
   |nil=>intro i;simp[Zc]
   |cons r l ih=>
    intro i
    cases i with
    |zero=>simp[Zc]
    |succ i=>simp only[Zc,List.getElem?_cons_succ];exact ih
  rw[e,List.getElem?_eq_getElem hn,gR_lt hn]
  rfl
 unfold atC ZaR
 rw[h,hrow]
 simp only[ZN,deepD]
 rfl
theorem gone_len:∀ c:List C,(c.map C.gone).length=c.length:=λc=>List.length_map ..
set_option maxRecDepth 100000 in
set_option maxHeartbeats 4000000 in
theorem changed_t {kind:Int} {full:LD} {x0:Int} {x1:BA} {x2:Int} {x3 x4:LD} (u3:ZB RS lim x3) (u4:ZB Yr lim x4):∀ (ps:LD) (d:Nat) (c0:Int) (c1:BA) (c2:Int) (c3 c4:LD) {k:Nat},ps≠[]->ZB RS lim ps->d<=1000->OkV d (mkV c0 c1 c2 c3 c4)->lv 1+ps.length+1<=k->
  AnsC (Y8.t k c0 c1 c2 (Zc c3) (Zc c4) ps kind full x0 x1 x2 x3 x4) (doV kind (mkV x0 x1 x2 x3 x4) ps (mkV c0 c1 c2 c3 c4)):=by
 have hlim:lim=1048576:=rfl
 intro ps
 induction ps with
 |nil=>intro d c0 c1 c2 c3 c4 k h;exact absurd rfl h
 |cons p ps ih=>
  intro d c0 c1 c2 c3 c4 k _ gp hd h hk
  obtain⟨k,rfl⟩:∃ k',k=k'+1:=⟨k-1,by omega⟩
  have hk1:Zai 1 k:=by unfold Zai;omega
  obtain⟨d',e0,e1,e2,e3,e4,rfl,ev,o⟩:=h.open
  injection ev with v0 ev;injection ev with v1 ev;injection ev with v2 ev;injection ev with v3 ev;injection ev with v4 ev
  injection v0 with _ v0;injection v1 with v1;injection v2 with _ v2;injection v3 with v3;injection v4 with v4
  subst v0 v1 v2 v3 v4
  have g4:=o.kg (by omega)
  have l4:=o.len
  have d4:=ZS c4
  obtain⟨w,rfl,hw,-⟩:=gp.2 p (by simp)
  have hl:=gp.1
  rw[Y8.t_succ]
  unfold Y8.g Y8.body;simp only[atR,rdQ,Q.ask]
  have at0:∀ {β:Type} (F:List D->Option β),atRow (([.str w]:List D)::ps) 0 F=F [.str w]:=λF=>rfl
  cases ps with
  |nil=>
   rw[show((([[D.str w]]:LD).length:Int)==1)=true from rfl,cond_true]
   simp only[at0,Z4,ZaQ,Zan]
   unfold doV
   cases(kind==1)<;>simp only[cond_true,cond_false]
   ·have:=dropKid_t (w:=w) o (by omega) (up0 hk1)
    show AnsC _ (dropR c0 c3 c4 w)
    unfold YaW.f
    cases hr:dropR c0 c3 c4 w with
    |none=>rw[hr] at this;obtain⟨z0,z1,z2,z3,z4,e⟩:=this;rw[e];exact⟨_,_,_,_,_,rfl⟩
    |some r=>rw[hr] at this;rw[show YaW.t k c0 c1 c2 (Zc c3) (Zc c4) w=_ from this];rfl
   ·rw[Yba u3 u4 hk1]
    have:=setKid_t (w:=w) (x0:=x0) (x1:=x1) (x2:=x2) (x3:=x3) (x4:=x4) o (by omega) hw (up0 hk1)
    show AnsC _ (putJ c0 c3 c4 w (mkV x0 x1 x2 x3 x4))
    unfold YaZ.f
    cases hr:putJ c0 c3 c4 w (mkV x0 x1 x2 x3 x4) with
    |none=>rw[hr] at this;obtain⟨z0,z1,z2,z3,z4,e⟩:=this;rw[e];exact⟨_,_,_,_,_,rfl⟩
    |some r=>rw[hr] at this;rw[show YaZ.t k c0 c1 c2 (Zc c3) (Zc c4) w x0 x1 x2 (Zc x3) (Zc x4)=_ from this];rfl
  |cons q ps=>
   rw[show(((([.str w]:List D)::q::ps).length:Int)==1)=false by rw[beq_eq_false_iff_ne];simp only[List.length_cons];omega,cond_false]
   simp only[at0,Z4,ZaQ,Zan]
   rw[ZK,ZK,step_fv o.g3 (λe=>(o.five e).2.2.1) (up0 hk1)]
   unfold doV
   show AnsC _ (bif decide (Ya7 c0 c3 c4 w<0) then none else match doV kind (mkV x0 x1 x2 x3 x4) (q::ps) (gR c4 (Ya7 c0 c3 c4 w)) with|none=>none|some y=>some (mkV c0 ⟨#[]⟩ 0 c3 (c4.take (Ya7 c0 c3 c4 w).toNat++y::c4.drop ((Ya7 c0 c3 c4 w).toNat+1))))
   by_cases hq:Ya7 c0 c3 c4 w<0
   ·rw[ZY hq]
    exact⟨_,_,_,_,_,rfl⟩
   rw[ZZ hq]
   obtain⟨n,hn,hnl⟩:=kidV_lt hq
   rw[hn]
   simp only[cond_false,Int.toNat_natCast]
   obtain⟨hrow,-⟩:=Yr.get g4 (v:=(n:Int)) (by omega) (by omega)
   have hkid:=o.kids _ (gR_mem (xs:=c4) (v:=(n:Int)) (by omega) (by omega))
   have gq:ZB RS lim (q::ps):=⟨by simp only[List.length_cons] at hl⊢;omega,λr hr=>gp.2 r (by simp only[List.mem_cons] at hr⊢;exact .inr hr)⟩
   have ih':=ih d' (gI c4 (n:Int) 0) (gS c4 (n:Int) 1) (gI c4 (n:Int) 2) (gL c4 (n:Int) 3) (gL c4 (n:Int) 4) (k:=k) (by simp) gq (by omega) (by rw[show mkV (gI c4 (n:Int) 0) (gS c4 (n:Int) 1) (gI c4 (n:Int) 2) (gL c4 (n:Int) 3) (gL c4 (n:Int) 4)=gR c4 (n:Int) from hrow.symm];exact hkid) (by simp only[List.length_cons] at hk⊢;omega)
   rw[show mkV (gI c4 (n:Int) 0) (gS c4 (n:Int) 1) (gI c4 (n:Int) 2) (gL c4 (n:Int) 3) (gL c4 (n:Int) 4)=gR c4 (n:Int) from hrow.symm] at ih'
   rw[ZH (by omega),atC_deep g4 hnl,ZH ⟨by omega,by simp only[List.length_cons];omega,by omega,rows1 gp⟩]
   have htk:(((([.str w]:List D)::q::ps).drop (Int.toNat (1:Int))).take ((([.str w]:List D)::q::ps).length-Int.toNat (1:Int)))=q::ps:=by
    rw[show Int.toNat (1:Int)=1 from rfl,List.drop_succ_cons,List.drop_zero,List.take_of_length_le (by simp only[List.length_cons];omega)]
   rw[htk]
   unfold Y8.f Y8.w
   have hm:∀ {e0:Int} {e1:BA} {e2:Int} {e3 e4:LD},(((Zc c4).modify n λc=>c.map C.gone).modify n λc=>Zs c 0 [.d (.int .i64 e0),.d (.str e1),.d (.int .i64 e2),.own (Zc e3),.own (Zc e4)])=Zc (c4.take n++mkV e0 e1 e2 e3 e4::c4.drop (n+1)):=λ{e0 e1 e2 e3 e4}=>by
    rw[List.modify_modify_eq]
    refine deepRows_mod hnl λr hr=>?_
    rw[List.getElem?_eq_getElem hnl] at hr
    injection hr with hr
    have e:([.d (.int .i64 e0),.d (.str e1),.d (.int .i64 e2),.own (Zc e3),.own (Zc e4)]:List C)=ZN (mkV e0 e1 e2 e3 e4):=by simp only[mkV,ZN,deepD]
    show Zs ((ZN r).map C.gone) 0 _=_
    rw[e]
    refine splice_full ?_
    rw[gone_len,Ybg,Ybg,<- hr,(g4.2 _ (List.getElem_mem hnl)).len]
    rfl
   cases hd:doV kind (mkV x0 x1 x2 x3 x4) (q::ps) (gR c4 (n:Int)) with
   |none=>
    rw[hd] at ih'
    obtain⟨z0,z1,z2,z3,z4,e⟩:=ih'
    rw[e]
    dsimp only
    rw[ZH (by rw[List.length_modify];omega),ZH (by rw[List.length_modify];omega)]
    exact⟨_,_,_,_,_,rfl⟩
   |some y=>
    rw[hd] at ih'
    rw[show Y8.t k _ _ _ _ _ _ _ _ _ _ _ _ _=_ from ih']
    simp only[retC]
    rw[ZH (by rw[List.length_modify];omega),ZH (by rw[List.length_modify];omega),hm]
    obtain h5|h5:=kid45 hq
    ·obtain⟨rfl,rfl,-,-⟩:=o.five h5
     show some _=some _
     rw[<- doV_mk hd]
     rfl
    ·obtain⟨rfl,rfl,-⟩:=o.four h5
     show some _=some _
     rw[<- doV_mk hd]
     rfl
theorem OkV.val {c0:Int} {c1:BA} {c2:Int} {c3 c4:LD} (h:OkV 6 (mkV c0 c1 c2 c3 c4)):valB c0 c1 c2 c3 c4=true:=by
 have h1:=Ya9 6 (mkV c0 c1 c2 c3 c4)
 have h2:=h.ok
 exact ZY (show Ya2 6 (mkV c0 c1 c2 c3 c4)>0 by omega)
theorem row_h {c0:Int} {c1:BA} {c2:Int} {c3 c4:LD} (g0:(Lit.int .i64 c0).wf=true) (g1:c1.size<=lim) (g2:(Lit.int .i64 c2).wf=true) (g3:ZB RS lim c3) (g4:ZB Yr lim c4):YD lim (1099511627776+1) (mkV c0 c1 c2 c3 c4):=.mk c0 c1 c2 c3 c4 g0 g1 g2 g3 g4.1 (value_h g4)
theorem valB_ok {c0:Int} {c1:BA} {c2:Int} {c3 c4:LD} {N:Nat} (h:YD lim N (mkV c0 c1 c2 c3 c4)) (hv:valB c0 c1 c2 c3 c4=true):OkV 6 (mkV c0 c1 c2 c3 c4):=.of h (by
 unfold valB at hv
 have:=of_decide_eq_true hv
 exact λe=>absurd this (by rw[show Ya2 6 [.int .i64 c0,.str c1,.int .i64 c2,.sl c3,.sl c4]=0 from e];decide))
theorem h_open {N:Nat} {r:List D} (h:YD lim N r) (hN:N<=1000):∃ c0 c1 c2 c3 c4,r=mkV c0 c1 c2 c3 c4/\(Lit.int .i64 c0).wf=true/\c1.size<=lim/\(Lit.int .i64 c2).wf=true/\ZB RS lim c3/\ZB Yr lim c4:=by
 cases h with
 |@mk d c0 c1 c2 c3 c4 k0 k1 k2 k3 k4 m4=>exact⟨c0,c1,c2,c3,c4,rfl,k0,k1,k2,k3,k4,λx hx=>⟨d,λ_=>by omega,m4 x hx⟩⟩
structure OpenOp (ps:LD) (x0:Int) (x1:BA) (x2:Int) (x3 x4:LD):Prop where
 gp:ZB RS lim ps
 ne:ps≠[]
 len:ps.length<=5
 u3:ZB RS lim x3
 u4:ZB Yr lim x4
 h:YD lim 6 (mkV x0 x1 x2 x3 x4)
theorem OpenOp.of {kind:Int} {ps:LD} {x0:Int} {x1:BA} {x2:Int} {x3 x4:LD} (gp:ZB RS lim ps) (u0:(Lit.int .i64 x0).wf=true) (u1:x1.size<=lim) (u2:(Lit.int .i64 x2).wf=true) (u3:ZB RS lim x3) (u4:ZB Yr lim x4) (h:opOkB kind ps x0 x1 x2 x3 x4=true):OpenOp ps x0 x1 x2 x3 x4:=by
 unfold opOkB pathB at h
 simp only[Bool.and_eq_true] at h
 obtain⟨-,⟨-,hi⟩,hv⟩:=h
 unfold inB at hi
 rw[Bool.and_eq_true,decide_eq_true_iff,decide_eq_true_iff] at hi
 refine⟨gp,λe=>by subst e;simp at hi,by omega,u3,u4,?_⟩
 cases h2:(kind==2)<;>rw[h2] at hv
 ·exact(valB_ok (row_h u0 u1 u2 u3 u4) hv).h
 ·unfold zeroB at hv
  simp only[cond_true,Bool.and_eq_true,beq_iff_eq] at hv
  have e4:x4=[]:=List.length_eq_zero_iff.mp (by omega)
  exact .mk x0 x1 x2 x3 x4 u0 u1 u2 u3 u4.1 λx hx=>by rw[e4] at hx;cases hx
set_option maxRecDepth 100000 in
set_option maxHeartbeats 2000000 in
theorem reachI_t {c0:Int} {c1:BA} {c2:Int} {c3 c4 ps:LD} (h:OkV 6 (mkV c0 c1 c2 c3 c4)) (gp:ZB RS lim ps) {k:Nat} (hk:Zai 1 k):Yao.t k c0 c1 c2 c3 c4 ps=some (outC (Ybf ps (mkV c0 c1 c2 c3 c4))):=by
 have hlim:lim=1048576:=rfl
 have hb:big=2^64:=rfl
 have hl:=gp.1
 have hk0:Fuel k:=up0 hk
 unfold Yao.t Yao.g
 obtain⟨f0,f1,f2,f3,f4,fe,-,k1,-,k3,k4⟩:=h_open h.h (by omega)
 injection fe with v0 fe;injection fe with v1 fe;injection fe with v2 fe;injection fe with v3 fe;injection fe with v4 fe
 injection v0 with _ v0;injection v1 with v1;injection v2 with _ v2;injection v3 with v3;injection v4 with v4
 subst v0 v1 v2 v3 v4
 rw[Ybc k1 k3 k4 hk,h.val]
 simp only[Bool.not_true,cond_false]
 refine Eq.trans (iter_val (λv:Int×Int×BA×Int×LD×LD=>ps.length-v.1.toNat) (λv=>0<=v.1/\v.1<=(ps.length:Int)/\∃ e,e<=1000/\OkV e (mkV v.2.1 v.2.2.1 v.2.2.2.1 v.2.2.2.2.1 v.2.2.2.2.2)) (λv=>some (outC (Ybf (ps.drop v.1.toNat) (mkV v.2.1 v.2.2.1 v.2.2.2.1 v.2.2.2.2.1 v.2.2.2.2.2)))) ?_ k (0,c0,c1,c2,c3,c4) ⟨by simp,by simp,6,by omega,h⟩ (by unfold Fuel at hk0;show ps.length-(0:Int).toNat<k;omega)) (by rfl)
 clear h k1 k3 k4
 rintro⟨n,c0,c1,c2,c3,c4⟩ ⟨n0,n1,e,he,ho⟩ L hL
 replace n0:0<=n:=n0
 obtain⟨i,rfl⟩:∃ i:Nat,n=(i:Int):=⟨n.toNat,by omega⟩
 replace n1:(i:Int)<=(ps.length:Int):=n1
 replace ho:OkV e (mkV c0 c1 c2 c3 c4):=ho
 simp only[Int.toNat_natCast]
 obtain⟨e',d0,d1,d2,d3,d4,rfl,ev,o⟩:=ho.open
 injection ev with v0 ev;injection ev with v1 ev;injection ev with v2 ev;injection ev with v3 ev;injection ev with v4 ev
 injection v0 with _ v0;injection v1 with v1;injection v2 with _ v2;injection v3 with v3;injection v4 with v4
 subst v0 v1 v2 v3 v4
 by_cases hi:i<ps.length
 ·rw[List.drop_eq_getElem_cons hi]
  have hg:ps[i]=gR ps (i:Int):=by have:=gR_at (xs:=ps) (v:=(i:Int)) (by omega) (by omega);rw[Int.toNat_natCast,List.getElem?_eq_getElem hi] at this;injection this
  rw[hg]
  unfold Ybf
  simp(disch:=omega) only[Yao.l0,atR,rdQ,Q.ask,ZY (show(i:Int)<(ps.length:Int) by omega),cond_true,RS.row gp,Z4,ZaQ,Zan]
  rw[step_fv o.g3 (λe=>(o.five e).2.2.1) hk0]
  have ek:Ya7 (rI (mkV c0 c1 c2 c3 c4) 0) (rL (mkV c0 c1 c2 c3 c4) 3) (rL (mkV c0 c1 c2 c3 c4) 4) (rS (gR ps (i:Int)) 0)=Ya7 c0 c3 c4 (gS ps (i:Int) 0):=rfl
  have el:rL (mkV c0 c1 c2 c3 c4) 4=c4:=rfl
  rw[ek,el]
  by_cases hq:Ya7 c0 c3 c4 (gS ps (i:Int) 0)<0
  ·rw[ZY hq]
   rfl
  ·rw[ZZ hq]
   simp only[cond_false]
   obtain⟨j,hj,hjl⟩:=kidV_lt hq
   rw[hj]
   have hrow:=(Yr.get (o.kg (by omega)) (v:=(j:Int)) (by omega) (by omega)).1
   simp(disch:=omega) only[Yr.row (o.kg (by omega)),Z4,Z5,ZaQ,Zbl,Zan,Z9]
   rw[hL _ ⟨by show 0<=(i:Int)+1;omega,by show(i:Int)+1<=_;omega,e',by omega,by show OkV e' (mkV (gI c4 (j:Int) 0) (gS c4 (j:Int) 1) (gI c4 (j:Int) 2) (gL c4 (j:Int) 3) (gL c4 (j:Int) 4));rw[show mkV (gI c4 (j:Int) 0) (gS c4 (j:Int) 1) (gI c4 (j:Int) 2) (gL c4 (j:Int) 3) (gL c4 (j:Int) 4)=gR c4 (j:Int) from hrow.symm];exact o.kids _ (gR_mem (by omega) (by omega))⟩ (by show ps.length-((i:Int)+1).toNat<ps.length-(i:Int).toNat;omega)]
   show some (outC (Ybf (ps.drop ((i:Int)+1).toNat) (mkV (gI c4 (j:Int) 0) (gS c4 (j:Int) 1) (gI c4 (j:Int) 2) (gL c4 (j:Int) 3) (gL c4 (j:Int) 4))))=_
   rw[show mkV (gI c4 (j:Int) 0) (gS c4 (j:Int) 1) (gI c4 (j:Int) 2) (gL c4 (j:Int) 3) (gL c4 (j:Int) 4)=gR c4 (j:Int) from hrow.symm,show((i:Int)+1).toNat=i+1 by omega]
 ·rw[List.drop_eq_nil_of_le (by omega)]
  simp only[Yao.l0,atR,rdQ,Q.ask,ZZ (show ¬ (i:Int)<(ps.length:Int) by omega),cond_false]
  rw[Yba o.g3 (o.kg (by omega)) hk]
  rfl
noncomputable def opV (kind:Int) (ps:LD) (x0:Int) (x1:BA) (x2:Int) (x3 x4:LD) (v:List D):Option (List D):=
 bif kind==3 then(match Ybf ps v with|some y=>bif sameVB (rI y 0) (rS y 1) (rI y 2) (rL y 3) (rL y 4) x0 x1 x2 x3 x4 then some v else none|none=>none)
 else(match doV kind (mkV x0 x1 x2 x3 x4) ps v with|some r=>bif valB (rI r 0) (rS r 1) (rI r 2) (rL r 3) (rL r 4) then some r else none|none=>none)
def AnsV (t:Option (Int×BA×Int×LD×LD×Bool)) (o:Option (List D)):Prop:=match o with|some r=>t=some (rI r 0,rS r 1,rI r 2,rL r 3,rL r 4,true)|none=>∃ z0 z1 z2 z3 z4,t=some (z0,z1,z2,z3,z4,false)
section
variable {kind:Int} {ps:LD} {x0:Int} {x1:BA} {x2:Int} {x3 x4:LD} {c0:Int} {c1:BA} {c2:Int} {c3 c4:LD}
theorem opV_ok (g:OpenOp ps x0 x1 x2 x3 x4) {v r:List D} (h:OkV 6 v) (e:opV kind ps x0 x1 x2 x3 x4 v=some r):OkV 6 r:=by
 unfold opV at e
 cases h3:(kind==3)<;>rw[h3] at e<;>simp only[cond_true,cond_false] at e
 ·cases hd:doV kind (mkV x0 x1 x2 x3 x4) ps v with
  |none=>rw[hd] at e;cases e
  |some y=>
   rw[hd] at e
   have hh:=doV_h g.h h g.gp.2 hd
   have hm:=doV_mk hd
   simp only at e
   cases hv:valB (rI y 0) (rS y 1) (rI y 2) (rL y 3) (rL y 4)<;>rw[hv] at e
   ·cases e
   ·injection e with e
    subst e
    rw[hm] at hh⊢
    exact valB_ok hh hv
 ·cases hd:Ybf ps v with
  |none=>rw[hd] at e;cases e
  |some y=>
   rw[hd] at e
   simp only at e
   cases hv:sameVB (rI y 0) (rS y 1) (rI y 2) (rL y 3) (rL y 4) x0 x1 x2 x3 x4<;>rw[hv] at e
   ·cases e
   ·injection e with e
    subst e
    exact h
theorem l5One_t (g:OpenOp ps x0 x1 x2 x3 x4) (h:OkV 6 (mkV c0 c1 c2 c3 c4)) {k:Nat} (hk:Zai 1 k):AnsV (Ya4.t k c0 c1 c2 c3 c4 kind ps x0 x1 x2 x3 x4) (opV kind ps x0 x1 x2 x3 x4 (mkV c0 c1 c2 c3 c4)):=by
 have hb:big=2^64:=rfl
 have h1:lv 1=2^65:=rfl
 have hp:=g.len
 have hne:ps.length≠0:=λe=>g.ne (List.length_eq_zero_iff.mp e)
 unfold Ya4.t Ya4.g opV
 cases(kind==3)<;>simp only[cond_true,cond_false]
 ·have hd:=l5Do_t (kind:=kind) (x0:=x0) (x1:=x1) (x2:=x2) (x3:=x3) (x4:=x4) g.gp (ps.length-1) 6 0 c0 c1 c2 c3 c4 (k:=k) (by omega) h (by omega) (by unfold Zai at hk;omega)
  rw[List.drop_zero] at hd
  rw[Yap.f_of (show Yap.t k c0 c1 c2 c3 c4 kind ps x0 x1 x2 x3 x4 0=some (_,_,_,_,_,_) from hd)]
  clear hd
  cases hd:doV kind (mkV x0 x1 x2 x3 x4) ps (mkV c0 c1 c2 c3 c4) with
  |none=>exact⟨_,_,_,_,_,rfl⟩
  |some y=>
   obtain⟨e0,e1,e2,e3,e4,rfl,-,k1,-,k3,k4⟩:=h_open (doV_h g.h h g.gp.2 hd) (by omega)
   show AnsV (Yan.f k e0 e1 e2 e3 e4 λy=>some (e0,e1,e2,e3,e4,y)) (bif valB e0 e1 e2 e3 e4 then some (mkV e0 e1 e2 e3 e4) else none)
   rw[Ybh k1 k3 k4 hk]
   cases valB e0 e1 e2 e3 e4
   ·exact⟨_,_,_,_,_,rfl⟩
   ·rfl
 ·rw[Y3.f_of (l4Reach_t (by omega) h g.gp hk)]
  cases hd:Ybf ps (mkV c0 c1 c2 c3 c4) with
  |none=>exact⟨_,_,_,_,_,rfl⟩
  |some y=>
   obtain⟨d',hd',hy⟩:=reach_ok h hd
   obtain⟨e0,e1,e2,e3,e4,rfl,-,k1,-,k3,k4⟩:=h_open hy.h (by omega)
   show AnsV (Ye.f k e0 e1 e2 e3 e4 x0 x1 x2 x3 x4 λy=>some (c0,c1,c2,c3,c4,y)) (bif sameVB e0 e1 e2 e3 e4 x0 x1 x2 x3 x4 then some (mkV c0 c1 c2 c3 c4) else none)
   rw[Ye.f_of (sameVB_t k3 k4 g.u3 g.u4 hk).1]
   cases sameVB e0 e1 e2 e3 e4 x0 x1 x2 x3 x4
   ·exact⟨_,_,_,_,_,rfl⟩
   ·rfl
theorem done_t (g:OpenOp ps x0 x1 x2 x3 x4) (h:OkV 6 (mkV c0 c1 c2 c3 c4)) {k:Nat} (hk:Zai 2 k):AnsC (Ya5.t k c0 c1 c2 (Zc c3) (Zc c4) kind ps x0 x1 x2 x3 x4) (opV kind ps x0 x1 x2 x3 x4 (mkV c0 c1 c2 c3 c4)):=by
 have h1:lv 1=2^65:=rfl
 have h2:lv 2=2^66:=rfl
 have hk1:Zai 1 k:=upn hk (by decide)
 have hp:=g.len
 obtain⟨f0,f1,f2,f3,f4,fe,-,j1,-,j3,j4⟩:=h_open h.h (by omega)
 injection fe with v0 fe;injection fe with v1 fe;injection fe with v2 fe;injection fe with v3 fe;injection fe with v4 fe
 injection v0 with _ v0;injection v1 with v1;injection v2 with _ v2;injection v3 with v3;injection v4 with v4
 subst v0 v1 v2 v3 v4
 unfold Ya5.t Ya5.g opV
 rw[ZK,ZK]
 cases(kind==3)<;>simp only[cond_true,cond_false]
 ·rw[Yba j3 j4 hk1]
  have:=changed_t (kind:=kind) (full:=ps) (x0:=x0) (x1:=x1) (x2:=x2) g.u3 g.u4 ps 6 c0 c1 c2 c3 c4 g.ne g.gp (by omega) h (k:=k) (by unfold Zai at hk;omega)
  unfold Y8.f Y8.w
  cases hd:doV kind (mkV x0 x1 x2 x3 x4) ps (mkV c0 c1 c2 c3 c4) with
  |none=>
   rw[hd] at this
   obtain⟨z0,z1,z2,z3,z4,e⟩:=this
   rw[e]
   exact⟨_,_,_,_,_,rfl⟩
  |some y=>
   rw[hd] at this
   obtain⟨e0,e1,e2,e3,e4,rfl,-,k1,-,k3,k4⟩:=h_open (doV_h g.h h g.gp.2 hd) (by omega)
   rw[show Y8.t k c0 c1 c2 (Zc c3) (Zc c4) ps kind ps x0 x1 x2 x3 x4=some (e0,e1,e2,Zc e3,Zc e4,true) from this]
   show AnsC (Yaf.f k e0 e1 e2 (C.immRows (Zc e3)) (C.immRows (Zc e4)) λy=>some (e0,e1,e2,Zc e3,Zc e4,y)) (bif valB e0 e1 e2 e3 e4 then some (mkV e0 e1 e2 e3 e4) else none)
   rw[ZK,ZK,Ybc k1 k3 k4 hk1]
   cases valB e0 e1 e2 e3 e4
   ·exact⟨_,_,_,_,_,rfl⟩
   ·rfl
 ·rw[Yao.f_of (reachI_t h g.gp hk1)]
  cases hd:Ybf ps (mkV c0 c1 c2 c3 c4) with
  |none=>exact⟨_,_,_,_,_,rfl⟩
  |some y=>
   obtain⟨d',hd',hy⟩:=reach_ok h hd
   obtain⟨e0,e1,e2,e3,e4,rfl,-,k1,-,k3,k4⟩:=h_open hy.h (by omega)
   show AnsC (YH.f k e0 e1 e2 (C.immRows (Zc e3)) (C.immRows (Zc e4)) x0 x1 x2 x3 x4 λy=>some (c0,c1,c2,Zc c3,Zc c4,y)) (bif sameVB e0 e1 e2 e3 e4 x0 x1 x2 x3 x4 then some (mkV c0 c1 c2 c3 c4) else none)
   rw[ZK,ZK,YH.f_of (sameVB_t k3 k4 g.u3 g.u4 hk1).2]
   cases sameVB e0 e1 e2 e3 e4 x0 x1 x2 x3 x4
   ·exact⟨_,_,_,_,_,rfl⟩
   ·rfl
end
theorem Yal.f_of {β:Type} {k:Nat} {aB:Int} {aA:BA} {aC:Int} {aD aE a1:LD} {z0:Int} {z1:BA} {z2:Int} {z3 z4:LC} {z5:Int} (h:Yal.t k aB aA aC aD aE a1=some (z0,z1,z2,z3,z4,z5)) (K:Int->BA->Int->LC->LC->Int->Option β):Yal.f k aB aA aC aD aE a1 K=K z0 z1 z2 z3 z4 z5:=by
 unfold Yal.f
 rw[h]
noncomputable def opR (o v:List D):Option (List D):=opV (rI o 0) (rL o 1) (rI o 2) (rS o 3) (rI o 4) (rL o 5) (rL o 6) v
noncomputable def Ybk (v0:List D):LD->Int->List D->List D×Int
 |[],_,v=>(v,-1)
 |o::os,i,v=>match opR o v with|some r=>Ybk v0 os (i+1) r|none=>(v0,i)
noncomputable def Ybj (l:LD) (v:List D):List D×Int:=bif opsB l then Ybk v l 0 v else(v,0)
noncomputable def outP (o:List D×Int):Int×BA×Int×LC×LC×Int:=(rI o.1 0,rS o.1 1,rI o.1 2,Zc (rL o.1 3),Zc (rL o.1 4),o.2)
def OpsOk (l:LD):Prop:=∀ i:Nat,i<l.length->OpenOp (gL l (i:Int) 1) (gI l (i:Int) 2) (gS l (i:Int) 3) (gI l (i:Int) 4) (gL l (i:Int) 5) (gL l (i:Int) 6)
theorem opsB_ok {l:LD} (g:ZB Rop lim l) (h:opsB l=true):OpsOk l:=λi hi=>by
 unfold opsB at h
 rw[Bool.and_eq_true,List.all_eq_true] at h
 have:=h.1 i (List.mem_range.mpr hi)
 obtain⟨-,-,p1,p2,p3,p4,p5,p6,-⟩:=Yn.get g (v:=(i:Int)) (by omega) (by omega)
 exact .of p1 p2 p3 p4 p5 p6 this
theorem patchL_ok {v0:List D} (h0:OkV 6 v0) {l:LD} (g:OpsOk l):∀ (m i:Nat) {v:List D},i+m=l.length->OkV 6 v->OkV 6 (Ybk v0 (l.drop i) (i:Int) v).1/\((Ybk v0 (l.drop i) (i:Int) v).2 = -1\/0<=(Ybk v0 (l.drop i) (i:Int) v).2)
 |0,i,v,hi,h=>by
  rw[List.drop_eq_nil_of_le (by omega)]
  exact⟨h,.inl rfl⟩
 |m+1,i,v,hi,h=>by
  have hl:i<l.length:=by omega
  rw[List.drop_eq_getElem_cons hl,<- gR_lt hl]
  unfold Ybk
  cases hr:opR (gR l (i:Int)) v with
  |none=>exact⟨h0,.inr (by show(0:Int)<=(i:Int);omega)⟩
  |some r=>
   have:=patchL_ok h0 g m (i+1) (v:=r) (by omega) (opV_ok (g i hl) h hr)
   rw[show((i+1:Nat):Int)=(i:Int)+1 by omega] at this
   exact this
theorem patchV_ok {v:List D} (h:OkV 6 v) {l:LD} (g:ZB Rop lim l):OkV 6 (Ybj l v).1/\((Ybj l v).2 = -1\/0<=(Ybj l v).2):=by
 unfold Ybj
 cases ho:opsB l
 ·exact⟨h,.inr (by show(0:Int)<=0;omega)⟩
 ·exact patchL_ok h (opsB_ok g ho) l.length 0 (by omega) h
section
variable {c0:Int} {c1:BA} {c2:Int} {c3 c4 l:LD} {k:Nat}
set_option maxRecDepth 100000 in
set_option maxHeartbeats 2000000 in
theorem patchS_t (h:OkV 6 (mkV c0 c1 c2 c3 c4)) (g:ZB Rop lim l) (hk:Zai 1 k):Yai.t k c0 c1 c2 c3 c4 l=some (outP (Ybj l (mkV c0 c1 c2 c3 c4))):=by
 have hlim:lim=1048576:=rfl
 have hb:big=2^64:=rfl
 have hl:=g.1
 have hk0:Fuel k:=up0 hk
 obtain⟨f0,f1,f2,f3,f4,fe,-,k1,-,k3,k4⟩:=h_open h.h (by omega)
 injection fe with v0 fe;injection fe with v1 fe;injection fe with v2 fe;injection fe with v3 fe;injection fe with v4 fe
 injection v0 with _ v0;injection v1 with v1;injection v2 with _ v2;injection v3 with v3;injection v4 with v4
 subst v0 v1 v2 v3 v4
 unfold Yai.t Yai.g Yai.m Ybj
 rw[Ybh k1 k3 k4 hk,h.val,patchS_fv g hk]
 cases ho:opsB l<;>simp only[Bool.not_true,Bool.not_false,cond_true,cond_false]
 ·rw[l4Copy_fv k3 k4 hk]
  rfl
 have go:=opsB_ok g ho
 refine Eq.trans (iter_val (λv:Int×Int×BA×Int×LD×LD=>l.length-v.1.toNat) (λv=>0<=v.1/\v.1<=(l.length:Int)/\OkV 6 (mkV v.2.1 v.2.2.1 v.2.2.2.1 v.2.2.2.2.1 v.2.2.2.2.2)) (λv=>some (outP (Ybk (mkV c0 c1 c2 c3 c4) (l.drop v.1.toNat) v.1 (mkV v.2.1 v.2.2.1 v.2.2.2.1 v.2.2.2.2.1 v.2.2.2.2.2)))) ?_ k (0,c0,c1,c2,c3,c4) ⟨by simp,by simp,h⟩ (by unfold Fuel at hk0;show l.length-(0:Int).toNat<k;omega)) (by rfl)
 rintro⟨n,e0,e1,e2,e3,e4⟩ ⟨n0,n1,he⟩ L hL
 replace n0:0<=n:=n0
 obtain⟨i,rfl⟩:∃ i:Nat,n=(i:Int):=⟨n.toNat,by omega⟩
 replace n1:(i:Int)<=(l.length:Int):=n1
 replace he:OkV 6 (mkV e0 e1 e2 e3 e4):=he
 simp only[Int.toNat_natCast]
 by_cases hi:i<l.length
 ·rw[List.drop_eq_getElem_cons hi,<- gR_lt hi]
  unfold Ybk
  simp(disch:=omega) only[Yai.l0,atR,rdQ,Q.ask,ZY (show(i:Int)<(l.length:Int) by omega),cond_true,Yn.row g,Z4,Z5,ZaQ,Zbl,Zan]
  have hr:=l5One_t (kind:=gI l (i:Int) 0) (go i hi) he hk
  unfold Ya4.f
  have ho:=λr=>opV_ok (kind:=gI l (i:Int) 0) (r:=r) (go i hi) he
  show _=some (outP (match opV (gI l (i:Int) 0) (gL l (i:Int) 1) (gI l (i:Int) 2) (gS l (i:Int) 3) (gI l (i:Int) 4) (gL l (i:Int) 5) (gL l (i:Int) 6) (mkV e0 e1 e2 e3 e4) with|some r=>Ybk (mkV c0 c1 c2 c3 c4) (l.drop (i+1)) ((i:Int)+1) r|none=>(mkV c0 c1 c2 c3 c4,(i:Int))))
  cases hd:opV (gI l (i:Int) 0) (gL l (i:Int) 1) (gI l (i:Int) 2) (gS l (i:Int) 3) (gI l (i:Int) 4) (gL l (i:Int) 5) (gL l (i:Int) 6) (mkV e0 e1 e2 e3 e4) with
  |none=>
   rw[hd] at hr
   obtain⟨z0,z1,z2,z3,z4,e⟩:=hr
   rw[e]
   show YC.f k c0 c1 c2 c3 c4 (λy242 y243 y244 y245 y246=>some (y242,y243,y244,y245,y246,(i:Int)))=_
   rw[l4Copy_fv k3 k4 hk]
   rfl
  |some r=>
   rw[hd] at hr
   have hr2:=ho _ hd
   obtain⟨d0,d1,d2,d3,d4,rfl,-⟩:=h_open hr2.h (by omega)
   rw[show Ya4.t k e0 e1 e2 e3 e4 (gI l (i:Int) 0) (gL l (i:Int) 1) (gI l (i:Int) 2) (gS l (i:Int) 3) (gI l (i:Int) 4) (gL l (i:Int) 5) (gL l (i:Int) 6)=some (d0,d1,d2,d3,d4,true) from hr]
   simp only[Bool.not_true,cond_false]
   rw[Z9 (by omega) (by omega),hL _ ⟨by show 0<=(i:Int)+1;omega,by show(i:Int)+1<=_;omega,hr2⟩ (by show l.length-((i:Int)+1).toNat<l.length-(i:Int).toNat;omega)]
   show some (outP (Ybk (mkV c0 c1 c2 c3 c4) (l.drop ((i:Int)+1).toNat) ((i:Int)+1) (mkV d0 d1 d2 d3 d4)))=_
   rw[show((i:Int)+1).toNat=i+1 by omega]
 ·rw[List.drop_eq_nil_of_le (by omega)]
  obtain⟨f0,f1,f2,f3,f4,fe,-,k1,-,k3,k4⟩:=h_open he.h (by omega)
  injection fe with v0 fe;injection fe with v1 fe;injection fe with v2 fe;injection fe with v3 fe;injection fe with v4 fe
  injection v0 with _ v0;injection v1 with v1;injection v2 with _ v2;injection v3 with v3;injection v4 with v4
  subst v0 v1 v2 v3 v4
  simp only[Yai.l0,atR,rdQ,Q.ask,ZZ (show ¬ (i:Int)<(l.length:Int) by omega),cond_false]
  rw[l4Copy_fv k3 k4 hk]
  rfl
set_option maxRecDepth 100000 in
set_option maxHeartbeats 2000000 in
theorem patchI_t (h:OkV 6 (mkV c0 c1 c2 c3 c4)) (g:ZB Rop lim l) (hk2:Zai 2 k):Yal.t k c0 c1 c2 c3 c4 l=some (outP (Ybj l (mkV c0 c1 c2 c3 c4))):=by
 have hlim:lim=1048576:=rfl
 have hb:big=2^64:=rfl
 have hl:=g.1
 have hk:Zai 1 k:=upn hk2 (by decide)
 have hk0:Fuel k:=up0 hk
 obtain⟨f0,f1,f2,f3,f4,fe,-,k1,-,k3,k4⟩:=h_open h.h (by omega)
 injection fe with v0 fe;injection fe with v1 fe;injection fe with v2 fe;injection fe with v3 fe;injection fe with v4 fe
 injection v0 with _ v0;injection v1 with v1;injection v2 with _ v2;injection v3 with v3;injection v4 with v4
 subst v0 v1 v2 v3 v4
 unfold Yal.t Yal.g Yal.m Ybj
 rw[Ybc k1 k3 k4 hk,h.val,patchI_fv g hk]
 cases ho:opsB l<;>simp only[Bool.not_true,Bool.not_false,cond_true,cond_false]
 ·rw[Yba k3 k4 hk]
  rfl
 have go:=opsB_ok g ho
 rw[Yba k3 k4 hk]
 refine Eq.trans (iter_val (λv:Int×Int×BA×Int×LC×LC=>l.length-v.1.toNat) (λv=>0<=v.1/\v.1<=(l.length:Int)/\∃ e3 e4,v.2.2.2.2.1=Zc e3/\v.2.2.2.2.2=Zc e4/\OkV 6 (mkV v.2.1 v.2.2.1 v.2.2.2.1 e3 e4)) (λv=>some (outP (Ybk (mkV c0 c1 c2 c3 c4) (l.drop v.1.toNat) v.1 (mkV v.2.1 v.2.2.1 v.2.2.2.1 (C.immRows v.2.2.2.2.1) (C.immRows v.2.2.2.2.2))))) ?_ k (0,c0,c1,c2,Zc c3,Zc c4) ⟨by simp,by simp,c3,c4,rfl,rfl,h⟩ (by unfold Fuel at hk0;show l.length-(0:Int).toNat<k;omega)) (by show some (outP (Ybk (mkV c0 c1 c2 c3 c4) l 0 (mkV c0 c1 c2 (C.immRows (Zc c3)) (C.immRows (Zc c4)))))=_;rw[ZK,ZK])
 rintro⟨n,e0,e1,e2,e3,e4⟩ ⟨n0,n1,d3,d4,w3,w4,he⟩ L hL
 replace n0:0<=n:=n0
 obtain⟨i,rfl⟩:∃ i:Nat,n=(i:Int):=⟨n.toNat,by omega⟩
 replace n1:(i:Int)<=(l.length:Int):=n1
 replace he:OkV 6 (mkV e0 e1 e2 d3 d4):=he
 replace w3:e3=Zc d3:=w3
 replace w4:e4=Zc d4:=w4
 subst w3 w4
 simp only[Int.toNat_natCast,ZK]
 by_cases hi:i<l.length
 ·rw[List.drop_eq_getElem_cons hi,<- gR_lt hi]
  unfold Ybk
  simp(disch:=omega) only[Yal.l0,atR,rdQ,Q.ask,ZY (show(i:Int)<(l.length:Int) by omega),cond_true,Yn.row g,Z4,Z5,ZaQ,Zbl,Zan]
  have hr:=done_t (kind:=gI l (i:Int) 0) (go i hi) he hk2
  unfold Ya5.f
  have ho:=λr=>opV_ok (kind:=gI l (i:Int) 0) (r:=r) (go i hi) he
  show _=some (outP (match opV (gI l (i:Int) 0) (gL l (i:Int) 1) (gI l (i:Int) 2) (gS l (i:Int) 3) (gI l (i:Int) 4) (gL l (i:Int) 5) (gL l (i:Int) 6) (mkV e0 e1 e2 d3 d4) with|some r=>Ybk (mkV c0 c1 c2 c3 c4) (l.drop (i+1)) ((i:Int)+1) r|none=>(mkV c0 c1 c2 c3 c4,(i:Int))))
  cases hd:opV (gI l (i:Int) 0) (gL l (i:Int) 1) (gI l (i:Int) 2) (gS l (i:Int) 3) (gI l (i:Int) 4) (gL l (i:Int) 5) (gL l (i:Int) 6) (mkV e0 e1 e2 d3 d4) with
  |none=>
   rw[hd] at hr
   obtain⟨z0,z1,z2,z3,z4,e⟩:=hr
   rw[e]
   show Yj.f k c0 c1 c2 c3 c4 (λy242 y243 y244 y245 y246=>some (y242,y243,y244,y245,y246,(i:Int)))=_
   rw[Yba k3 k4 hk]
   rfl
  |some r=>
   rw[hd] at hr
   have hr2:=ho _ hd
   obtain⟨f0,f1,f2,f3,f4,rfl,-⟩:=h_open hr2.h (by omega)
   rw[show Ya5.t k e0 e1 e2 (Zc d3) (Zc d4) (gI l (i:Int) 0) (gL l (i:Int) 1) (gI l (i:Int) 2) (gS l (i:Int) 3) (gI l (i:Int) 4) (gL l (i:Int) 5) (gL l (i:Int) 6)=some (f0,f1,f2,Zc f3,Zc f4,true) from hr]
   simp only[Bool.not_true,cond_false]
   rw[Z9 (by omega) (by omega),hL _ ⟨by show 0<=(i:Int)+1;omega,by show(i:Int)+1<=_;omega,f3,f4,rfl,rfl,hr2⟩ (by show l.length-((i:Int)+1).toNat<l.length-(i:Int).toNat;omega)]
   show some (outP (Ybk (mkV c0 c1 c2 c3 c4) (l.drop ((i:Int)+1).toNat) ((i:Int)+1) (mkV f0 f1 f2 (C.immRows (Zc f3)) (C.immRows (Zc f4)))))=_
   rw[show((i:Int)+1).toNat=i+1 by omega,ZK,ZK]
 ·rw[List.drop_eq_nil_of_le (by omega)]
  simp only[Yal.l0,atR,rdQ,Q.ask,ZZ (show ¬ (i:Int)<(l.length:Int) by omega),cond_false]
  rfl
end
theorem Yat.f_of {β:Type} {k:Nat} {aB:Int} {aA:BA} {aC:Int} {aD aE aK:LD} {aL:Int} {aZ:BA} {bA:Int} {aX aW aY:LD} {bC:Bool} {a1:BA} {z0:Int} {z1:BA} {z2:Int} {z3 z4:LC} {z5:Bool} (h:Yat.t k aB aA aC aD aE aK aL aZ bA aX aW aY bC a1=some (z0,z1,z2,z3,z4,z5)) (K:Int->BA->Int->LC->LC->Bool->Option β):Yat.f k aB aA aC aD aE aK aL aZ bA aX aW aY bC a1 K=K z0 z1 z2 z3 z4 z5:=by
 unfold Yat.f
 rw[h]
theorem Yat.tm {ι α:Type} {ok:ι->Prop} {ψ:α->Prop} {p:ι->Nat} {B:Nat} (hp:∀ i,ok i->B<=p i) {aB:Int} {aA:BA} {aC:Int} {aD aE aK:LD} {aL:Int} {aZ:BA} {bA:Int} {aX aW aY:LD} {bC:Bool} {a1:BA} {φ:Int×BA×Int×LC×LC×Bool->Prop} (h:Tm (λk=>B<=k) (λk=>Yat.t k aB aA aC aD aE aK aL aZ bA aX aW aY bC a1) φ) {G:ι->Int->BA->Int->LC->LC->Bool->Option α} (hG:∀ z0 z1 z2 z3 z4 z5,φ (z0,z1,z2,z3,z4,z5)->Tm ok (λι0=>G ι0 z0 z1 z2 z3 z4 z5) ψ):Tm ok (λι0=>Yat.f (p ι0) aB aA aC aD aE aK aL aZ bA aX aW aY bC a1 (G ι0)) ψ:=by
 obtain⟨⟨z0,z1,z2,z3,z4,z5⟩,h1,h2⟩:=h
 exact(hG z0 z1 z2 z3 z4 z5 h1).congr λi0 hi0=>Yat.f_of (h2 (p i0) (hp i0 hi0)) _
def capW:Nat->Nat
 |0=>0
 |d+1=>303+300*capW d
theorem wt_le {n:Nat}:∀ {xs:LD},(∀ x∈xs,ZbY x<=n)->Zu xs<=n*xs.length
 |[],_=>by simp only[Zu,List.length_nil];omega
 |r::xs,h=>by
  have h1:=h r (by simp)
  have h2:=wt_le (xs:=xs) λx hx=>h x (by simp[hx])
  simp only[Zu,List.length_cons]
  rw[Nat.mul_add]
  omega
theorem wt_names {xs:LD} (h:∀ x∈xs,RS lim x):Zu xs<=xs.length:=by
 have:=wt_le (n:=1) (xs:=xs) λx hx=>by
  obtain⟨w,rfl,-⟩:=h x hx
  simp only[ZbY,wtD]
  omega
 omega
theorem keys_len {c0:Int} {c1:BA} {c2:Int} {c3 c4:LD} (h:Ya8 c0 c1 c2 c3 c4=true) (l4:c4.length<=300):c3.length<=300:=by
 unfold Ya8 at h
 cases h1:(c0==1)<;>rw[h1] at h<;>simp only[cond_true,cond_false,Bool.and_eq_true,beq_iff_eq] at h
 ·cases h2:(c0==2)<;>rw[h2] at h<;>simp only[cond_true,cond_false,Bool.and_eq_true,beq_iff_eq] at h
  ·cases h3:(c0==3)<;>rw[h3] at h<;>simp only[cond_true,cond_false,Bool.and_eq_true,beq_iff_eq] at h
   ·cases h4:(c0==4)<;>rw[h4] at h<;>simp only[cond_true,cond_false,Bool.and_eq_true,beq_iff_eq] at h
    ·cases h5:(c0==5)<;>rw[h5] at h<;>simp only[cond_true,cond_false,Bool.and_eq_true,beq_iff_eq] at h
     ·cases h
     ·have:=h.1.2;omega
    ·have:=h.1;omega
   ·have:=h.1;omega
  ·have:=h.1;omega
 ·have:=h.1;omega
theorem Ybm.wt3 {d:Nat} {c0:Int} {c1:BA} {c2:Int} {c3 c4:LD} (o:Ybm d c0 c1 c2 c3 c4):Zu c3<=300:=Nat.le_trans (wt_names o.g3.2) (keys_len o.sh o.len)
theorem OkV.wt:∀ {d:Nat} {r:List D},OkV d r->ZbY r<=capW d
 |0,r,h=>absurd rfl h.ok
 |d+1,r,h=>by
  obtain⟨d',c0,c1,c2,c3,c4,e,rfl,o⟩:=h.open
  injection e with e
  subst e
  have h3:=o.wt3
  have h4:=wt_le (n:=capW d) (xs:=c4) λx hx=>(o.kids x hx).wt
  have h5:capW d*c4.length<=capW d*300:=Nat.mul_le_mul_left _ o.len
  simp only[ZbY,wtD,capW]
  omega
theorem Ybm.wt4 {d:Nat} {c0:Int} {c1:BA} {c2:Int} {c3 c4:LD} (o:Ybm d c0 c1 c2 c3 c4):Zu c4<=capW d*300:=Nat.le_trans (wt_le λx hx=>(o.kids x hx).wt) (Nat.mul_le_mul_left _ o.len)
noncomputable def Ybt (c0:Int) (c1:BA) (c2:Int) (c3 c4 js:LD) (w:BA):Option (List D):=
 bif valB c0 c1 c2 c3 c4 then
  (bif decide (ZbV (λi=>Zae (gS js (i:Int) 0) w) js.length<0) then some (mkV c0 c1 c2 c3 c4) else
   bif decide ((Ybj (gL js (ZbV (λi=>Zae (gS js (i:Int) 0) w) js.length) 1) (mkV c0 c1 c2 c3 c4)).2>=0) then none else some (Ybj (gL js (ZbV (λi=>Zae (gS js (i:Int) 0) w) js.length) 1) (mkV c0 c1 c2 c3 c4)).1)
 else none
section
variable {c0:Int} {c1:BA} {c2:Int} {c3 c4 js:LD} {w:BA} (k0:(Lit.int .i64 c0).wf=true) (k1:c1.size<=lim) (k2:(Lit.int .i64 c2).wf=true) (k3:ZB RS lim c3) (k4:ZB Yr lim c4) (gj:ZB Yg lim js)
include k0 k1 k2 k3 k4 gj
theorem renderV_ok:∀ r,Ybt c0 c1 c2 c3 c4 js w=some r->OkV 6 r:=by
 intro r e
 unfold Ybt at e
 cases hv:valB c0 c1 c2 c3 c4<;>rw[hv] at e
 ·cases e
 have h:=valB_ok (row_h k0 k1 k2 k3 k4) hv
 by_cases hq:ZbV (λi=>Zae (gS js (i:Int) 0) w) js.length<0
 ·rw[ZY hq] at e
  injection e with e
  subst e
  exact h
 ·rw[ZZ hq] at e
  obtain⟨q1,-,q3,-⟩:=findI_some (by omega:0<=ZbV (λi=>Zae (gS js (i:Int) 0) w) js.length)
  generalize ZbV (λi=>Zae (gS js (i:Int) 0) w) js.length=n at *
  obtain⟨-,-,gl,-⟩:=Yg.get gj (v:=n) (by omega) (by omega)
  have:=patchV_ok h gl
  simp only[cond_true,cond_false] at e
  cases hd:decide ((Ybj (gL js n 1) (mkV c0 c1 c2 c3 c4)).2>=0)<;>rw[hd] at e
  ·injection e with e
   subst e
   exact this.1
  ·cases e
set_option maxRecDepth 100000 in
theorem renderS_t {aB:Int} {aA:BA} {aC:Int} {aD aE aK:LD} {b:Bool} {k:Nat} (hk:Zai 1 k):YW.t k aB aA aC aD aE aK c0 c1 c2 c3 c4 js b w=some (outC (Ybt c0 c1 c2 c3 c4 js w)):=by
 have hlim:lim=1048576:=rfl
 have hb:big=2^64:=rfl
 have hl:=gj.1
 have hk0:Fuel k:=up0 hk
 unfold YW.t YW.g Ybt
 rw[Ybh k1 k3 k4 hk]
 cases hv:valB c0 c1 c2 c3 c4
 ·rfl
 have h:=valB_ok (row_h k0 k1 k2 k3 k4) hv
 simp only[Bool.not_true,cond_false,cond_true]
 refine iter_findI (λi=>Zae (gS js (i:Int) 0) w) (λn=>some (outC (bif decide (n<0) then some (mkV c0 c1 c2 c3 c4) else bif decide ((Ybj (gL js n 1) (mkV c0 c1 c2 c3 c4)).2>=0) then none else some (Ybj (gL js n 1) (mkV c0 c1 c2 c3 c4)).1))) (by unfold Fuel at hk0;omega) (λL i hi=>?_) (λL=>?_)
 ·simp(disch:=omega) only[YW.l0,atR,rdQ,Q.ask,ZY (show(i:Int)<(js.length:Int) by omega),cond_true,Yg.row gj,Z4,ZaQ,Zbl,Zan,Z9]
  obtain⟨-,-,gl,-⟩:=Yg.get gj (v:=(i:Int)) (by omega) (by omega)
  cases Zae (gS js (i:Int) 0) w
  ·rfl
  ·simp only[cond_true]
   rw[Yai.f_of (patchS_t h gl hk),ZZ (show ¬ (i:Int)<0 by omega),cond_false]
   cases decide ((Ybj (gL js (i:Int) 1) (mkV c0 c1 c2 c3 c4)).2>=0)<;>rfl
 ·simp only[YW.l0,atR,rdQ,Q.ask,ZZ (show ¬ (js.length:Int)<(js.length:Int) by omega),cond_false]
  rw[l4Copy_fv k3 k4 hk]
  rfl
set_option maxRecDepth 100000 in
theorem renderI_t {aB:Int} {aA:BA} {aC:Int} {aD aE aK:LD} {b:Bool} {k:Nat} (hk2:Zai 2 k):Yat.t k aB aA aC aD aE aK c0 c1 c2 c3 c4 js b w=some (outC (Ybt c0 c1 c2 c3 c4 js w)):=by
 have hlim:lim=1048576:=rfl
 have hb:big=2^64:=rfl
 have hl:=gj.1
 have hk:Zai 1 k:=upn hk2 (by decide)
 have hk0:Fuel k:=up0 hk
 have hi:∀ {β:Type} (K:Int->Option β),Yb.f k js w K=K (ZbV (λi=>Zae (gS js (i:Int) 0) w) js.length):=λ{β} K=>Yb.f_of (by
  unfold Yb.t Yb.g
  refine iter_findI (n:=js.length) _ some (by unfold Fuel at hk0;omega) (λL i hi=>?_) (λL=>by simp[Yb.l0,atR,rdQ,Q.ask])
  have h1:∀ {β:Type} (K:Bool->Option β),YaB.f k (gS js (i:Int) 0) (gL js (i:Int) 1) w K=K (Zae (gS js (i:Int) 0) w):=λ{β} K=>YaB.f_of (by
   unfold YaB.t YaB.g
   rfl) K
  simp(disch:=omega) only[Yb.l0,atR,rdQ,Q.ask,ZY (show(i:Int)<js.length by omega),cond_true,Yg.row gj,Z4,ZaQ,Zbl,Zan,h1,Z9]) K
 unfold Yat.t Yat.g Ybt;simp only[atR,rdQ,Q.ask]
 rw[Ybc k1 k3 k4 hk,hi]
 cases hv:valB c0 c1 c2 c3 c4
 ·rfl
 have h:=valB_ok (row_h k0 k1 k2 k3 k4) hv
 simp only[Bool.not_true,cond_false,cond_true]
 by_cases hq:ZbV (λi=>Zae (gS js (i:Int) 0) w) js.length<0
 ·rw[ZY hq,Yba k3 k4 hk]
  rfl
 ·rw[ZZ hq]
  obtain⟨q1,-,q3,-⟩:=findI_some (by omega:0<=ZbV (λi=>Zae (gS js (i:Int) 0) w) js.length)
  generalize ZbV (λi=>Zae (gS js (i:Int) 0) w) js.length=n at *
  obtain⟨-,-,gl,-⟩:=Yg.get gj (v:=n) (by omega) (by omega)
  simp(disch:=omega) only[cond_false,Yg.row gj,Z4,ZaQ,Zbl,Zan]
  rw[Yal.f_of (patchI_t h gl hk2)]
  have:=(patchV_ok h gl).2
  generalize Ybj (gL js n 1) (mkV c0 c1 c2 c3 c4)=p at this⊢
  obtain⟨p1,p2⟩:=p
  simp only at this⊢
  rcases this with q|q
  ·subst q
   rfl
  ·rw[ZY (show p2>=0 by omega),show(p2 != -1)=true by simp only[bne_iff_ne,ne_eq];omega]
   rfl
end
theorem YW.T {aB:Int} {aA:BA} {aC:Int} {aD aE aK:LD} {aL:Int} {aZ:BA} {bA:Int} {aX aW aY:LD} {bC:Bool} {a1:BA} (ga0_0:(Lit.int .i64 aB).wf=true) (ga0_1:aA.size<=lim) (ga0_2:(Lit.int .i64 aC).wf=true) (ga0_3:ZB YaY lim aD) (ga0_4:ZB RS lim aE) (ga0_5:ZB RSI lim aK) (ga0_6:(Lit.int .i64 aL).wf=true) (ga0_7:aZ.size<=lim) (ga0_8:(Lit.int .i64 bA).wf=true) (ga0_9:ZB RS lim aX) (ga0_10:ZB Yr lim aW) (ga0_11:ZB Yg lim aY) (ga1:a1.size<=lim) (gw3:Zu aD<=67108864) (gw10:Zu aW<=67108864) (gw11:Zu aY<=67108864):Tm (Zai 1) (λk=>YW.t k aB aA aC aD aE aK aL aZ bA aX aW aY bC a1) (λz=>z.2.1.size<=2097152/\ZB RS 2097152 (C.immRows z.2.2.2.1)/\Zu (C.immRows z.2.2.2.1)<=1125899906842624/\ZB Yr 2097152 (C.immRows z.2.2.2.2.1)/\Zu (C.immRows z.2.2.2.2.1)<=1125899906842624/\True):=by
 have hlim:lim=1048576:=rfl
 refine⟨outC (Ybt aL aZ bA aX aW aY a1),?_,λk hk=>renderS_t ga0_6 ga0_7 ga0_8 ga0_9 ga0_10 ga0_11 hk⟩
 have ok:=renderV_ok (w:=a1) ga0_6 ga0_7 ga0_8 ga0_9 ga0_10 ga0_11
 generalize Ybt aL aZ bA aX aW aY a1=o at ok⊢
 cases o with
 |none=>exact⟨Nat.zero_le _,⟨Nat.zero_le _,λr hr=>by cases hr⟩,Nat.zero_le _,⟨Nat.zero_le _,λr hr=>by cases hr⟩,Nat.zero_le _,trivial⟩
 |some r=>
  obtain⟨d,c0,c1,c2,c3,c4,e,rfl,o⟩:=(ok r rfl).open
  injection e with e
  subst e
  have w3:=o.wt3
  have w4:Zu c4<=1125899906842624:=by
   have hc:∀ n,capW (n+1)=303+300*capW n:=λn=>rfl
   have w4:=o.wt4
   rw[hc 4,hc 3,hc 2,hc 1,hc 0,capW] at w4
   omega
  show c1.size<=2097152/\ZB RS 2097152 (C.immRows (Zc c3))/\Zu (C.immRows (Zc c3))<=1125899906842624/\ZB Yr 2097152 (C.immRows (Zc c4))/\Zu (C.immRows (Zc c4))<=1125899906842624/\True
  rw[ZK,ZK]
  have h1:=o.w1
  exact⟨by omega,RS.wide o.g3,by omega,Yr.wide (o.kg (by omega)),w4,trivial⟩
theorem Yat.same {aB:Int} {aA:BA} {aC:Int} {aD aE aK:LD} {aL:Int} {aZ:BA} {bA:Int} {aX aW aY:LD} {bC:Bool} {a1:BA} (ga0_0:(Lit.int .i64 aB).wf=true) (ga0_1:aA.size<=lim) (ga0_2:(Lit.int .i64 aC).wf=true) (ga0_3:ZB YaY lim aD) (ga0_4:ZB RS lim aE) (ga0_5:ZB RSI lim aK) (ga0_6:(Lit.int .i64 aL).wf=true) (ga0_7:aZ.size<=lim) (ga0_8:(Lit.int .i64 bA).wf=true) (ga0_9:ZB RS lim aX) (ga0_10:ZB Yr lim aW) (ga0_11:ZB Yg lim aY) (ga1:a1.size<=lim) (gw3:Zu aD<=67108864) (gw10:Zu aW<=67108864) (gw11:Zu aY<=67108864) {k:Nat} (hk:Zai 2 k) {z0:Int} {z1:BA} {z2:Int} {z3 z4:LC} {z5:Bool} (hz:YW.t k aB aA aC aD aE aK aL aZ bA aX aW aY bC a1=some (z0,z1,z2,z3,z4,z5)):Yat.t k aB aA aC aD aE aK aL aZ bA aX aW aY bC a1=some (z0,z1,z2,Zc (C.immRows z3),Zc (C.immRows z4),z5):=by
 rw[renderS_t ga0_6 ga0_7 ga0_8 ga0_9 ga0_10 ga0_11 (upn hk (by decide))] at hz
 rw[renderI_t ga0_6 ga0_7 ga0_8 ga0_9 ga0_10 ga0_11 hk]
 injection hz with hz
 cases hr:Ybt aL aZ bA aX aW aY a1 with
 |none=>
  rw[hr] at hz
  simp only[outC,Prod.mk.injEq] at hz
  obtain⟨rfl,rfl,rfl,rfl,rfl,rfl⟩:=hz
  rfl
 |some r=>
  rw[hr] at hz
  simp only[outC,Prod.mk.injEq] at hz
  obtain⟨rfl,rfl,rfl,rfl,rfl,rfl⟩:=hz
  rw[ZK,ZK]
  rfl
theorem Yy.tm {ι α:Type} {ok:ι->Prop} {ψ:α->Prop} {p:ι->Nat} {B:Nat} (hp:∀ i,ok i->B<=p i) {a0 a1 φ} (h:Tm (λk=>B<=k) (λk=>Yy.t k a0 a1) φ) {G:ι->Bool->Option α} (hG:∀ z0,φ z0->Tm ok (λi=>G i z0) ψ):Tm ok (λi=>Yy.f (p i) a0 a1 (G i)) ψ:=bd1_tm (t:=λk=>Yy.t k a0 a1) hp h hG
set_option maxRecDepth 100000 in
theorem Yy.T {B:Nat} {a0:LD} (ga0:ZB RS B a0) (hB:B<=1099511627776):Tm Fuel (λk=>Yy.t k a0 a0) (λr=>r=true):=by
 unfold Yy.t Yy.g
 have hm:=maxLen_eq
 have hlim:lim=1048576:=rfl
 have hlen:=ga0.1
 refine Tm.ite (λh1=>?_) (λh1=>?_)
 ·try simp only[bz0,bz1,bz2,bz3,bz4,bz5,bz6,bz7,bz8,bz9,bza] at h1
  exact Tm.ret (by first|rfl|(exfalso;simp[strEq_self] at *))
 ·try simp only[bz0,bz1,bz2,bz3,bz4,bz5,bz6,bz7,bz8,bz9,bza] at h1
  refine Tm.loop (okk:=Fuel) (p:=λk=>k) (λi hi=>hi) (b:=λk=>Yy.l0 k a0 a0 (λz0=>some z0)) (λi=>(((a0.length:Int))-i).toNat) (λi=>0<=i/\i<=(a0.length:Int)) ?_ ?_ ?_
  ·rintro i hI
   try simp only[] at hI⊢
   have:big=2^64:=rfl
   have:=ga0.1
   omega
  ·((try simp only[]);omega)
  ·rintro i hI L hL
   try simp only[] at hI
   obtain⟨i0,i1⟩:=hI
   simp only[Yy.l0,atR,rdQ,Q.ask]
   refine Tm.ite (λh2=>?_) (λh2=>?_)
   ·try simp only[bz0,bz1,bz2,bz3,bz4,bz5,bz6,bz7,bz8,bz9,bza] at h2
    refine Tm.atRow (by first|assumption|omega) (by first|assumption|omega) (λx3 hx4 hm5=>?_)
    obtain⟨c6,rfl,g7,_⟩:=(ga0.2 x3 hm5).open
    refine Tm.uncons ?_
    refine Tm.dStr ?_
    refine Tm.atEnd ?_
    refine Tm.atRow (by first|assumption|omega) (by first|assumption|omega) (λx8 hx9 hm10=>?_)
    rw[hx4] at hx9
    injection hx9 with hx9
    subst hx9
    refine Tm.uncons ?_
    refine Tm.dStr ?_
    refine Tm.atEnd ?_
    refine Tm.ite (λh12=>?_) (λh12=>?_)
    ·try simp only[bz0,bz1,bz2,bz3,bz4,bz5,bz6,bz7,bz8,bz9,bza] at h12
     exact Tm.ret (by first|rfl|(exfalso;simp[strEq_self] at *))
    ·try simp only[bz0,bz1,bz2,bz3,bz4,bz5,bz6,bz7,bz8,bz9,bza] at h12
     try rw[Z9 (x:=i+1) (by omega) (by omega)]
     exact hL _ (by(try simp only[]);omega) (by(try simp only[]);omega)
   ·try simp only[bz0,bz1,bz2,bz3,bz4,bz5,bz6,bz7,bz8,bz9,bza] at h2
    exact Tm.ret (by first|rfl|(exfalso;simp[strEq_self] at *))
theorem YA.tm {ι α:Type} {ok:ι->Prop} {ψ:α->Prop} {p:ι->Nat} {B:Nat} (hp:∀ i,ok i->B<=p i) {a0 a1 φ} (h:Tm (λk=>B<=k) (λk=>YA.t k a0 a1) φ) {G:ι->Bool->Option α} (hG:∀ z0,φ z0->Tm ok (λi=>G i z0) ψ):Tm ok (λi=>YA.f (p i) a0 a1 (G i)) ψ:=bd1_tm (t:=λk=>YA.t k a0 a1) hp h hG
theorem YG.tm {ι α:Type} {ok:ι->Prop} {ψ:α->Prop} {p:ι->Nat} {B:Nat} (hp:∀ i,ok i->B<=p i) {aB aA aC aD aE aO aN aR aU aV φ} (h:Tm (λk=>B<=k) (λk=>YG.t k aB aA aC aD aE aO aN aR aU aV) φ) {G:ι->Bool->Option α} (hG:∀ z0,φ z0->Tm ok (λi=>G i z0) ψ):Tm ok (λi=>YG.f (p i) aB aA aC aD aE aO aN aR aU aV (G i)) ψ:=bd1_tm (t:=λk=>YG.t k aB aA aC aD aE aO aN aR aU aV) hp h hG
set_option maxRecDepth 100000 in
theorem eqVal {B:Nat} (hB:B<=1099511627776) (n:Nat):(∀ (a:LD),a.length<=B->(∀ x∈a,YD B n x)->Tm (λk=>big+2*n+1<=k) (λk=>YA.t k a a) (λr=>r=true))/\
  (∀ (c0:Int) (c1:BA) (c2:Int) (c3 c4:LD),c1.size<=B->ZB RS B c3->c4.length<=B->(∀ x∈c4,YD B n x)->Tm (λk=>big+2*n+2<=k) (λk=>YG.t k c0 c1 c2 c3 c4 c0 c1 c2 c3 c4) (λr=>r=true)):=by
 have hb:big=2^64:=rfl
 induction n using Nat.strongRecOn with
 |ind n ih=>
 have S:∀ (a:LD),a.length<=B->(∀ x∈a,YD B n x)->Tm (λk=>big+2*n+1<=k) (λk=>YA.t k a a) (λr=>r=true):=by
  intro a hlen g
  refine Tm.succ (g:=λk=>YA.g k a a (λz0=>some z0)) (λk=>YA.t_succ k a a) ?_
  unfold YA.g YA.body
  refine Tm.ite (λh3=>by simp at h3) (λh3=>?_)
  refine Tm.loop (okk:=λk=>big+2*n<=k) (p:=λk=>k) (λi hi=>by omega) (b:=λk=>YA.l0 k (YA.f k) (YG.f k) a a (λz0=>some z0)) (λi=>(((a.length:Int))-i).toNat) (λi=>0<=i/\i<=(a.length:Int)) ?_ ?_ ?_
  ·rintro i hI
   omega
  ·omega
  ·rintro i hI L hL
   obtain⟨i0,i1⟩:=hI
   simp only[YA.l0,atR,rdQ,Q.ask]
   refine Tm.ite (λh4=>?_) (λh4=>?_)
   ·simp only[decide_eq_true_eq] at h4
    refine Tm.atRow (by omega) (by omega) (λx5 hx6 hm7=>?_)
    obtain⟨n',hn',c0,c1,c2,c3,c4,rfl,w0,g1,w2,g3,l4,g4⟩:∃ n',n=n'+1/\∃ c0 c1 c2 c3 c4,x5=[.int .i64 c0,.str c1,.int .i64 c2,.sl c3,.sl c4]/\(Lit.int .i64 c0).wf=true/\c1.size<=B/\(Lit.int .i64 c2).wf=true/\ZB RS B c3/\c4.length<=B/\∀ x∈c4,YD B n' x:=by
     have:=g x5 hm7
     cases this with
     |mk c0 c1 c2 c3 c4 w0 g1 w2 g3 l4 g4=>exact⟨_,rfl,_,_,_,_,_,rfl,w0,g1,w2,g3,l4,g4⟩
    refine Tm.uncons (Tm.dInt (Tm.uncons (Tm.dStr (Tm.uncons (Tm.dInt (Tm.uncons (Tm.dSl (Tm.uncons (Tm.dSl (Tm.atEnd ?_))))))))))
    refine Tm.atRow (by omega) (by omega) (λx8 hx8 _=>?_)
    rw[hx6] at hx8
    injection hx8 with hx8
    subst hx8
    refine Tm.uncons (Tm.dInt (Tm.uncons (Tm.dStr (Tm.uncons (Tm.dInt (Tm.uncons (Tm.dSl (Tm.uncons (Tm.dSl (Tm.atEnd ?_))))))))))
    refine YG.tm (B:=big+2*n'+2) (λi hi=>by have:=hi.1;omega) ((ih n' (by omega)).2 c0 c1 c2 c3 c4 g1 g3 l4 g4) (λy hy=>?_)
    subst hy
    refine Tm.ite (λh=>by simp at h) (λ_=>?_)
    rw[Z9 (x:=i+1) (by omega) (by omega)]
    exact hL (i+1) ⟨by omega,by omega⟩ (by omega)
   ·exact Tm.ret rfl
 refine⟨S,?_⟩
 intro c0 c1 c2 c3 c4 g1 g3 l4 g4
 refine Tm.succ (g:=λk=>YG.g k c0 c1 c2 c3 c4 c0 c1 c2 c3 c4 (λz0=>some z0)) (λk=>YG.t_succ k c0 c1 c2 c3 c4 c0 c1 c2 c3 c4) ?_
 unfold YG.g YG.body
 refine Tm.ite (λh=>by simp at h) (λ_=>?_)
 refine Tm.ite (λh=>by simp[strEq_self] at h) (λ_=>?_)
 refine Tm.ite (λh=>by simp at h) (λ_=>?_)
 refine Yy.tm (B:=big) (λi hi=>by omega) (Yy.T g3 hB) (λy hy=>?_)
 subst hy
 refine Tm.ite (λh=>by simp at h) (λ_=>?_)
 refine YA.tm (B:=big+2*n+1) (λi hi=>hi) (S c4 l4 g4) (λy' hy'=>?_)
 subst hy'
 exact Tm.ite (λh=>by simp at h) (λ_=>Tm.ret rfl)
theorem big_lv1e {n:Nat} (h:n<=4398046511104):big+n<=lv 1:=by
 have hb:big=2^64:=rfl
 have:lv 1=2^65:=rfl
 omega
theorem YG.T {B:Nat} {aB:Int} {aA:BA} {aC:Int} {aD aE:LD} (g1:aA.size<=B) (g3:ZB RS B aD) (g4:ZB Yr B aE) (hB:B<=1099511627776):Tm (Zai 1) (λk=>YG.t k aB aA aC aD aE aB aA aC aD aE) (λr=>r=true):=by
 have g':∀ x∈aE,YD B 1099511627776 x:=λx hx=>by
  obtain⟨h,hh,hx⟩:=g4.2 x hx
  exact hx.mono (hh hB)
 exact((eqVal hB 1099511627776).2 aB aA aC aD aE g1 g3 g4.1 g').up (big_lv1e (n:=2*1099511627776+2) (by omega))
theorem YaN.tm {ι α:Type} {ok:ι->Prop} {ψ:α->Prop} {p:ι->Nat} {B:Nat} (hp:∀ i,ok i->B<=p i) {aB aA aC aO aN aR φ} (h:Tm (λk=>B<=k) (λk=>YaN.t k aB aA aC aO aN aR) φ) {G:ι->Bool->Option α} (hG:∀ z0,φ z0->Tm ok (λi=>G i z0) ψ):Tm ok (λi=>YaN.f (p i) aB aA aC aO aN aR (G i)) ψ:=bd1_tm (t:=λk=>YaN.t k aB aA aC aO aN aR) hp h hG
theorem YaN.T {B:Nat} {aB:Int} {aA:BA} {aC:LD} (ga0_1:aA.size<=B) (ga0_2:ZB RS B aC) (hB:B<=1099511627776):Tm Fuel (λk=>YaN.t k aB aA aC aB aA aC) (λr=>r=true):=by
 unfold YaN.t YaN.g
 have hm:=maxLen_eq
 have hlim:lim=1048576:=rfl
 refine Tm.ite (λh1=>?_) (λh1=>?_)
 ·try simp only[bz0,bz1,bz2,bz3,bz4,bz5,bz6,bz7,bz8,bz9,bza] at h1
  exact Tm.ret (by first|rfl|(exfalso;simp[strEq_self] at *))
 ·try simp only[bz0,bz1,bz2,bz3,bz4,bz5,bz6,bz7,bz8,bz9,bza] at h1
  refine Tm.ite (λh2=>?_) (λh2=>?_)
  ·try simp only[bz0,bz1,bz2,bz3,bz4,bz5,bz6,bz7,bz8,bz9,bza] at h2
   exact Tm.ret (by first|rfl|(exfalso;simp[strEq_self] at *))
  ·try simp only[bz0,bz1,bz2,bz3,bz4,bz5,bz6,bz7,bz8,bz9,bza] at h2
   refine Yy.tm (λi hi=>hi) (Yy.T (by first|assumption|omega) (by first|assumption|omega)) (λy4 hy3=>?_)
   subst hy3
   refine Tm.ite (λh5=>?_) (λh5=>?_)
   ·try simp only[bz0,bz1,bz2,bz3,bz4,bz5,bz6,bz7,bz8,bz9,bza] at h5
    exact Tm.ret (by first|rfl|(exfalso;simp[strEq_self] at *))
   ·try simp only[bz0,bz1,bz2,bz3,bz4,bz5,bz6,bz7,bz8,bz9,bza] at h5
    exact Tm.ret (by first|rfl|(exfalso;simp[strEq_self] at *))
theorem Y0.tm {ι α:Type} {ok:ι->Prop} {ψ:α->Prop} {p:ι->Nat} {B:Nat} (hp:∀ i,ok i->B<=p i) {a0 a1 φ} (h:Tm (λk=>B<=k) (λk=>Y0.t k a0 a1) φ) {G:ι->Bool->Option α} (hG:∀ z0,φ z0->Tm ok (λi=>G i z0) ψ):Tm ok (λi=>Y0.f (p i) a0 a1 (G i)) ψ:=bd1_tm (t:=λk=>Y0.t k a0 a1) hp h hG
set_option maxRecDepth 100000 in
theorem Y0.T {B:Nat} {a0:LD} (ga0:ZB YaY B a0) (hB:B<=1099511627776):Tm Fuel (λk=>Y0.t k a0 a0) (λr=>r=true):=by
 unfold Y0.t Y0.g
 have hm:=maxLen_eq
 have hlim:lim=1048576:=rfl
 have hlen:=ga0.1
 refine Tm.ite (λh1=>?_) (λh1=>?_)
 ·try simp only[bz0,bz1,bz2,bz3,bz4,bz5,bz6,bz7,bz8,bz9,bza] at h1
  exact Tm.ret (by first|rfl|(exfalso;simp[strEq_self] at *))
 ·try simp only[bz0,bz1,bz2,bz3,bz4,bz5,bz6,bz7,bz8,bz9,bza] at h1
  refine Tm.loop (okk:=Fuel) (p:=λk=>k) (λi hi=>hi) (b:=λk=>Y0.l0 k a0 a0 (λz0=>some z0)) (λi=>(((a0.length:Int))-i).toNat) (λi=>0<=i/\i<=(a0.length:Int)) ?_ ?_ ?_
  ·rintro i hI
   try simp only[] at hI⊢
   have:big=2^64:=rfl
   have:=ga0.1
   omega
  ·((try simp only[]);omega)
  ·rintro i hI L hL
   try simp only[] at hI
   obtain⟨i0,i1⟩:=hI
   simp only[Y0.l0,atR,rdQ,Q.ask]
   refine Tm.ite (λh2=>?_) (λh2=>?_)
   ·try simp only[bz0,bz1,bz2,bz3,bz4,bz5,bz6,bz7,bz8,bz9,bza] at h2
    refine Tm.atRow (by first|assumption|omega) (by first|assumption|omega) (λx3 hx4 hm5=>?_)
    obtain⟨c6,c7,c8,rfl,g9,g10,g11,_⟩:=(ga0.2 x3 hm5).open
    refine Tm.uncons ?_
    refine Tm.dInt ?_
    refine Tm.uncons ?_
    refine Tm.dStr ?_
    refine Tm.uncons ?_
    refine Tm.dSl ?_
    refine Tm.atEnd ?_
    refine Tm.atRow (by first|assumption|omega) (by first|assumption|omega) (λx12 hx13 hm14=>?_)
    rw[hx4] at hx13
    injection hx13 with hx13
    subst hx13
    refine Tm.uncons ?_
    refine Tm.dInt ?_
    refine Tm.uncons ?_
    refine Tm.dStr ?_
    refine Tm.uncons ?_
    refine Tm.dSl ?_
    refine Tm.atEnd ?_
    refine YaN.tm (λi hi=>hi.1) (YaN.T (by first|assumption|omega) (by first|assumption|omega) (by first|assumption|omega)) (λy19 hy18=>?_)
    subst hy18
    refine Tm.ite (λh20=>?_) (λh20=>?_)
    ·try simp only[bz0,bz1,bz2,bz3,bz4,bz5,bz6,bz7,bz8,bz9,bza] at h20
     exact Tm.ret (by first|rfl|(exfalso;simp[strEq_self] at *))
    ·try simp only[bz0,bz1,bz2,bz3,bz4,bz5,bz6,bz7,bz8,bz9,bza] at h20
     try rw[Z9 (x:=i+1) (by omega) (by omega)]
     exact hL _ (by(try simp only[]);omega) (by(try simp only[]);omega)
   ·try simp only[bz0,bz1,bz2,bz3,bz4,bz5,bz6,bz7,bz8,bz9,bza] at h2
    exact Tm.ret (by first|rfl|(exfalso;simp[strEq_self] at *))
theorem YaE.tm {ι α:Type} {ok:ι->Prop} {ψ:α->Prop} {p:ι->Nat} {B:Nat} (hp:∀ i,ok i->B<=p i) {aB aA aO aN φ} (h:Tm (λk=>B<=k) (λk=>YaE.t k aB aA aO aN) φ) {G:ι->Bool->Option α} (hG:∀ z0,φ z0->Tm ok (λi=>G i z0) ψ):Tm ok (λi=>YaE.f (p i) aB aA aO aN (G i)) ψ:=bd1_tm (t:=λk=>YaE.t k aB aA aO aN) hp h hG
theorem YaE.T {B:Nat} {aB:BA} {aA:Int} (ga0_0:aB.size<=B) (hB:B<=1099511627776):Tm Fuel (λk=>YaE.t k aB aA aB aA) (λr=>r=true):=by
 unfold YaE.t YaE.g
 have hm:=maxLen_eq
 have hlim:lim=1048576:=rfl
 refine Tm.ite (λh1=>?_) (λh1=>?_)
 ·try simp only[bz0,bz1,bz2,bz3,bz4,bz5,bz6,bz7,bz8,bz9,bza] at h1
  exact Tm.ret (by first|rfl|(exfalso;simp[strEq_self] at *))
 ·try simp only[bz0,bz1,bz2,bz3,bz4,bz5,bz6,bz7,bz8,bz9,bza] at h1
  refine Tm.ite (λh2=>?_) (λh2=>?_)
  ·try simp only[bz0,bz1,bz2,bz3,bz4,bz5,bz6,bz7,bz8,bz9,bza] at h2
   exact Tm.ret (by first|rfl|(exfalso;simp[strEq_self] at *))
  ·try simp only[bz0,bz1,bz2,bz3,bz4,bz5,bz6,bz7,bz8,bz9,bza] at h2
   exact Tm.ret (by first|rfl|(exfalso;simp[strEq_self] at *))
theorem YR.tm {ι α:Type} {ok:ι->Prop} {ψ:α->Prop} {p:ι->Nat} {B:Nat} (hp:∀ i,ok i->B<=p i) {a0 a1 φ} (h:Tm (λk=>B<=k) (λk=>YR.t k a0 a1) φ) {G:ι->Bool->Option α} (hG:∀ z0,φ z0->Tm ok (λi=>G i z0) ψ):Tm ok (λi=>YR.f (p i) a0 a1 (G i)) ψ:=bd1_tm (t:=λk=>YR.t k a0 a1) hp h hG
set_option maxRecDepth 100000 in
theorem YR.T {B:Nat} {a0:LD} (ga0:ZB RSI B a0) (hB:B<=1099511627776):Tm Fuel (λk=>YR.t k a0 a0) (λr=>r=true):=by
 unfold YR.t YR.g
 have hm:=maxLen_eq
 have hlim:lim=1048576:=rfl
 have hlen:=ga0.1
 refine Tm.ite (λh1=>?_) (λh1=>?_)
 ·try simp only[bz0,bz1,bz2,bz3,bz4,bz5,bz6,bz7,bz8,bz9,bza] at h1
  exact Tm.ret (by first|rfl|(exfalso;simp[strEq_self] at *))
 ·try simp only[bz0,bz1,bz2,bz3,bz4,bz5,bz6,bz7,bz8,bz9,bza] at h1
  refine Tm.loop (okk:=Fuel) (p:=λk=>k) (λi hi=>hi) (b:=λk=>YR.l0 k a0 a0 (λz0=>some z0)) (λi=>(((a0.length:Int))-i).toNat) (λi=>0<=i/\i<=(a0.length:Int)) ?_ ?_ ?_
  ·rintro i hI
   try simp only[] at hI⊢
   have:big=2^64:=rfl
   have:=ga0.1
   omega
  ·((try simp only[]);omega)
  ·rintro i hI L hL
   try simp only[] at hI
   obtain⟨i0,i1⟩:=hI
   simp only[YR.l0,atR,rdQ,Q.ask]
   refine Tm.ite (λh2=>?_) (λh2=>?_)
   ·try simp only[bz0,bz1,bz2,bz3,bz4,bz5,bz6,bz7,bz8,bz9,bza] at h2
    refine Tm.atRow (by first|assumption|omega) (by first|assumption|omega) (λx3 hx4 hm5=>?_)
    obtain⟨c6,c7,rfl,g8,g9,_⟩:=(ga0.2 x3 hm5).open
    refine Tm.uncons ?_
    refine Tm.dStr ?_
    refine Tm.uncons ?_
    refine Tm.dInt ?_
    refine Tm.atEnd ?_
    refine Tm.atRow (by first|assumption|omega) (by first|assumption|omega) (λx10 hx11 hm12=>?_)
    rw[hx4] at hx11
    injection hx11 with hx11
    subst hx11
    refine Tm.uncons ?_
    refine Tm.dStr ?_
    refine Tm.uncons ?_
    refine Tm.dInt ?_
    refine Tm.atEnd ?_
    refine YaE.tm (λi hi=>hi.1) (YaE.T (by first|assumption|omega) (by first|assumption|omega)) (λy16 hy15=>?_)
    subst hy15
    refine Tm.ite (λh17=>?_) (λh17=>?_)
    ·try simp only[bz0,bz1,bz2,bz3,bz4,bz5,bz6,bz7,bz8,bz9,bza] at h17
     exact Tm.ret (by first|rfl|(exfalso;simp[strEq_self] at *))
    ·try simp only[bz0,bz1,bz2,bz3,bz4,bz5,bz6,bz7,bz8,bz9,bza] at h17
     try rw[Z9 (x:=i+1) (by omega) (by omega)]
     exact hL _ (by(try simp only[]);omega) (by(try simp only[]);omega)
   ·try simp only[bz0,bz1,bz2,bz3,bz4,bz5,bz6,bz7,bz8,bz9,bza] at h2
    exact Tm.ret (by first|rfl|(exfalso;simp[strEq_self] at *))
theorem YaM.tm {ι α:Type} {ok:ι->Prop} {ψ:α->Prop} {p:ι->Nat} {B:Nat} (hp:∀ i,ok i->B<=p i) {aB aA aC aD aO aN aR aU φ} (h:Tm (λk=>B<=k) (λk=>YaM.t k aB aA aC aD aO aN aR aU) φ) {G:ι->Bool->Option α} (hG:∀ z0,φ z0->Tm ok (λi=>G i z0) ψ):Tm ok (λi=>YaM.f (p i) aB aA aC aD aO aN aR aU (G i)) ψ:=bd1_tm (t:=λk=>YaM.t k aB aA aC aD aO aN aR aU) hp h hG
theorem YaM.T {B:Nat} {aB:Int} {aA aC aD:LD} (ga0_1:ZB YaY B aA) (ga0_2:ZB RS B aC) (ga0_3:ZB RSI B aD) (hB:B<=1099511627776):Tm Fuel (λk=>YaM.t k aB aA aC aD aB aA aC aD) (λr=>r=true):=by
 unfold YaM.t YaM.g
 have hm:=maxLen_eq
 have hlim:lim=1048576:=rfl
 refine Tm.ite (λh1=>?_) (λh1=>?_)
 ·try simp only[bz0,bz1,bz2,bz3,bz4,bz5,bz6,bz7,bz8,bz9,bza] at h1
  exact Tm.ret (by first|rfl|(exfalso;simp[strEq_self] at *))
 ·try simp only[bz0,bz1,bz2,bz3,bz4,bz5,bz6,bz7,bz8,bz9,bza] at h1
  refine Y0.tm (λi hi=>hi) (Y0.T (by first|assumption|omega) (by first|assumption|omega)) (λy3 hy2=>?_)
  subst hy2
  refine Tm.ite (λh4=>?_) (λh4=>?_)
  ·try simp only[bz0,bz1,bz2,bz3,bz4,bz5,bz6,bz7,bz8,bz9,bza] at h4
   exact Tm.ret (by first|rfl|(exfalso;simp[strEq_self] at *))
  ·try simp only[bz0,bz1,bz2,bz3,bz4,bz5,bz6,bz7,bz8,bz9,bza] at h4
   refine Yy.tm (λi hi=>hi) (Yy.T (by first|assumption|omega) (by first|assumption|omega)) (λy6 hy5=>?_)
   subst hy5
   refine Tm.ite (λh7=>?_) (λh7=>?_)
   ·try simp only[bz0,bz1,bz2,bz3,bz4,bz5,bz6,bz7,bz8,bz9,bza] at h7
    exact Tm.ret (by first|rfl|(exfalso;simp[strEq_self] at *))
   ·try simp only[bz0,bz1,bz2,bz3,bz4,bz5,bz6,bz7,bz8,bz9,bza] at h7
    refine YR.tm (λi hi=>hi) (YR.T (by first|assumption|omega) (by first|assumption|omega)) (λy9 hy8=>?_)
    subst hy8
    refine Tm.ite (λh10=>?_) (λh10=>?_)
    ·try simp only[bz0,bz1,bz2,bz3,bz4,bz5,bz6,bz7,bz8,bz9,bza] at h10
     exact Tm.ret (by first|rfl|(exfalso;simp[strEq_self] at *))
    ·try simp only[bz0,bz1,bz2,bz3,bz4,bz5,bz6,bz7,bz8,bz9,bza] at h10
     exact Tm.ret (by first|rfl|(exfalso;simp[strEq_self] at *))
theorem Ya1.tm {ι α:Type} {ok:ι->Prop} {ψ:α->Prop} {p:ι->Nat} {B:Nat} (hp:∀ i,ok i->B<=p i) {aB aA aC aD aE aK aL aO aN aR aU aV bF bG φ} (h:Tm (λk=>B<=k) (λk=>Ya1.t k aB aA aC aD aE aK aL aO aN aR aU aV bF bG) φ) {G:ι->Bool->Option α} (hG:∀ z0,φ z0->Tm ok (λi=>G i z0) ψ):Tm ok (λi=>Ya1.f (p i) aB aA aC aD aE aK aL aO aN aR aU aV bF bG (G i)) ψ:=bd1_tm (t:=λk=>Ya1.t k aB aA aC aD aE aK aL aO aN aR aU aV bF bG) hp h hG
theorem Ya1.T {B:Nat} {aB:Int} {aA:LD} {aC:Int} {aD:BA} {aE:Int} {aK aL:LD} (ga0_1:ZB RS B aA) (ga0_3:aD.size<=B) (ga0_5:ZB RS B aK) (ga0_6:ZB Yr B aL) (hB:B<=1099511627776):Tm (Zai 1) (λk=>Ya1.t k aB aA aC aD aE aK aL aB aA aC aD aE aK aL) (λr=>r=true):=by
 unfold Ya1.t Ya1.g
 have hm:=maxLen_eq
 have hlim:lim=1048576:=rfl
 refine Tm.ite (λh1=>?_) (λh1=>?_)
 ·try simp only[bz0,bz1,bz2,bz3,bz4,bz5,bz6,bz7,bz8,bz9,bza] at h1
  exact Tm.ret (by first|rfl|(exfalso;simp[strEq_self] at *))
 ·try simp only[bz0,bz1,bz2,bz3,bz4,bz5,bz6,bz7,bz8,bz9,bza] at h1
  refine Yy.tm (λi hi=>up0 hi) (Yy.T (by first|assumption|omega) (by first|assumption|omega)) (λy3 hy2=>?_)
  subst hy2
  refine Tm.ite (λh4=>?_) (λh4=>?_)
  ·try simp only[bz0,bz1,bz2,bz3,bz4,bz5,bz6,bz7,bz8,bz9,bza] at h4
   exact Tm.ret (by first|rfl|(exfalso;simp[strEq_self] at *))
  ·try simp only[bz0,bz1,bz2,bz3,bz4,bz5,bz6,bz7,bz8,bz9,bza] at h4
   refine YG.tm (λi hi=>hi) (YG.T (by first|assumption|omega) (by first|assumption|omega) (by first|assumption|omega) (by first|assumption|omega)) (λy6 hy5=>?_)
   subst hy5
   refine Tm.ite (λh7=>?_) (λh7=>?_)
   ·try simp only[bz0,bz1,bz2,bz3,bz4,bz5,bz6,bz7,bz8,bz9,bza] at h7
    exact Tm.ret (by first|rfl|(exfalso;simp[strEq_self] at *))
   ·try simp only[bz0,bz1,bz2,bz3,bz4,bz5,bz6,bz7,bz8,bz9,bza] at h7
    exact Tm.ret (by first|rfl|(exfalso;simp[strEq_self] at *))
theorem Yak.tm {ι α:Type} {ok:ι->Prop} {ψ:α->Prop} {p:ι->Nat} {B:Nat} (hp:∀ i,ok i->B<=p i) {a0 a1 φ} (h:Tm (λk=>B<=k) (λk=>Yak.t k a0 a1) φ) {G:ι->Bool->Option α} (hG:∀ z0,φ z0->Tm ok (λi=>G i z0) ψ):Tm ok (λi=>Yak.f (p i) a0 a1 (G i)) ψ:=bd1_tm (t:=λk=>Yak.t k a0 a1) hp h hG
set_option maxRecDepth 100000 in
theorem Yak.T {B:Nat} {a0:LD} (ga0:ZB Yn B a0) (hB:B<=1099511627776):Tm (Zai 1) (λk=>Yak.t k a0 a0) (λr=>r=true):=by
 unfold Yak.t Yak.g
 have hm:=maxLen_eq
 have hlim:lim=1048576:=rfl
 have hlen:=ga0.1
 refine Tm.ite (λh1=>?_) (λh1=>?_)
 ·try simp only[bz0,bz1,bz2,bz3,bz4,bz5,bz6,bz7,bz8,bz9,bza] at h1
  exact Tm.ret (by first|rfl|(exfalso;simp[strEq_self] at *))
 ·try simp only[bz0,bz1,bz2,bz3,bz4,bz5,bz6,bz7,bz8,bz9,bza] at h1
  refine Tm.loop (okk:=(Zai 1)) (p:=λk=>k) (λi hi=>up0 hi) (b:=λk=>Yak.l0 k a0 a0 (λz0=>some z0)) (λi=>(((a0.length:Int))-i).toNat) (λi=>0<=i/\i<=(a0.length:Int)) ?_ ?_ ?_
  ·rintro i hI
   try simp only[] at hI⊢
   have:big=2^64:=rfl
   have:=ga0.1
   omega
  ·((try simp only[]);omega)
  ·rintro i hI L hL
   try simp only[] at hI
   obtain⟨i0,i1⟩:=hI
   simp only[Yak.l0,atR,rdQ,Q.ask]
   refine Tm.ite (λh2=>?_) (λh2=>?_)
   ·try simp only[bz0,bz1,bz2,bz3,bz4,bz5,bz6,bz7,bz8,bz9,bza] at h2
    refine Tm.atRow (by first|assumption|omega) (by first|assumption|omega) (λx3 hx4 hm5=>?_)
    obtain⟨c6,c7,c8,c9,c10,c11,c12,rfl,g13,g14,g15,g16,g17,g18,g19,_⟩:=(ga0.2 x3 hm5).open
    refine Tm.uncons ?_
    refine Tm.dInt ?_
    refine Tm.uncons ?_
    refine Tm.dSl ?_
    refine Tm.uncons ?_
    refine Tm.dInt ?_
    refine Tm.uncons ?_
    refine Tm.dStr ?_
    refine Tm.uncons ?_
    refine Tm.dInt ?_
    refine Tm.uncons ?_
    refine Tm.dSl ?_
    refine Tm.uncons ?_
    refine Tm.dSl ?_
    refine Tm.atEnd ?_
    refine Tm.atRow (by first|assumption|omega) (by first|assumption|omega) (λx20 hx21 hm22=>?_)
    rw[hx4] at hx21
    injection hx21 with hx21
    subst hx21
    refine Tm.uncons ?_
    refine Tm.dInt ?_
    refine Tm.uncons ?_
    refine Tm.dSl ?_
    refine Tm.uncons ?_
    refine Tm.dInt ?_
    refine Tm.uncons ?_
    refine Tm.dStr ?_
    refine Tm.uncons ?_
    refine Tm.dInt ?_
    refine Tm.uncons ?_
    refine Tm.dSl ?_
    refine Tm.uncons ?_
    refine Tm.dSl ?_
    refine Tm.atEnd ?_
    refine Ya1.tm (λi hi=>hi.1) (Ya1.T (by first|assumption|omega) (by first|assumption|omega) (by first|assumption|omega) (by first|assumption|omega) (by first|assumption|omega)) (λy31 hy30=>?_)
    subst hy30
    refine Tm.ite (λh32=>?_) (λh32=>?_)
    ·try simp only[bz0,bz1,bz2,bz3,bz4,bz5,bz6,bz7,bz8,bz9,bza] at h32
     exact Tm.ret (by first|rfl|(exfalso;simp[strEq_self] at *))
    ·try simp only[bz0,bz1,bz2,bz3,bz4,bz5,bz6,bz7,bz8,bz9,bza] at h32
     try rw[Z9 (x:=i+1) (by omega) (by omega)]
     exact hL _ (by(try simp only[]);omega) (by(try simp only[]);omega)
   ·try simp only[bz0,bz1,bz2,bz3,bz4,bz5,bz6,bz7,bz8,bz9,bza] at h2
    exact Tm.ret (by first|rfl|(exfalso;simp[strEq_self] at *))
theorem YaO.tm {ι α:Type} {ok:ι->Prop} {ψ:α->Prop} {p:ι->Nat} {B:Nat} (hp:∀ i,ok i->B<=p i) {aB aA aO aN φ} (h:Tm (λk=>B<=k) (λk=>YaO.t k aB aA aO aN) φ) {G:ι->Bool->Option α} (hG:∀ z0,φ z0->Tm ok (λi=>G i z0) ψ):Tm ok (λi=>YaO.f (p i) aB aA aO aN (G i)) ψ:=bd1_tm (t:=λk=>YaO.t k aB aA aO aN) hp h hG
theorem YaO.T {B:Nat} {aB:BA} {aA:LD} (ga0_0:aB.size<=B) (ga0_1:ZB Yn B aA) (hB:B<=1099511627776):Tm (Zai 1) (λk=>YaO.t k aB aA aB aA) (λr=>r=true):=by
 unfold YaO.t YaO.g
 have hm:=maxLen_eq
 have hlim:lim=1048576:=rfl
 refine Tm.ite (λh1=>?_) (λh1=>?_)
 ·try simp only[bz0,bz1,bz2,bz3,bz4,bz5,bz6,bz7,bz8,bz9,bza] at h1
  exact Tm.ret (by first|rfl|(exfalso;simp[strEq_self] at *))
 ·try simp only[bz0,bz1,bz2,bz3,bz4,bz5,bz6,bz7,bz8,bz9,bza] at h1
  refine Yak.tm (λi hi=>hi) (Yak.T (by first|assumption|omega) (by first|assumption|omega)) (λy3 hy2=>?_)
  subst hy2
  refine Tm.ite (λh4=>?_) (λh4=>?_)
  ·try simp only[bz0,bz1,bz2,bz3,bz4,bz5,bz6,bz7,bz8,bz9,bza] at h4
   exact Tm.ret (by first|rfl|(exfalso;simp[strEq_self] at *))
  ·try simp only[bz0,bz1,bz2,bz3,bz4,bz5,bz6,bz7,bz8,bz9,bza] at h4
   exact Tm.ret (by first|rfl|(exfalso;simp[strEq_self] at *))
theorem Y1.tm {ι α:Type} {ok:ι->Prop} {ψ:α->Prop} {p:ι->Nat} {B:Nat} (hp:∀ i,ok i->B<=p i) {a0 a1 φ} (h:Tm (λk=>B<=k) (λk=>Y1.t k a0 a1) φ) {G:ι->Bool->Option α} (hG:∀ z0,φ z0->Tm ok (λi=>G i z0) ψ):Tm ok (λi=>Y1.f (p i) a0 a1 (G i)) ψ:=bd1_tm (t:=λk=>Y1.t k a0 a1) hp h hG
set_option maxRecDepth 100000 in
theorem Y1.T {B:Nat} {a0:LD} (ga0:ZB Yg B a0) (hB:B<=1099511627776):Tm (Zai 1) (λk=>Y1.t k a0 a0) (λr=>r=true):=by
 unfold Y1.t Y1.g
 have hm:=maxLen_eq
 have hlim:lim=1048576:=rfl
 have hlen:=ga0.1
 refine Tm.ite (λh1=>?_) (λh1=>?_)
 ·try simp only[bz0,bz1,bz2,bz3,bz4,bz5,bz6,bz7,bz8,bz9,bza] at h1
  exact Tm.ret (by first|rfl|(exfalso;simp[strEq_self] at *))
 ·try simp only[bz0,bz1,bz2,bz3,bz4,bz5,bz6,bz7,bz8,bz9,bza] at h1
  refine Tm.loop (okk:=(Zai 1)) (p:=λk=>k) (λi hi=>up0 hi) (b:=λk=>Y1.l0 k a0 a0 (λz0=>some z0)) (λi=>(((a0.length:Int))-i).toNat) (λi=>0<=i/\i<=(a0.length:Int)) ?_ ?_ ?_
  ·rintro i hI
   try simp only[] at hI⊢
   have:big=2^64:=rfl
   have:=ga0.1
   omega
  ·((try simp only[]);omega)
  ·rintro i hI L hL
   try simp only[] at hI
   obtain⟨i0,i1⟩:=hI
   simp only[Y1.l0,atR,rdQ,Q.ask]
   refine Tm.ite (λh2=>?_) (λh2=>?_)
   ·try simp only[bz0,bz1,bz2,bz3,bz4,bz5,bz6,bz7,bz8,bz9,bza] at h2
    refine Tm.atRow (by first|assumption|omega) (by first|assumption|omega) (λx3 hx4 hm5=>?_)
    obtain⟨c6,c7,rfl,g8,g9,_⟩:=(ga0.2 x3 hm5).open
    refine Tm.uncons ?_
    refine Tm.dStr ?_
    refine Tm.uncons ?_
    refine Tm.dSl ?_
    refine Tm.atEnd ?_
    refine Tm.atRow (by first|assumption|omega) (by first|assumption|omega) (λx10 hx11 hm12=>?_)
    rw[hx4] at hx11
    injection hx11 with hx11
    subst hx11
    refine Tm.uncons ?_
    refine Tm.dStr ?_
    refine Tm.uncons ?_
    refine Tm.dSl ?_
    refine Tm.atEnd ?_
    refine YaO.tm (λi hi=>hi.1) (YaO.T (by first|assumption|omega) (by first|assumption|omega) (by first|assumption|omega)) (λy16 hy15=>?_)
    subst hy15
    refine Tm.ite (λh17=>?_) (λh17=>?_)
    ·try simp only[bz0,bz1,bz2,bz3,bz4,bz5,bz6,bz7,bz8,bz9,bza] at h17
     exact Tm.ret (by first|rfl|(exfalso;simp[strEq_self] at *))
    ·try simp only[bz0,bz1,bz2,bz3,bz4,bz5,bz6,bz7,bz8,bz9,bza] at h17
     try rw[Z9 (x:=i+1) (by omega) (by omega)]
     exact hL _ (by(try simp only[]);omega) (by(try simp only[]);omega)
   ·try simp only[bz0,bz1,bz2,bz3,bz4,bz5,bz6,bz7,bz8,bz9,bza] at h2
    exact Tm.ret (by first|rfl|(exfalso;simp[strEq_self] at *))
theorem YaV.tm {ι α:Type} {ok:ι->Prop} {ψ:α->Prop} {p:ι->Nat} {B:Nat} (hp:∀ i,ok i->B<=p i) {aB aA aC aD aE aK aL aZ bA aX aW aY bC aO aN aR aU aV bF bG a1_7 a1_8 a1_9 a1_10 a1_11 a1_12 φ} (h:Tm (λk=>B<=k) (λk=>YaV.t k aB aA aC aD aE aK aL aZ bA aX aW aY bC aO aN aR aU aV bF bG a1_7 a1_8 a1_9 a1_10 a1_11 a1_12) φ) {G:ι->Bool->Option α} (hG:∀ z0,φ z0->Tm ok (λi=>G i z0) ψ):Tm ok (λi=>YaV.f (p i) aB aA aC aD aE aK aL aZ bA aX aW aY bC aO aN aR aU aV bF bG a1_7 a1_8 a1_9 a1_10 a1_11 a1_12 (G i)) ψ:=bd1_tm (t:=λk=>YaV.t k aB aA aC aD aE aK aL aZ bA aX aW aY bC aO aN aR aU aV bF bG a1_7 a1_8 a1_9 a1_10 a1_11 a1_12) hp h hG
theorem YaV.T {B:Nat} {aB:Int} {aA:BA} {aC:Int} {aD aE aK:LD} {aL:Int} {aZ:BA} {bA:Int} {aX aW aY:LD} {bC:Bool} (ga0_1:aA.size<=B) (ga0_3:ZB YaY B aD) (ga0_4:ZB RS B aE) (ga0_5:ZB RSI B aK) (ga0_7:aZ.size<=B) (ga0_9:ZB RS B aX) (ga0_10:ZB Yr B aW) (ga0_11:ZB Yg B aY) (hB:B<=1099511627776):Tm (Zai 1) (λk=>YaV.t k aB aA aC aD aE aK aL aZ bA aX aW aY bC aB aA aC aD aE aK aL aZ bA aX aW aY bC) (λr=>r=true):=by
 unfold YaV.t YaV.g
 have hm:=maxLen_eq
 have hlim:lim=1048576:=rfl
 refine Tm.ite (λh1=>?_) (λh1=>?_)
 ·try simp only[bz0,bz1,bz2,bz3,bz4,bz5,bz6,bz7,bz8,bz9,bza] at h1
  exact Tm.ret (by first|rfl|(exfalso;simp[strEq_self] at *))
 ·try simp only[bz0,bz1,bz2,bz3,bz4,bz5,bz6,bz7,bz8,bz9,bza] at h1
  refine Tm.ite (λh2=>?_) (λh2=>?_)
  ·try simp only[bz0,bz1,bz2,bz3,bz4,bz5,bz6,bz7,bz8,bz9,bza] at h2
   exact Tm.ret (by first|rfl|(exfalso;simp[strEq_self] at *))
  ·try simp only[bz0,bz1,bz2,bz3,bz4,bz5,bz6,bz7,bz8,bz9,bza] at h2
   refine YaM.tm (λi hi=>up0 hi) (YaM.T (by first|assumption|omega) (by first|assumption|omega) (by first|assumption|omega) (by first|assumption|omega)) (λy4 hy3=>?_)
   subst hy3
   refine Tm.ite (λh5=>?_) (λh5=>?_)
   ·try simp only[bz0,bz1,bz2,bz3,bz4,bz5,bz6,bz7,bz8,bz9,bza] at h5
    exact Tm.ret (by first|rfl|(exfalso;simp[strEq_self] at *))
   ·try simp only[bz0,bz1,bz2,bz3,bz4,bz5,bz6,bz7,bz8,bz9,bza] at h5
    refine YG.tm (λi hi=>hi) (YG.T (by first|assumption|omega) (by first|assumption|omega) (by first|assumption|omega) (by first|assumption|omega)) (λy7 hy6=>?_)
    subst hy6
    refine Tm.ite (λh8=>?_) (λh8=>?_)
    ·try simp only[bz0,bz1,bz2,bz3,bz4,bz5,bz6,bz7,bz8,bz9,bza] at h8
     exact Tm.ret (by first|rfl|(exfalso;simp[strEq_self] at *))
    ·try simp only[bz0,bz1,bz2,bz3,bz4,bz5,bz6,bz7,bz8,bz9,bza] at h8
     refine Y1.tm (λi hi=>hi) (Y1.T (by first|assumption|omega) (by first|assumption|omega)) (λy10 hy9=>?_)
     subst hy9
     refine Tm.ite (λh11=>?_) (λh11=>?_)
     ·try simp only[bz0,bz1,bz2,bz3,bz4,bz5,bz6,bz7,bz8,bz9,bza] at h11
      exact Tm.ret (by first|rfl|(exfalso;simp[strEq_self] at *))
     ·try simp only[bz0,bz1,bz2,bz3,bz4,bz5,bz6,bz7,bz8,bz9,bza] at h11
      refine Tm.ite (λh12=>?_) (λh12=>?_)
      ·try simp only[bz0,bz1,bz2,bz3,bz4,bz5,bz6,bz7,bz8,bz9,bza] at h12
       exact Tm.ret (by first|rfl|(exfalso;simp[strEq_self] at *))
      ·try simp only[bz0,bz1,bz2,bz3,bz4,bz5,bz6,bz7,bz8,bz9,bza] at h12
       exact Tm.ret (by first|rfl|(exfalso;simp[strEq_self] at *))
theorem Yf.f_of {β:Type} {k a0 z0} (h:Yf.t k a0=some z0) (K:BA->Option β):Yf.f k a0 K=K z0:=by unfold Yf.f;rw[h];rfl
theorem Yf.tm {ι α:Type} {ok:ι->Prop} {ψ:α->Prop} {p:ι->Nat} {B:Nat} (hp:∀ i,ok i->B<=p i) {a0 φ} (h:Tm (λk=>B<=k) (λk=>Yf.t k a0) φ) {G:ι->BA->Option α} (hG:∀ z0,φ z0->Tm ok (λi=>G i z0) ψ):Tm ok (λi=>Yf.f (p i) a0 (G i)) ψ:=bd1_tm (t:=λk=>Yf.t k a0) hp h hG
theorem Yf.T {a0:Int} (h1:a0<=4611686018427387904):Tm Fuel (λk=>Yf.t k a0) (λ_=>True):=by
 unfold Yf.t Yf.g
 have hb:big=2^64:=rfl
 refine Tm.ite (λ_=>Tm.ret trivial) (λh=>?_)
 simp only[decide_eq_false_iff_not,Int.not_le] at h
 refine Tm.loop (okk:=Fuel) (p:=λk=>k) (λi hi=>hi) (b:=λk=>Yf.l0 k (λz0=>some z0)) (λv=>match v with|(u,s)=>u.toNat) (λv=>match v with|(u,s)=>0<=u/\u+s.size<=a0) ?_ ?_ ?_
 ·rintro⟨u,s⟩ hI
  simp only[] at hI⊢
  omega
 ·simp only[]
  have:(⟨#[]⟩:BA).size=0:=rfl
  omega
 ·rintro⟨u,s⟩ hI L hL
  simp only[] at hI
  obtain⟨u0,u1⟩:=hI
  simp only[Yf.l0]
  refine Tm.ite (λh4=>?_) (λh4=>?_)
  ·simp only[decide_eq_true_eq] at h4
   have e1:∀ x:UInt8,(⟨#[x]⟩:BA).size=1:=λ_=>rfl
   have ed:Int.tdiv u 10=u/10:=Int.tdiv_eq_ediv_of_nonneg (by omega)
   refine Tm.guard (by decide) (Tm.guard (by rw[e1];omega) (Tm.guard (by decide) ?_))
   rw[ed,Z9 (x:=u/10) (by omega) (by omega)]
   refine hL (_,_) ⟨by omega,?_⟩ (by simp only[];omega)
   rw[ByteArray.size_append,e1]
   omega
  ·have e1:(⟨#[109]⟩:BA).size=1:=rfl
   exact Tm.guard (by rw[e1];omega) (Tm.ret trivial)
noncomputable def Yf.v (a0:Int):BA:=(Yf.t big a0).getD default
theorem Yf.tv {a0:Int} (h1:a0<=4611686018427387904) {k:Nat} (hk:Fuel k):Yf.t k a0=some (Yf.v a0):=(Yf.T h1).val hk
theorem Yf.fv {a0:Int} (h1:a0<=4611686018427387904) {k:Nat} (hk:Fuel k) {β:Type} (K:BA->Option β):Yf.f k a0 K=K (Yf.v a0):=Yf.f_of (Yf.tv h1 hk) K
theorem Yl.tm {ι α:Type} {ok:ι->Prop} {ψ:α->Prop} {p:ι->Nat} {B:Nat} (hp:∀ i,ok i->B<=p i) {a0 a1 φ} (h:Tm (λk=>B<=k) (λk=>Yl.t k a0 a1) φ) {G:ι->Int->LC->Option α} (hG:∀ z0 z1,φ (z0,z1)->Tm ok (λi=>G i z0 z1) ψ):Tm ok (λi=>Yl.f (p i) a0 a1 (G i)) ψ:=bd2_tm (t:=λk=>Yl.t k a0 a1) hp h hG
theorem YK.tm {ι α:Type} {ok:ι->Prop} {ψ:α->Prop} {p:ι->Nat} {B:Nat} (hp:∀ i,ok i->B<=p i) {a0 a1 φ} (h:Tm (λk=>B<=k) (λk=>YK.t k a0 a1) φ) {G:ι->Int->LC->Option α} (hG:∀ z0 z1,φ (z0,z1)->Tm ok (λi=>G i z0 z1) ψ):Tm ok (λi=>YK.f (p i) a0 a1 (G i)) ψ:=bd2_tm (t:=λk=>YK.t k a0 a1) hp h hG
theorem YJ.tm {ι α:Type} {ok:ι->Prop} {ψ:α->Prop} {p:ι->Nat} {B:Nat} (hp:∀ i,ok i->B<=p i) {a0 a1 φ} (h:Tm (λk=>B<=k) (λk=>YJ.t k a0 a1) φ) {G:ι->Int->LC->Option α} (hG:∀ z0 z1,φ (z0,z1)->Tm ok (λi=>G i z0 z1) ψ):Tm ok (λi=>YJ.f (p i) a0 a1 (G i)) ψ:=bd2_tm (t:=λk=>YJ.t k a0 a1) hp h hG
theorem Yax.tm {ι α:Type} {ok:ι->Prop} {ψ:α->Prop} {p:ι->Nat} {B:Nat} (hp:∀ i,ok i->B<=p i) {aB aA aC aD a1 φ} (h:Tm (λk=>B<=k) (λk=>Yax.t k aB aA aC aD a1) φ) {G:ι->Int->LC->LC->LC->Option α} (hG:∀ z0 z1 z2 z3,φ (z0,z1,z2,z3)->Tm ok (λi=>G i z0 z1 z2 z3) ψ):Tm ok (λi=>Yax.f (p i) aB aA aC aD a1 (G i)) ψ:=bd4_tm (t:=λk=>Yax.t k aB aA aC aD a1) hp h hG
theorem Yk.tm {ι α:Type} {ok:ι->Prop} {ψ:α->Prop} {p:ι->Nat} {B:Nat} (hp:∀ i,ok i->B<=p i) {a0 a1 φ} (h:Tm (λk=>B<=k) (λk=>Yk.t k a0 a1) φ) {G:ι->Int->LC->Option α} (hG:∀ z0 z1,φ (z0,z1)->Tm ok (λi=>G i z0 z1) ψ):Tm ok (λi=>Yk.f (p i) a0 a1 (G i)) ψ:=bd2_tm (t:=λk=>Yk.t k a0 a1) hp h hG
theorem Yam.tm {ι α:Type} {ok:ι->Prop} {ψ:α->Prop} {p:ι->Nat} {B:Nat} (hp:∀ i,ok i->B<=p i) {aB aA aC aD aE a1 φ} (h:Tm (λk=>B<=k) (λk=>Yam.t k aB aA aC aD aE a1) φ) {G:ι->Int->LC->LC->Option α} (hG:∀ z0 z1 z2,φ (z0,z1,z2)->Tm ok (λi=>G i z0 z1 z2) ψ):Tm ok (λi=>Yam.f (p i) aB aA aC aD aE a1 (G i)) ψ:=bd3_tm (t:=λk=>Yam.t k aB aA aC aD aE a1) hp h hG
theorem YX.tm {ι α:Type} {ok:ι->Prop} {ψ:α->Prop} {p:ι->Nat} {B:Nat} (hp:∀ i,ok i->B<=p i) {a0 a1 φ} (h:Tm (λk=>B<=k) (λk=>YX.t k a0 a1) φ) {G:ι->Int->LC->Option α} (hG:∀ z0 z1,φ (z0,z1)->Tm ok (λi=>G i z0 z1) ψ):Tm ok (λi=>YX.f (p i) a0 a1 (G i)) ψ:=bd2_tm (t:=λk=>YX.t k a0 a1) hp h hG
theorem YL.tm {ι α:Type} {ok:ι->Prop} {ψ:α->Prop} {p:ι->Nat} {B:Nat} (hp:∀ i,ok i->B<=p i) {a0 a1 φ} (h:Tm (λk=>B<=k) (λk=>YL.t k a0 a1) φ) {G:ι->Int->LC->Option α} (hG:∀ z0 z1,φ (z0,z1)->Tm ok (λi=>G i z0 z1) ψ):Tm ok (λi=>YL.f (p i) a0 a1 (G i)) ψ:=bd2_tm (t:=λk=>YL.t k a0 a1) hp h hG
theorem Yav.f_of {β:Type} {k:Nat} {aB:Int} {aA:BA} {aC:Int} {aD aE aK:LC} {aL:Int} {aZ:BA} {bA:Int} {aX aW aY:LC} {bC:Bool} {a1 z0:Int} {z1 z2 z3 z4 z5 z6:LC} (h:Yav.t k aB aA aC aD aE aK aL aZ bA aX aW aY bC a1=some (z0,z1,z2,z3,z4,z5,z6)) (K:Int->LC->LC->LC->LC->LC->LC->Option β):Yav.f k aB aA aC aD aE aK aL aZ bA aX aW aY bC a1 K=K z0 z1 z2 z3 z4 z5 z6:=by
 unfold Yav.f
 rw[h]
theorem Yav.tm {ι α:Type} {ok:ι->Prop} {ψ:α->Prop} {p:ι->Nat} {B:Nat} (hp:∀ i,ok i->B<=p i) {aB:Int} {aA:BA} {aC:Int} {aD aE aK:LC} {aL:Int} {aZ:BA} {bA:Int} {aX aW aY:LC} {bC:Bool} {a1:Int} {φ:Int×LC×LC×LC×LC×LC×LC->Prop} (h:Tm (λk=>B<=k) (λk=>Yav.t k aB aA aC aD aE aK aL aZ bA aX aW aY bC a1) φ) {G:ι->Int->LC->LC->LC->LC->LC->LC->Option α} (hG:∀ z0 z1 z2 z3 z4 z5 z6,φ (z0,z1,z2,z3,z4,z5,z6)->Tm ok (λι0=>G ι0 z0 z1 z2 z3 z4 z5 z6) ψ):Tm ok (λι0=>Yav.f (p ι0) aB aA aC aD aE aK aL aZ bA aX aW aY bC a1 (G ι0)) ψ:=by
 obtain⟨⟨z0,z1,z2,z3,z4,z5,z6⟩,h1,h2⟩:=h
 exact(hG z0 z1 z2 z3 z4 z5 z6 h1).congr λi0 hi0=>Yav.f_of (h2 (p i0) (hp i0 hi0)) _
theorem Ys.f_of {β:Type} {k a0 a1 z0} (h:Ys.t k a0 a1=some z0) (K:Int->Option β):Ys.f k a0 a1 K=K z0:=by unfold Ys.f;rw[h];rfl
set_option maxRecDepth 100000 in
set_option maxHeartbeats 8000000 in
theorem Ys.step {u:Int}  (h0:0<=u)  (h1:u+1<=4611686018427387904) {k:Nat} (hk:Fuel k):HStep (λxs L v=>Ys.l0 k xs (λz0=>some z0) L v) u [.str (Yf.v (u))] (u+1):=by
 have hk0:Fuel k:=hk
 intro xs i i0 i1 hl hr L
 simp(maxSteps:=4000000) (disch:=first|assumption|omega) only[Ys.l0,atR,rdQ,Q.ask,ZY i1,cond_true,cond_false,Zck i0 i1,hr,Z4,Z5,ZaQ,ZaV,Zbl,Zan,Z9,Yf.fv,strEq_self,bne_self_eq_false,beq_self_eq_true,Bool.not_true]
set_option maxRecDepth 100000 in
set_option maxHeartbeats 8000000 in
theorem Yl.T {B:Nat} (hB:B<=1099511627776) {xs:LD} {n:Int} (g:ZB RS B xs) (h0:0<=n) (h1:n+Zu xs<=4611686018427387904):Tm Fuel (λk=>Yl.t k (Zc xs) n) (λz=>∃ ys,z.2=Zc ys/\ys.length=xs.length/\z.1=n+Zu xs/\∀ k,Fuel k->Ys.t k ys n=some z.1):=by
 have hb:big=2^64:=rfl
 have hl:=g.1
 have key:Tm Fuel (λk=>Yl.t k (Zc xs) n) (λz=>∃ ys,z.2=Zc ys/\ys.length=xs.length/\z.1=n+Zu xs/\HeldL (λu r u'=>∀ k,Fuel k->HStep (λxs L v=>Ys.l0 k xs (λz0=>some z0) L v) u r u') n ys z.1):=by
  unfold Yl.t Yl.g
  refine Tm.loop (okk:=Fuel) (p:=λk=>k) (λi hi=>hi) (b:=λk=>Yl.l0 k (λz0 z1=>some (z0,z1))) (λv=>match v with|(u,i,tab)=>((xs.length:Int)-i).toNat) (λv=>match v with|(u,i,tab)=>0<=i/\i<=xs.length/\∃ done:LD,done.length=i.toNat/\tab=Zc done++Zc (xs.drop i.toNat)/\u=n+Zu (xs.take i.toNat)/\HeldL (λu r u'=>∀ k,Fuel k->HStep (λxs L v=>Ys.l0 k xs (λz0=>some z0) L v) u r u') n done u) ?_ ?_ ?_
  ·rintro⟨u,i,tab⟩ hI
   simp only[] at hI⊢
   omega
  ·exact⟨by omega,by omega,[],rfl,by simp[Zc],by simp[Zu],.nil⟩
  ·rintro⟨u,i,tab⟩ hI L hL
   simp only[] at hI
   obtain⟨i0,i1,done,hd,rfl,hu,hH⟩:=hI
   have hA:(Zc done).length=i.toNat:=by rw[ZS,hd]
   have hT:(Zc done++Zc (xs.drop i.toNat)).length=xs.length:=by rw[List.length_append,hA,ZS,List.length_drop];omega
   simp only[Yl.l0]
   refine Tm.ite (λh4=>?_) (λh4=>?_)
   ·simp only[decide_eq_true_eq,hT] at h4
    have hx:=gR_at i0 h4
    obtain⟨c0,e,k0,_⟩:=(g.2 _ (gR_mem i0 h4)).open
    rw[e] at hx
    have hdr:=drop_at i0 hx
    have hw:=wt_take i0 hx
    simp only[ZbY,wtD] at hw
    have hs:=wt_split xs (i+1).toNat
    rw[hdr] at hT⊢
    simp only[Zc,ZN,deepD] at hT⊢
    have hT2:=hT
    simp only[List.length_append,List.length_cons] at hT2
    try simp(disch:=omega) only[Z9]
    refine Yf.tm (λi hi=>hi.1) (Tm.at (ok:=Fuel) (v:=Yf.v _) (λk hk=>Yf.tv (by omega) hk)) (λy hy=>?_)
    subst hy
    refine Tm.guard (by first|decide|(simp only[List.length_modify,List.length_append,List.length_cons];omega)) ?_
    refine Tm.guard (by first|decide|(simp only[List.length_modify,List.length_append,List.length_cons];omega)) ?_
    try simp(disch:=omega) only[Z9]
    try simp only[modify_mid hA,Zs,List.take_zero,List.take_succ_cons,List.drop_succ_cons,List.drop_zero,List.nil_append,List.cons_append,List.length_cons,List.length_nil,Nat.zero_add,Nat.reduceAdd,List.set_cons_succ,List.set_cons_zero]
    refine hL (_,_,_) ⟨by omega,by omega,done++[[.str (Yf.v (u))]],by simp only[List.length_append,List.length_cons,List.length_nil];omega,?_,by omega,HeldL.snoc hH (λk hk=>Ys.step (by omega) (by omega) hk)⟩ (by simp only[];omega)
    rw[Zbb]
    simp only[Zc,ZN,deepD,List.append_assoc,List.cons_append,List.nil_append]
   ·simp only[decide_eq_false_iff_not,hT] at h4
    refine Tm.ret ⟨done,?_,by omega,?_,hH⟩
    ·rw[List.drop_eq_nil_of_le (by omega)]
     simp only[Zc,List.append_nil]
    ·rw[List.take_of_length_le (by omega)] at hu
     exact hu
 obtain⟨v,⟨ys,e1,e2,e3,hH⟩,h2⟩:=key
 exact⟨v,⟨ys,e1,e2,e3,λk hk=>by
  have hk0:Fuel k:=hk
  unfold Ys.t Ys.g
  exact held_run (b:=λxs L v=>Ys.l0 k xs (λz0=>some z0) L v) (by omega) (hH.mono λ_ _ _ h=>h k hk) (by omega) (λL=>by simp[Ys.l0,atR,rdQ,Q.ask])⟩,h2⟩
theorem Yi.f_of {β:Type} {k a0 a1 z0} (h:Yi.t k a0 a1=some z0) (K:Int->Option β):Yi.f k a0 a1 K=K z0:=by unfold Yi.f Yi.w;rw[h];rfl
set_option maxRecDepth 100000 in
theorem Yi.step {N:Nat} {u:Int} {ys3:LD} {n3:Int} {ys4:LD} {n4:Int} (h0:0<=u) (hn3:u+1+1+1<=n3) (hh3:∀ k,Fuel k->Ys.t k ys3 (u+1+1+1)=some n3) (hn4:n3<=n4) (hh4:∀ k,N<=k->Yi.t k ys4 (n3)=some n4) (h1:n4<=4611686018427387904) {k:Nat} (hk:N<=k) (hk0:Fuel k):HStep (λxs L v=>Yi.l0 k (Yi.f k) xs (λz0=>some z0) L v) u [.int .i64 (u),.str (Yf.v (u+1)),.int .i64 (u+1+1),.sl ys3,.sl ys4] (n4):=by
 intro xs i i0 i1 hl hr L
 simp(disch:=first|assumption|omega) only[Yi.l0,atR,rdQ,Q.ask,ZY i1,cond_true,cond_false,Zck i0 i1,hr,Z4,Z5,ZaQ,ZaV,Zbl,Zan,Z9,Yf.fv,strEq_self,bne_self_eq_false,beq_self_eq_true,Bool.not_true,Ys.f_of (hh3 k hk0),ZZ (show ¬ n3<0 by omega),Yi.f_of (hh4 k hk),ZZ (show ¬ n4<0 by omega)]
set_option maxRecDepth 100000 in
theorem markVal {B:Nat} (hB:B<=1099511627776) (h:Nat):∀ {xs:LD} {n:Int},xs.length<=B->(∀ r∈xs,YD B h r)->0<=n->n+Zu xs<=4611686018427387904->Tm (λk=>big+h+1<=k) (λk=>Yk.t k (Zc xs) n) (λz=>∃ ys,z.2=Zc ys/\ys.length=xs.length/\z.1=n+Zu xs/\∀ k,big+h+1<=k->Yi.t k ys n=some z.1):=by
 have hb:big=2^64:=rfl
 induction h using Nat.strongRecOn with
 |ind h ih=>
 intro xs n hl g h0 h1
 have key:Tm (λk=>big+h<=k) (λk=>Yk.g k (Zc xs) n (λz0 z1=>some (z0,z1))) (λz=>∃ ys,z.2=Zc ys/\ys.length=xs.length/\z.1=n+Zu xs/\HeldL (λu r u'=>∀ k,big+h<=k->HStep (λxs L v=>Yi.l0 k (Yi.f k) xs (λz0=>some z0) L v) u r u') n ys z.1):=by
  unfold Yk.g Yk.body
  refine Tm.loop (okk:=λk=>big+h<=k) (p:=λk=>k) (λi hi=>by omega) (b:=λk=>Yk.l0 k (Yk.f k) (λz0 z1=>some (z0,z1))) (λv=>match v with|(u,i,tab)=>((xs.length:Int)-i).toNat) (λv=>match v with|(u,i,tab)=>0<=i/\i<=xs.length/\∃ done:LD,done.length=i.toNat/\tab=Zc done++Zc (xs.drop i.toNat)/\u=n+Zu (xs.take i.toNat)/\HeldL (λu r u'=>∀ k,big+h<=k->HStep (λxs L v=>Yi.l0 k (Yi.f k) xs (λz0=>some z0) L v) u r u') n done u) ?_ ?_ ?_
  ·rintro⟨u,i,tab⟩ hI
   simp only[] at hI⊢
   omega
  ·exact⟨by omega,by omega,[],rfl,by simp[Zc],by simp[Zu],.nil⟩
  ·rintro⟨u,i,tab⟩ hI L hL
   simp only[] at hI
   obtain⟨i0,i1,done,hd,rfl,hu,hH⟩:=hI
   have hA:(Zc done).length=i.toNat:=by rw[ZS,hd]
   have hT:(Zc done++Zc (xs.drop i.toNat)).length=xs.length:=by rw[List.length_append,hA,ZS,List.length_drop];omega
   simp only[Yk.l0]
   refine Tm.ite (λh4=>?_) (λh4=>?_)
   ·simp only[decide_eq_true_eq,hT] at h4
    have hx:=gR_at i0 h4
    obtain⟨h',hh',c0,c1,c2,c3,c4,e,k3,l4,k4⟩:∃ h',h=h'+1/\∃ c0 c1 c2 c3 c4,gR xs i=[.int .i64 c0,.str c1,.int .i64 c2,.sl c3,.sl c4]/\ZB RS B c3/\c4.length<=B/\∀ r∈c4,YD B h' r:=by
     have:=g _ (gR_mem i0 h4)
     generalize gR xs i=r at this
     cases this with
     |mk c0 c1 c2 c3 c4 w0 g1 w2 g3 l4 g4=>exact⟨_,rfl,_,_,_,_,_,rfl,g3,l4,g4⟩
    rw[e] at hx
    have hdr:=drop_at i0 hx
    have hw:=wt_take i0 hx
    simp only[ZbY,wtD] at hw
    have hs:=wt_split xs (i+1).toNat
    rw[hdr] at hT⊢
    simp only[Zc,ZN,deepD] at hT⊢
    have hT2:=hT
    simp only[List.length_append,List.length_cons] at hT2
    refine Tm.guard (by first|decide|(simp only[List.length_modify,List.length_append,List.length_cons];omega)) ?_
    refine Tm.guard (by first|decide|(simp only[List.length_modify,List.length_append,List.length_cons];omega)) ?_
    try simp(disch:=omega) only[Z9]
    refine Yf.tm (B:=big) (λi hi=>by have:=hi.1;omega) (Tm.at (ok:=Fuel) (v:=Yf.v _) (λk hk=>Yf.tv (by omega) hk)) (λy hy=>?_)
    subst hy
    refine Tm.guard (by first|decide|(simp only[List.length_modify,List.length_append,List.length_cons];omega)) ?_
    refine Tm.guard (by first|decide|(simp only[List.length_modify,List.length_append,List.length_cons];omega)) ?_
    refine Tm.guard (by first|decide|(simp only[List.length_modify,List.length_append,List.length_cons];omega)) ?_
    refine Tm.guard (by first|decide|(simp only[List.length_modify,List.length_append,List.length_cons];omega)) ?_
    refine Tm.guard (by first|decide|(simp only[List.length_modify,List.length_append,List.length_cons];omega)) ?_
    try simp only[modify_mid hA,atNat_mid hA,Zs,List.take_zero,List.take_succ_cons,List.drop_succ_cons,List.drop_zero,List.nil_append,List.cons_append,List.length_cons,List.length_nil,Nat.zero_add,Nat.reduceAdd,List.set_cons_succ,List.set_cons_zero]
    refine Tm.uncons ?_
    refine Tm.cOwn ?_
    try simp(disch:=omega) only[Z9]
    refine Yl.tm (B:=big) (λi hi=>by have:=hi.1;omega) (Yl.T hB k3 (by omega) (by omega)) (λy3 t3 hy=>?_)
    obtain⟨ys3,et3,el3,en3,hh3⟩:=hy
    simp only[] at et3 en3 hh3
    subst et3 en3
    refine Tm.guard (by first|decide|(simp only[List.length_modify,List.length_append,List.length_cons];omega)) ?_
    try simp only[modify_mid hA,atNat_mid hA,Zs,List.take_zero,List.take_succ_cons,List.drop_succ_cons,List.drop_zero,List.nil_append,List.cons_append,List.length_cons,List.length_nil,Nat.zero_add,Nat.reduceAdd,List.set_cons_succ,List.set_cons_zero]
    refine Tm.uncons ?_
    refine Tm.cOwn ?_
    try simp(disch:=omega) only[Z9]
    refine Yk.tm (B:=big+h'+1) (λi hi=>by have:=hi.1;omega) (ih h' (by omega) l4 k4 (by omega) (by omega)) (λy4 t4 hy=>?_)
    obtain⟨ys4,et4,el4,en4,hh4⟩:=hy
    simp only[] at et4 en4 hh4
    subst et4 en4
    try simp(disch:=omega) only[Z9]
    try simp only[modify_mid hA,Zs,List.take_zero,List.take_succ_cons,List.drop_succ_cons,List.drop_zero,List.nil_append,List.cons_append,List.length_cons,List.length_nil,Nat.zero_add,Nat.reduceAdd,List.set_cons_succ,List.set_cons_zero]
    refine hL (_,_,_) ⟨by omega,by omega,done++[[.int .i64 (u),.str (Yf.v (u+1)),.int .i64 (u+1+1),.sl ys3,.sl ys4]],by simp only[List.length_append,List.length_cons,List.length_nil];omega,?_,by omega,HeldL.snoc hH (λk hk=>Yi.step (by omega) (by omega) hh3 (by omega) hh4 (by omega) (by omega) (by unfold Fuel;omega))⟩ (by simp only[];omega)
    rw[Zbb]
    simp only[Zc,ZN,deepD,List.append_assoc,List.cons_append,List.nil_append]
   ·simp only[decide_eq_false_iff_not,hT] at h4
    refine Tm.ret ⟨done,?_,by omega,?_,hH⟩
    ·rw[List.drop_eq_nil_of_le (by omega)]
     simp only[Zc,List.append_nil]
    ·rw[List.take_of_length_le (by omega)] at hu
     exact hu
 refine Tm.succ (g:=λk=>Yk.g k (Zc xs) n (λz0 z1=>some (z0,z1))) (λk=>Yk.t_succ k (Zc xs) n) ?_
 refine key.mono λz hz=>?_
 obtain⟨ys,e1,e2,e3,hH⟩:=hz
 refine⟨ys,e1,e2,e3,λk hk=>?_⟩
 cases k with
 |zero=>omega
 |succ k=>
  rw[Yi.t_succ]
  unfold Yi.g Yi.body
  exact held_run (b:=λxs L v=>Yi.l0 k (Yi.f k) xs (λz0=>some z0) L v) (by omega) (hH.mono λ_ _ _ h=>h k (by omega)) (by omega) (λL=>by simp[Yi.l0,atR,rdQ,Q.ask])
theorem Yk.T {B:Nat} (hB:B<=1099511627776) {xs:LD} {n:Int} (g:ZB Yr B xs) (h0:0<=n) (h1:n+Zu xs<=4611686018427387904):Tm (Zai 1) (λk=>Yk.t k (Zc xs) n) (λz=>∃ ys,z.2=Zc ys/\ys.length=xs.length/\z.1=n+Zu xs/\∀ k,(Zai 1) k->Yi.t k ys n=some z.1):=by
 have hb:big=2^64:=rfl
 have h2:lv 1=2^65:=rfl
 obtain⟨H,hH⟩:∃ H:Nat,H=1099511627776:=⟨_,rfl⟩
 have g':∀ x∈xs,YD B H x:=λx hx=>by
  obtain⟨h,hh,hx⟩:=g.2 x hx
  exact hx.mono (by have:=hh hB;omega)
 have hN:big+H+1<=lv 1:=by omega
 refine((markVal hB H g.1 g' h0 h1).up hN).mono λz hz=>?_
 obtain⟨ys,e1,e2,e3,hh⟩:=hz
 exact⟨ys,e1,e2,e3,λk hk=>hh k (Nat.le_trans hN hk)⟩
theorem Yas.tm {ι α:Type} {ok:ι->Prop} {ψ:α->Prop} {p:ι->Nat} {B:Nat} (hp:∀ i,ok i->B<=p i) {aB aA aC aD aE a1 φ} (h:Tm (λk=>B<=k) (λk=>Yas.t k aB aA aC aD aE a1) φ) {G:ι->Int->Option α} (hG:∀ z0,φ z0->Tm ok (λi=>G i z0) ψ):Tm ok (λi=>Yas.f (p i) aB aA aC aD aE a1 (G i)) ψ:=bd1_tm (t:=λk=>Yas.t k aB aA aC aD aE a1) hp h hG
set_option maxRecDepth 100000 in
set_option maxHeartbeats 8000000 in
theorem Yam.T {B:Nat} (hB:B<=1099511627776) {c0:Int} {c1:BA} {c2:Int} {a3 a4:LD} {n:Int} (g3:ZB RS B a3) (g4:ZB Yr B a4) (h0:0<=n) (h1:n+Zu a3+Zu a4<=4611686018427387904):Tm (Zai 1) (λk=>Yam.t k c0 c1 c2 (Zc a3) (Zc a4) n) (λz=>∃ ys3 ys4,z.1=n+Zu a3+Zu a4/\z.2.1=Zc ys3/\z.2.2=Zc ys4/\ys3.length=a3.length/\ys4.length=a4.length/\∀ k,(Zai 1) k->Yas.t k c0 c1 c2 ys3 ys4 n=some z.1):=by
 unfold Yam.t Yam.g
 refine Yl.tm (λi hi=>up0 hi) (Yl.T hB g3 (by omega) (by omega)) (λy3 t3 hy=>?_)
 obtain⟨ys3,et3,el3,en3,hh3⟩:=hy
 simp only[] at et3 en3 hh3
 subst et3 en3
 try refine Tm.guard (by rw[ZS,ZS];first|exact el3|exact el3.1) ?_
 refine Yk.tm (λi hi=>hi) (Yk.T hB g4 (by omega) (by omega)) (λy4 t4 hy=>?_)
 obtain⟨ys4,et4,el4,en4,hh4⟩:=hy
 simp only[] at et4 en4 hh4
 subst et4 en4
 try refine Tm.guard (by rw[ZS,ZS];first|exact el4|exact el4.1) ?_
 exact Tm.ret ⟨ys3,ys4,rfl,rfl,rfl,(by first|exact el3|exact el3.1),(by first|exact el4|exact el4.1),λk hk=>by
  unfold Yas.t Yas.g
  rw[Ys.f_of (hh3 k (up0 hk))];simp only[ZZ (show ¬ (n+(Zu a3:Int))<0 by omega),cond_false]
  rw[Yi.f_of (hh4 k hk)];simp only[ZZ (show ¬ (n+(Zu a3:Int)+(Zu a4:Int))<0 by omega),cond_false]⟩
end Go.Proofs.YtlobhlnahhjpjaaGreat
