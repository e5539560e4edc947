/- Printed,and by hand: the functions that FnExactWorks reaches come to their end; the program's answer as the reference's. -/
import Derived.Test.YtnfogafklciihaaGreatYEWorks0
import Derived.KernelRfl
set_option linter.unusedVariables false
set_option linter.unusedSimpArgs false
set_option autoImplicit true
set_option relaxedAutoImplicit true
set_option maxRecDepth 1000000
set_option maxHeartbeats 8000000
namespace Go.Proofs.YtnfogafklciihaaGreat
open Go Go.T Go.Proofs
def textB (s:BA):Bool:=(List.range s.size).all λi=>inB (bS s (i:Int)) 32 126
theorem l4Text_fv {s:BA} (g:s.size<=lim) (hk:Zr k) {β:Type} (K:Bool->Option β):bd1 (Ybc.t k s) K=K (textB s&&decide ((s.size:Int)<=100)):=bd1_of (by
 have hlim:lim=1048576:=rfl;have hb:big=2^64:=rfl;unfold Ybc.t Ybc.g textB;rw[Zab (n:=s.size) (λi=>inB (bS s (i:Int)) 32 126) (r1:=some false) (r2:=some (decide ((s.size:Int)<=100))) (by unfold Zr at hk;omega)]
 ·generalize List.all _ _=x;cases x<;>rfl
 ·intro L i hi;simp(disch:=omega) only[Ybc.l0,Zl (show(i:Int)<s.size by omega),cond_true,ZbK,wrap_b,YcL,Zb]
  generalize inB _ _ _=x;cases x<;>rfl
 ·intro L;simp[Ybc.l0]) K
theorem YR.f_of {β:Type} {k aB aA aD aE aG a1 z0} (h:YR.t k aB aA aD aE aG a1=some z0) (K:Int->Option β):YR.f k aB aA aD aE aG a1 K=K z0:=by unfold YR.f YR.w;rw[h];rfl
theorem l4Keys_fv {c1:BA} {c3 c4:LD} (g:Zc RS lim c3) (hk:Zr k) {β:Type} (K:Bool->Option β):bd1 (Ya7.t k c0 c1 c2 c3 c4) K=K (Ycy c3&&(c3.length:Int)==(c4.length:Int)):=bd1_of (by
 have hl:=g.1;have hlim:lim=1048576:=rfl;have hb:big=2^64:=rfl;unfold Ya7.t Ya7.g;rw[Zab (n:=c3.length) (λi=>Ye.v (gS c3 (i:Int) 0)&&(!decide ((i:Int)>0)||Za3 (gS c3 ((i:Int)-1) 0) (gS c3 (i:Int) 0))) (r1:=some false) (r2:=some ((c3.length:Int)==(c4.length:Int))) (by unfold Zr at hk;omega)]
 ·unfold Ycy;generalize List.all _ _=x;cases x<;>rfl
 ·intro L i hi;have k0:=(RS.get g (v:=(i:Int)) Om Om).2.1;simp(disch:=omega) only[Ya7.l0,atR,rdQ,Q.ask,Zl (show(i:Int)<c3.length by omega),cond_true,RS.row g,Zv,ZF,Zw,Ye.fv k0 hk,Zb]
  by_cases h0:(i:Int)>0
  ·simp(disch:=omega) only[Zl h0,cond_true,RS.row g,Zv,ZF,Zw]
   cases Ye.v (gS c3 (i:Int) 0)<;>cases Za3 (gS c3 ((i:Int)-1) 0) (gS c3 (i:Int) 0)<;>rfl
  ·simp only[Zm h0,cond_false]
   cases Ye.v (gS c3 (i:Int) 0)<;>rfl
 ·intro L;simp[Ya7.l0,atR,rdQ,Q.ask]) K
def YcT:BA:=(⟨#[]⟩:BA)
noncomputable def Ycz (kind:Int) (text:BA) (num:Int) (keys kids:LD):Bool:=
 bif kind==1 then(keys.length:Int)==0&&((kids.length:Int)==0&&(num==0&&(textB text&&decide ((text.size:Int)<=100))))
 else bif kind==2 then(keys.length:Int)==0&&((kids.length:Int)==0&&ZP text YcT)
 else bif kind==3 then(keys.length:Int)==0&&((kids.length:Int)==0&&(ZP text YcT&&inB num 0 1))
 else bif kind==4 then(keys.length:Int)==0&&(ZP text YcT&&num==0)
 else bif kind==5 then(Ycy keys&&(keys.length:Int)==(kids.length:Int))&&(ZP text YcT&&num==0)
 else false
def sumL (f:List D->Int):LD->Int->Int
 |[],n=>n
 |r::rs,n=>if f r=0\/n+f r>300 then 0 else sumL f rs (n+f r)
noncomputable def YbJ:Nat->List D->Int
 |0,_=>0
 |d+1,r=>bif sumL (YbJ d) (rL r 4) 1==0 then 0 else bif Ycz (rI r 0) (rS r 1) (rI r 2) (rL r 3) (rL r 4) then sumL (YbJ d) (rL r 4) 1 else 0
theorem sumL_range {f:List D->Int} (hf:∀ r,0<=f r):∀ {rs:LD} {n:Int},1<=n->n<=300->0<=sumL f rs n/\sumL f rs n<=300/\(sumL f rs n≠0->n+rs.length<=300)
 |[],n,h,h'=>by simp only[sumL,List.length_nil];omega
 |r::rs,n,h,h'=>by
  have:=hf r;simp only[sumL]
  split
  ·omega
  ·have:=sumL_range hf (rs:=rs) (n:=n+f r) Om Om;simp only[List.length_cons]
   omega
theorem YcC:∀ (d:Nat) (r:List D),0<=YbJ d r/\YbJ d r<=300
 |0,r=>by simp[YbJ]
 |d+1,r=>by
  have:=sumL_range (f:=YbJ d) (λr=>(YcC d r).1) (rs:=rL r 4) (n:=1) Om Om;simp only[YbJ]
  generalize sumL (YbJ d) (rL r 4) 1=n at *
  cases n==0<;>cases Ycz (rI r 0) (rS r 1) (rI r 2) (rL r 3) (rL r 4)<;>simp<;>omega
theorem look_t (d:Nat):∀ {c0:Int} {c1:BA} {c2:Int} {c3 c4:LD},c1.size<=lim->Zc RS lim c3->Zc Yt lim c4->d<=6->∀ {k:Nat},big+d+1<=k->YR.t k c0 c1 c2 c3 c4 (d:Int)=some (YbJ d [.int .i64 c0,.str c1,.int .i64 c2,.sl c3,.sl c4]):=by
 have hlim:lim=1048576:=rfl;have hb:big=2^64:=rfl;induction d with
 |zero=>
  intro c0 c1 c2 c3 c4 g1 g3 g4 hd k hk;cases k with
  |zero=>omega
  |succ k=>rfl
 |succ d ih=>
  intro c0 c1 c2 c3 c4 g1 g3 g4 hd k hk;cases k with
  |zero=>omega
  |succ k=>
  have hl:=g4.1;have hk0:Zr k:=by unfold Zr;omega
  rw[YR.t_succ];unfold YR.g YR.body;rw[show(((d+1:Nat):Int)==0)=false by rw[beq_eq_false_iff_ne];omega,cond_false];have key:=Zco (b:=YR.l0 k (YR.f k) ((d+1:Nat):Int) c0 c1 c2 c3 c4 λz0=>some z0) (λv=>((c4.length:Int)-v.2).toNat) (λv=>0<=v.2/\v.2<=c4.length/\1<=v.1/\v.1<=300)
   (λv=>bif sumL (YbJ d) (c4.drop v.2.toNat) v.1==0 then some 0 else bif Ycz c0 c1 c2 c3 c4 then some (sumL (YbJ d) (c4.drop v.2.toNat) v.1) else some 0) ?_ k (1,0) Sm Sm
  ·rw[key];simp only[YbJ]
   show(bif sumL (YbJ d) (List.drop 0 c4) 1==0 then some 0 else bif Ycz c0 c1 c2 c3 c4 then some (sumL (YbJ d) (List.drop 0 c4) 1) else some 0)=some (bif sumL (YbJ d) c4 1==0 then 0 else bif Ycz c0 c1 c2 c3 c4 then sumL (YbJ d) c4 1 else 0);rw[List.drop_zero];cases sumL (YbJ d) c4 1==0<;>cases Ycz c0 c1 c2 c3 c4<;>rfl
  ·rintro⟨n,i⟩ ⟨i0,i1,n0,n1⟩ L hL;simp only[] at i0 i1 n0 n1 hL⊢;by_cases hi:i<c4.length
   ·have hg:=Yt.get g4 i0 hi;have hr:=YcC d (gR c4 i);have ih':=ih (c0:=gI c4 i 0) (c2:=gI c4 i 2) hg.2.2.1 hg.2.2.2.2.1 hg.2.2.2.2.2.1 Om (k:=k) Om;rw[<- hg.1] at ih';simp(disch:=omega) only[YR.l0,atR,rdQ,Q.ask,Zl hi,cond_true,Yt.row g4,Zv,ZF,ZJ,Z6,Zw,Zb,show((d+1:Nat):Int)-1=(d:Int) by omega]
    rw[YR.f_of ih',drop_gR i0 hi];simp only[sumL]
    by_cases hz:YbJ d (gR c4 i)=0
    ·rw[hz];simp
    ·rw[show(YbJ d (gR c4 i)==0)=false by rw[beq_eq_false_iff_ne];exact hz,cond_false,Zb Om Om];by_cases hn:n+YbJ d (gR c4 i)>300
     ·rw[Zl hn,if_pos (.inr hn)];rfl
     ·rw[Zm hn,if_neg Om,cond_false,hL _ ⟨by simp only[];omega,by simp only[];omega,by simp only[];omega,by simp only[];omega⟩ Sm]
   ·rw[drop_end Om];simp only[YR.l0,atR,rdQ,Q.ask,Zm hi,cond_false,sumL,l4Keys_fv g3 hk0,YcL,l4Text_fv g1 hk0]
    rw[show(n==0)=false by rw[beq_eq_false_iff_ne];omega,cond_false];unfold Ycz;generalize(textB c1&&decide ((c1.size:Int)<=100))=b1;generalize hb2:ZP c1 (⟨#[]⟩:BA)=b2;have hb3:ZP c1 YcT=b2:=hb2;rw[hb3];generalize Ycy c3=b3;generalize inB c2 0 1=b4;generalize(c2==0)=b5;generalize((c4.length:Int)==0)=b6;generalize((c3.length:Int)==(c4.length:Int))=b7;generalize((c3.length:Int)==0)=b8;rcases ZaC c0 with rfl|rfl|rfl|rfl|rfl|⟨e1,e2,e3,e4,e5⟩
    ·cases b1<;>cases b5<;>cases b6<;>cases b8<;>rfl
    ·cases b2<;>cases b6<;>cases b8<;>rfl
    ·cases b2<;>cases b4<;>cases b6<;>cases b8<;>rfl
    ·cases b2<;>cases b5<;>cases b8<;>rfl
    ·cases b2<;>cases b3<;>cases b5<;>cases b7<;>cases b8<;>rfl
    ·cases b8<;>simp only[e1,e2,e3,e4,e5,cond_false,cond_true]
theorem look_fv {d:Int} {c1:BA} (hd0:0<=d) (hd:d<=6) (g1:c1.size<=lim) (g3:Zc RS lim c3) (g4:Zc Yt lim c4) (hk:Zp 1 k) {β:Type} (K:Int->Option β):YR.f k c0 c1 c2 c3 c4 d K=K (YbJ d.toNat [.int .i64 c0,.str c1,.int .i64 c2,.sl c3,.sl c4]):=by
 have hb:big=2^64:=rfl;have h1:lv 1=2^65:=rfl;obtain⟨n,rfl⟩:∃ n:Nat,d=n:=⟨d.toNat,Om⟩
 exact YR.f_of (look_t n g1 g3 g4 Om (by unfold Zp at hk;omega)) K
theorem YL.f_of {β:Type} {k aB aA aD aE aG z0 z1 z2 z3 z4} (h:YL.t k aB aA aD aE aG=some (z0,z1,z2,z3,z4)) (K:Int->BA->Int->LC->LC->Option β):YL.f k aB aA aD aE aG K=K z0 z1 z2 z3 z4:=by unfold YL.f YL.w;rw[h];rfl
theorem Yf.f_of {β:Type} {k aB aA aD aE aG aQ aP aR aS aT z0} (h:Yf.t k aB aA aD aE aG aQ aP aR aS aT=some z0) (K:Bool->Option β):Yf.f k aB aA aD aE aG aQ aP aR aS aT K=K z0:=by unfold Yf.f Yf.w;rw[h];rfl
theorem Yai.f_of {β:Type} {aA aS z1:BA} {z5:Bool} (h:Yai.t k aB aA aD aE aG aQ aP aR aS aT aX bC a2=some (z0,z1,z2,z3,z4,z5)) (K:Int->BA->Int->LD->LD->Bool->Option β):Yai.f k aB aA aD aE aG aQ aP aR aS aT aX bC a2 K=K z0 z1 z2 z3 z4 z5:=by
 unfold Yai.f;unfold Yai.w;rw[h]
theorem within_f {β:Type} {a b c:Int} (K:Bool->Option β):bd1 (Y4.t k a b c) K=K (decide (b<=a)&&decide (a<=c)):=by
 refine bd1_of ?_ K;unfold Y4.t Y4.g;by_cases h:b<=a<;>simp[h]
theorem YP.same {a:BA}:YP.t k a=Ye.t k a:=by
 unfold YP.t Ye.t YP.g Ye.g;congr 1;funext L v;simp only[YP.l0,Ye.l0,l1In_f,within_f]
 refine bif_congr (λ_=>?_) (λ_=>rfl);unfold atStr;split
 ·split
  ·rename_i b _;have hb:b.toNat<256:=b.toNat_lt;simp only[]
   rw[Zb (x:=(b.toNat:Int)) Om Om];generalize(b.toNat:Int)=x;by_cases h1:x<97<;>by_cases h2:x<48<;>by_cases h3:x>57<;>by_cases h4:x>122<;>simp[h1,h2,h3,h4]<;>(try omega)<;>grind
  ·rfl
 ·rfl
theorem Ycr {β:Type} {a:BA} (K:Bool->Option β):bd1 (YP.t k a) K=bd1 (Ye.t k a) K:=by
 unfold bd1;rw[YP.same]
theorem YcO {β:Type} {a b c:Int} (K:Bool->Option β):bd1 (Y4.t k a b c) K=K (inB a b c):=within_f K
theorem YS.same {a:LD} {n:Int} (g:Zc RS lim a):YS.t k a n=YX.t k a n:=by
 unfold YS.t YX.t YS.g YX.g;congr 1;funext L v;simp only[YS.l0,atR,rdQ,Q.ask,YX.l0,atR,rdQ,Q.ask,Ycr]
 refine bif_congr (λh=>?_) (λ_=>rfl);by_cases h0:0<=v/\v<a.length
 ·have hl:v.toNat<a.length:=by omega
  obtain⟨s0,hs,_⟩:=g.2 _ (List.getElem_mem hl);have hr:=λF=>atRow_get (β:=Bool) h0.1 (by rw[<- hs];simp[hl]:a[v.toNat]? = some [.str s0]) F
  simp only[hr,Zct,dStr,atEnd]
 ·simp only[atRow_none h0]
theorem namesOk_fv {a:LD} {n:Int} (g:Zc RS lim a) (hk:Zr k) {β:Type} (K:Bool->Option β):bd1 (YS.t k a n) K=K (Ycy a&&decide ((a.length:Int)<=n)):=bd1_of (by
 have hl:=g.1;have hlim:lim=1048576:=rfl;have hb:big=2^64:=rfl;unfold YS.t YS.g;rw[Zab (n:=a.length) (λi=>Ye.v (gS a (i:Int) 0)&&(!decide ((i:Int)>0)||Za3 (gS a ((i:Int)-1) 0) (gS a (i:Int) 0))) (r1:=some false) (r2:=some (decide ((a.length:Int)<=n))) (by unfold Zr at hk;omega)]
 ·unfold Ycy;generalize List.all _ _=x;cases x<;>rfl
 ·intro L i hi;have k0:=(RS.get g (v:=(i:Int)) Om Om).2.1;simp(disch:=omega) only[YS.l0,atR,rdQ,Q.ask,Zl (show(i:Int)<a.length by omega),cond_true,RS.row g,Zv,ZF,Zw,Ycr,Ye.fv k0 hk,Zb]
  by_cases h0:(i:Int)>0
  ·simp(disch:=omega) only[Zl h0,cond_true,RS.row g,Zv,ZF,Zw]
   cases Ye.v (gS a (i:Int) 0)<;>cases Za3 (gS a ((i:Int)-1) 0) (gS a (i:Int) 0)<;>rfl
  ·simp only[Zm h0,cond_false]
   cases Ye.v (gS a (i:Int) 0)<;>rfl
 ·intro L;simp[YS.l0,atR,rdQ,Q.ask]) K
theorem isCopies_f {β:Type} {a:Int} (K:Bool->Option β):bd1 (YaP.t k a) K=K (decide (0<=a)&&decide (a<=10000)):=by
 refine bd1_of ?_ K;unfold YaP.t YaP.g;rw[within_f]
theorem lens (n:Int) (h:0<=n):n=0\/n=1\/((n==0)=false/\(n==1)=false/\1<=n):=by
 simp only[beq_eq_false_iff_ne]
 omega
noncomputable def termB (kind:Int) (key:BA) (vals:LD):Bool:=
 Ycy vals&&Ye.v key&&((kind==1||kind==2)&&(vals.length:Int)==1||kind==3&&(decide ((vals.length:Int)>=1)&&decide ((vals.length:Int)<=6))||(kind==4||kind==5)&&(vals.length:Int)==0)
theorem l2Term_v {kind:Int} {key:BA} {vals:LD} (gk:key.size<=lim) (g:Zc RS lim vals) (hk:Zr k):Yaq.t k kind key vals=some (termB kind key vals):=by
 have hl:=g.1;have hlim:lim=1048576:=rfl;have hb:big=2^64:=rfl;unfold Yaq.t Yaq.g;rw[Zab (n:=vals.length) (λi=>Ye.v (gS vals (i:Int) 0)&&(!decide ((i:Int)>0)||Za3 (gS vals ((i:Int)-1) 0) (gS vals (i:Int) 0))) (r1:=some false)
  (r2:=some (Ye.v key&&((kind==1||kind==2)&&(vals.length:Int)==1||kind==3&&(decide ((vals.length:Int)>=1)&&decide ((vals.length:Int)<=6))||(kind==4||kind==5)&&(vals.length:Int)==0))) (by unfold Zr at hk;omega)]
 ·unfold termB Ycy;generalize List.all _ _=x;cases x
  ·rfl
  ·simp
 ·intro L i hi;have k0:=(RS.get g (v:=(i:Int)) Om Om).2.1;simp(disch:=omega) only[Yaq.l0,atR,rdQ,Q.ask,Zl (show(i:Int)<vals.length by omega),cond_true,RS.row g,Zv,ZF,Zw,Ye.fv k0 hk,Zb]
  by_cases h0:(i:Int)>0
  ·simp(disch:=omega) only[Zl h0,cond_true,RS.row g,Zv,ZF,Zw]
   cases Ye.v (gS vals (i:Int) 0)<;>cases Za3 (gS vals ((i:Int)-1) 0) (gS vals (i:Int) 0)<;>rfl
  ·simp only[Zm h0,cond_false]
   cases Ye.v (gS vals (i:Int) 0)<;>rfl
 ·intro L;simp only[Yaq.l0,atR,rdQ,Q.ask,Zm (show ¬ (vals.length:Int)<vals.length by omega),cond_false,Ye.fv gk hk,l1In_f,ge_iff_le]
  cases Ye.v key
  ·rfl
  ·rcases ZaC kind with rfl|rfl|rfl|rfl|rfl|⟨e1,e2,e3,e4,e5⟩
   all_goals first|(simp only[e1,e2,e3,e4,e5];simp;done)|(by_cases h7:1<=(vals.length:Int)<;>simp[h7];done)
theorem termOk_v {kind:Int} {key:BA} {vals:LD} (gk:key.size<=lim) (g:Zc RS lim vals) (hk:Zr k):Ych.t k kind key vals=some (termB kind key vals):=by
 unfold Ych.t Ych.g termB;simp only[Ycr,Ye.fv gk hk,namesOk_fv g hk]
 rcases ZaC kind with rfl|rfl|rfl|rfl|rfl|⟨e1,e2,e3,e4,e5⟩
 all_goals cases Ye.v key<;>cases Ycy vals<;>rcases lens (vals.length:Int) Om with h7|h7|⟨h7,h8,h9⟩<;>(try simp only[e1,e2,e3,e4,e5])<;>(first|(simp[h7];done)|simp[h7,h8,h9])
noncomputable def termsB (a:LD):Bool:=(List.range a.length).all λi=>termB (gI a (i:Int) 0) (gS a (i:Int) 1) (gL a (i:Int) 2)
theorem SelectorOk_v {a:LD} (g:Zc Ybl lim a) (hk:Zr k):YZ.t k a=some (termsB a&&decide ((a.length:Int)<=8)):=by
 have hl:=g.1;have hlim:lim=1048576:=rfl;have hb:big=2^64:=rfl;unfold YZ.t YZ.g;rw[Zab (n:=a.length) (λi=>termB (gI a (i:Int) 0) (gS a (i:Int) 1) (gL a (i:Int) 2)) (r1:=some false) (r2:=some (decide ((a.length:Int)<=8))) (by unfold Zr at hk;omega)]
 ·unfold termsB;generalize List.all _ _=x;cases x<;>rfl
 ·intro L i hi;obtain⟨-,k0,k1,k2,-⟩:=Ybl.get g (v:=(i:Int)) Om Om;simp(disch:=omega) only[YZ.l0,atR,rdQ,Q.ask,Zl (show(i:Int)<a.length by omega),cond_true,Ybl.row g,Zv,ZF,ZJ,Z6,Zw,bd1_of (l2Term_v k1 k2 hk),Zb]
  cases termB (gI a (i:Int) 0) (gS a (i:Int) 1) (gL a (i:Int) 2)<;>rfl
 ·intro L;simp[YZ.l0,atR,rdQ,Q.ask]
theorem SelectorOk_impl {a:LD} (g:Zc Ybl lim a) (hk:Zr k):Ybn.t k a=some (termsB a&&decide ((a.length:Int)<=8)):=by
 have hl:=g.1;have hlim:lim=1048576:=rfl;have hb:big=2^64:=rfl;have hf:∀ {β:Type} (K:Int->Option β),bd1 (Yg.t k a) K=K (ZaH (λi=>!termB (gI a (i:Int) 0) (gS a (i:Int) 1) (gL a (i:Int) 2)) a.length):=λK=>bd1_of (by
  unfold Yg.t Yg.g;refine ZcZ (n:=a.length) _ some (by unfold Zr at hk;omega) (λL i hi=>?_) (λL=>by simp[Yg.l0,atR,rdQ,Q.ask]);obtain⟨-,k0,k1,k2,-⟩:=Ybl.get g (v:=(i:Int)) Om Om;have hs:∀ {β:Type} (K:Bool->Option β),bd1 (Ybf.t k (gI a (i:Int) 0) (gS a (i:Int) 1) (gL a (i:Int) 2)) K=K (!termB (gI a (i:Int) 0) (gS a (i:Int) 1) (gL a (i:Int) 2)):=λK=>bd1_of (by unfold Ybf.t Ybf.g;rw[bd1_of (termOk_v k1 k2 hk)]) K
  simp(disch:=omega) only[Yg.l0,atR,rdQ,Q.ask,Zl (show(i:Int)<a.length by omega),cond_true,Ybl.row g,Zv,ZF,ZJ,Z6,Zw,hs,Zb]) K
 unfold Ybn.t Ybn.g;have hc:∀ {β:Type} (K:Bool->Option β),bd1 (Yu.t k a) K=K (!termsB a):=λK=>bd1_of (by
  unfold Yu.t Yu.g;rw[hf,findI_all];simp only[Bool.not_not,termsB]) K
 rw[hc];by_cases h8:(a.length:Int)<=8<;>simp[h8]
theorem impl_SelectorOk_f {a:LD} (g:Zc Ybl lim a) (hk:Zr k) {β:Type} (K:Bool->Option β):bd1 (Ybn.t k a) K=bd1 (YZ.t k a) K:=by
 rw[bd1_of (SelectorOk_impl g hk),bd1_of (SelectorOk_v g hk)]
theorem Ya2.same (g0:Zc Ybl lim aA) (g1:Zc RS lim aD) (g2:Zc RSI lim aE) (hk:Zr k):Ya2.t k aB aA aD aE=Y2.t k aB aA aD aE:=by
 have hl:=g2.1;have hlim:lim=1048576:=rfl;unfold Ya2.t Y2.t Ya2.g Y2.g;congr 1;funext L v;simp only[Ya2.l0,atR,rdQ,Q.ask,Y2.l0,atR,rdQ,Q.ask,Ycr,within_f,l1In_f,isCopies_f,impl_SelectorOk_f g0 hk]
 refine bif_congr (λh=>?_) (λ_=>?_)
 ·by_cases h0:0<=v/\v<aE.length
  ·obtain⟨h0,h1⟩:=h0;simp(disch:=omega) only[RSI.row g2,Zv,ZF,ZJ,Zw]
  ·simp only[atRow_none h0]
 ·unfold bd1;simp only[YS.same g1]
theorem bS_byte {s:BA} {v:Int}:0<=bS s v/\bS s v<=255:=by
 unfold bS;have:=UInt8.toNat_lt ((s[v.toNat]?).getD 0);omega
def digL (s:BA):Nat->Int->Int
 |0,n=>n
 |m+1,n=>bif inB (bS s ((s.size-(m+1):Nat):Int)) 48 57 then digL s m (n*10+(bS s ((s.size-(m+1):Nat):Int)-48)) else -1
theorem digL_sign {s:BA}:∀ {m:Nat} {n:Int},0<=n->digL s m n = -1\/0<=digL s m n
 |0,n,h=>.inr h
 |m+1,n,h=>by
  unfold digL;cases hq:inB (bS s ((s.size-(m+1):Nat):Int)) 48 57
  ·exact .inl rfl
  ·unfold inB at hq;rw[Bool.and_eq_true,decide_eq_true_iff,decide_eq_true_iff] at hq;exact digL_sign Om
def digE {β:Type} (bad:Option β) (good:Int->Option β) (x:Int):Option β:=bif decide (x<0) then bad else good x
theorem dig_loop {β:Type} {s:BA} {b:(Int×Int->Option β)->Int×Int->Option β} {good:Int->Option β} {bad:Option β} (h9:s.size<=9)
  (hb:∀ L (n i:Int),0<=i->i<s.size->0<=n->n<=1000000000->b L (n,i)=bif inB (bS s i) 48 57 then L (n*10+(bS s i-48),i+1) else bad) (he:∀ L n,b L (n,(s.size:Int))=good n) (hk:Zr k):
  Za1 b k (0,0)=digE bad good (digL s s.size 0):=by
 have hbg:big=2^64:=rfl;refine Eq.trans (Zco (λv:Int×Int=>s.size-v.2.toNat) (λv=>0<=v.2/\v.2<=(s.size:Int)/\0<=v.1/\v.1<10^v.2.toNat) (λv=>digE bad good (digL s (s.size-v.2.toNat) v.1)) ?_ k (0,0) ⟨by simp,by simp,by simp,by simp⟩ (by unfold Zr at hk;show s.size-(0:Int).toNat<k;omega)) (by show digE bad good (digL s (s.size-0) 0)=_;rw[Nat.sub_zero]);rintro⟨n,j⟩ ⟨j0,j1,n0,n1⟩ L hL;replace j0:0<=j:=j0;obtain⟨i,rfl⟩:∃ i:Nat,j=(i:Int):=⟨j.toNat,Om⟩
 replace j1:(i:Int)<=(s.size:Int):=j1;replace n0:0<=n:=n0;replace n1:n<10^((i:Int).toNat):=n1;rw[Int.toNat_natCast] at n1;simp only[Int.toNat_natCast]
 have p9:(10:Int)^i<=10^9:=by
  have:(10:Nat)^i<=10^9:=Nat.pow_le_pow_right De Om
  exact_mod_cast this
 by_cases hi:i<s.size
 ·rw[hb L n (i:Int) Om Om n0 Om];obtain⟨m,hm⟩:∃ m,s.size-i=m+1:=⟨s.size-i-1,Om⟩
  rw[hm];conv=>rhs;unfold digL
  rw[show s.size-(m+1)=i by omega];cases hq:inB (bS s (i:Int)) 48 57
  ·rfl
  ·have hq2:=hq;unfold inB at hq2;rw[Bool.and_eq_true,decide_eq_true_iff,decide_eq_true_iff] at hq2;simp only[cond_true]
   rw[hL (n*10+(bS s (i:Int)-48),(i:Int)+1) ⟨by show 0<=(i:Int)+1;omega,by show(i:Int)+1<=_;omega,by show 0<=n*10+(bS s (i:Int)-48);omega,by show n*10+(bS s (i:Int)-48)<10^((i:Int)+1).toNat;rw[show((i:Int)+1).toNat=i+1 by omega,Int.pow_succ];omega⟩ (by show s.size-((i:Int)+1).toNat<s.size-(i:Int).toNat;omega)];show digE bad good (digL s (s.size-((i:Int)+1).toNat) (n*10+(bS s (i:Int)-48)))=_;rw[show s.size-((i:Int)+1).toNat=m by omega]
 ·obtain rfl:i=s.size:=by omega
  rw[he,Nat.sub_self];unfold digL digE;rw[Zm (show ¬ n<0 by omega)];rfl
noncomputable def numV (s:BA):Int:=bif inB s.size 1 9 then(bif decide ((s.size:Int)>1)&&(bS s 0==48) then -1 else digL s s.size 0) else -1
theorem numV_sign {s:BA}:numV s = -1\/0<=numV s:=by
 unfold numV;cases inB s.size 1 9
 ·exact .inl rfl
 ·cases(decide ((s.size:Int)>1)&&(bS s 0==48))
  ·exact digL_sign De
  ·exact .inl rfl
theorem dig_wrap {n b:Int} (n0:0<=n) (n1:n<=1000000000) (b0:48<=b) (b1:b<=57):IntKind.wrap .i64 (IntKind.wrap .i64 (n*10)+IntKind.wrap .i64 (IntKind.wrap .u8 (b-48)))=n*10+(b-48):=by
 have h8:IntKind.wrap .u8 (b-48)=b-48:=by rw[IntKind.wrap_u8];omega
 rw[h8,Zb (x:=n*10) Om Om,Zb (x:=b-48) Om Om,Zb Om Om]
theorem l4Number_fv {s:BA} (hk:Zr k) {β:Type} (K:Int->Option β):bd1 (YY.t k s) K=K (numV s):=bd1_of (by
 unfold YY.t YY.g numV;rw[YcL];cases h1:inB (s.size:Int) 1 9
 ·rfl
 have h2:=h1;unfold inB at h2;rw[Bool.and_eq_true,decide_eq_true_iff,decide_eq_true_iff] at h2;simp only[Bool.not_true,cond_false,cond_true]
 have key:∀ {b:(Int×Int->Option Int)->Int×Int->Option Int} (_:∀ L n i,b L (n,i)=bif decide (i<(s.size:Int)) then(atStr s i λb12=>bif !(inB (IntKind.wrap .i64 b12) 48 57) then some (-1) else(atStr s i λb14=>L (IntKind.wrap .i64 (IntKind.wrap .i64 (n*10)+IntKind.wrap .i64 (IntKind.wrap .u8 (b14-48))),IntKind.wrap .i64 (i+1)))) else some n),Za1 b k (0,0)=some (digL s s.size 0):=λ{b} hb=>by
  rw[dig_loop (s:=s) (good:=λn=>some n) (bad:=some (-1)) Om (λL n i i0 i1 n0 n1=>?_) (λL n=>by rw[hb,Zm Om];rfl) hk]
  ·rcases digL_sign (s:=s) (m:=s.size) (n:=0) De with q|q
   ·rw[q];rfl
   ·unfold digE;rw[Zm Om];rfl
  ·rw[hb,Zl i1,cond_true,ZbK i0 i1,wrap_b];cases hq:inB (bS s i) 48 57
   ·rfl
   ·unfold inB at hq;rw[Bool.and_eq_true,decide_eq_true_iff,decide_eq_true_iff] at hq;simp only[Bool.not_true,cond_false,cond_true]
    rw[ZbK i0 i1,dig_wrap n0 n1 hq.1 hq.2,Zb Om Om]
 by_cases h3:(s.size:Int)>1
 ·rw[Zl h3,cond_true,ZbK Om Om,Bool.true_and];cases(bS s 0==48)
  ·exact key λL n i=>by unfold YY.l0;simp only[YcL]
  ·rfl
 ·rw[Zm h3,cond_false,Bool.false_and,cond_false];exact key λL n i=>by unfold YY.l1;simp only[YcL]) K
theorem number_fv {s:BA} (hk:Zr k) {β:Type} (K:Int->Bool->Option β):bd2 (Ybt.t k s) K=bif decide (numV s<0) then K 0 false else K (numV s) true:=by
 have hd:Yaf.t k s 9=some (bif decide (numV s<0) then(0,false) else(numV s,true)):=by
  unfold Yaf.t Yaf.g Yaf.m numV;have hs:ZP s (⟨#[]⟩:BA)=decide (s.size=0):=by
   rw[Bool.eq_iff_iff,decide_eq_true_iff];unfold ZP;rw[beq_iff_eq];constructor
   ·intro h;have:=congrArg List.length h;rw[ByteArray.toList_eq] at this;simpa using this
   ·intro h;have h':s.toList.length=0:=by rw[ByteArray.toList_eq];simpa using h
    rw[List.length_eq_zero_iff.mp h',Go.Lib.toList_data]
  rw[hs];by_cases h0:s.size=0
  ·rw[Zl h0,cond_true];have:inB (s.size:Int) 1 9=false:=by unfold inB;rw[h0];rfl
   rw[this];rfl
  rw[Zm h0,cond_false];by_cases h9:(s.size:Int)>9
  ·rw[Zl h9];have:inB (s.size:Int) 1 9=false:=by unfold inB;rw[Zm (show ¬ (s.size:Int)<=9 by omega)];simp
   rw[this];rfl
  rw[Zm h9,cond_false];have:inB (s.size:Int) 1 9=true:=by unfold inB;rw[Zl (show(s.size:Int)<=9 by omega),Zl (show(1:Int)<=s.size by omega)];rfl
  rw[this,cond_true,ZbK Om Om];have key:∀ {b:(Int×Int->Option (Int×Bool))->Int×Int->Option (Int×Bool)} (_:∀ L n i,b L (n,i)=bif decide (i<(s.size:Int)) then(atStr s i λb5=>bif decide (b5<48) then some (0,false) else(atStr s i λb6=>bif decide (b6>57) then some (0,false) else(atStr s i λb7=>L (IntKind.wrap .i64 (IntKind.wrap .i64 (10*n)+IntKind.wrap .i64 (IntKind.wrap .u8 (b7-48))),IntKind.wrap .i64 (i+1))))) else some (n,true)),Za1 b k (0,0)=some (bif decide (digL s s.size 0<0) then(0,false) else(digL s s.size 0,true)):=λ{b} hb=>by
   rw[dig_loop (s:=s) (good:=λn=>some (n,true)) (bad:=some (0,false)) Om (λL n i i0 i1 n0 n1=>?_) (λL n=>by rw[hb,Zm Om];rfl) hk]
   ·unfold digE;cases decide (digL s s.size 0<0)<;>rfl
   ·rw[hb,Zl i1,cond_true,ZbK i0 i1];unfold inB;by_cases q1:bS s i<48
    ·rw[Zl q1,Zm (show ¬ 48<=bS s i by omega)];rfl
    rw[Zm q1,Zl (show 48<=bS s i by omega),cond_false,ZbK i0 i1];by_cases q2:bS s i>57
    ·rw[Zl q2,Zm (show ¬ bS s i<=57 by omega)];rfl
    rw[Zm q2,Zl (show bS s i<=57 by omega),cond_false,ZbK i0 i1,Int.mul_comm 10 n,dig_wrap n0 n1 Om Om,Zb Om Om];rfl
  cases hz:(bS s 0==48)
  ·rw[Bool.and_false,cond_false,cond_false];exact key λL n i=>by unfold Yaf.l1;rfl
  ·rw[cond_true,Bool.and_true];by_cases h3:(s.size:Int)>1
   ·rw[Zl h3];rfl
   ·rw[Zm h3,cond_false,cond_false];exact key λL n i=>by unfold Yaf.l0;rfl
 unfold bd2 Ybt.t Ybt.g;rw[hd];cases decide (numV s<0)<;>rfl
theorem Yw.f_of {β:Type} {k aB aA aD aE aG a1 z0} (h:Yw.t k aB aA aD aE aG a1=some z0) (K:Int->Option β):Yw.f k aB aA aD aE aG a1 K=K z0:=by unfold Yw.f Yw.w;rw[h];rfl
theorem shapeOk_fv {c1:BA} {c3 c4:LD} (g1:c1.size<=lim) (g3:Zc RS lim c3) (hk:Zr k) {β:Type} (K:Bool->Option β):bd1 (YaA.t k c0 c1 c2 c3 c4) K=K (Ycz c0 c1 c2 c3 c4&&(!(c0==5)||decide ((c3.length:Int)<=300))):=bd1_of (by
 have hlim:lim=1048576:=rfl;have hb:big=2^64:=rfl;unfold YaA.t YaA.g YaA.m;have text:Za1 (YaA.l0 k ((c2:Int)==0) (((c3.length:Int):Int)==0) (((c4.length:Int):Int)==0) (c1.size:Int) c0 c1 c2 c3 c4 λz0=>some z0) k 0=some (textB c1&&(decide ((c1.size:Int)<=100)&&(c2==0&&((c3.length:Int)==0&&(c4.length:Int)==0)))):=by
  rw[Zab (n:=c1.size) (λi=>inB (bS c1 (i:Int)) 32 126) (r1:=some false) (r2:=some (decide ((c1.size:Int)<=100)&&(c2==0&&((c3.length:Int)==0&&(c4.length:Int)==0)))) (by unfold Zr at hk;omega)]
  ·unfold textB;generalize List.all _ _=x;cases x<;>rfl
  ·intro L i hi;simp(disch:=omega) only[YaA.l0,Zl (show(i:Int)<c1.size by omega),cond_true,ZbK,wrap_b,YcO,Zb]
   generalize inB _ _ _=x;cases x<;>rfl
  ·intro L;simp only[YaA.l0,Zm (show ¬ (c1.size:Int)<c1.size by omega),cond_false]
   cases decide ((c1.size:Int)<=100)<;>cases c2==0<;>cases((c3.length:Int)==0)<;>rfl
 simp only[text,YcO,namesOk_fv g3 hk]
 unfold Ycz;generalize textB c1=b1;generalize decide ((c1.size:Int)<=100)=b0;generalize hb2:ZP c1 (⟨#[]⟩:BA)=b2;have hb3:ZP c1 YcT=b2:=hb2;rw[hb3];generalize Ycy c3=b3;generalize inB c2 0 1=b4;generalize(c2==0)=b5;generalize((c4.length:Int)==0)=b6;generalize((c3.length:Int)==(c4.length:Int))=b7;generalize((c3.length:Int)==0)=b8;generalize decide ((c3.length:Int)<=300)=b9;rcases ZaC c0 with rfl|rfl|rfl|rfl|rfl|⟨e1,e2,e3,e4,e5⟩
 ·cases b0<;>cases b1<;>cases b5<;>cases b6<;>cases b8<;>rfl
 ·cases b2<;>cases b6<;>cases b8<;>rfl
 ·cases b2<;>cases b4<;>cases b6<;>cases b8<;>rfl
 ·cases b2<;>cases b5<;>cases b8<;>rfl
 ·cases b2<;>cases b3<;>cases b5<;>cases b7<;>cases b9<;>rfl
 ·simp only[e1,e2,e3,e4,e5,cond_false,Bool.false_and]) K
theorem measured_t (d:Nat):∀ {c0:Int} {c1:BA} {c2:Int} {c3 c4:LD},c1.size<=lim->Zc RS lim c3->Zc Yt lim c4->d<=6->∀ {k:Nat},big+d+1<=k->Yw.t k c0 c1 c2 c3 c4 (d:Int)=some (bif YbJ d [.int .i64 c0,.str c1,.int .i64 c2,.sl c3,.sl c4]==0 then 301 else YbJ d [.int .i64 c0,.str c1,.int .i64 c2,.sl c3,.sl c4]):=by
 have hlim:lim=1048576:=rfl;have hb:big=2^64:=rfl;induction d with
 |zero=>
  intro c0 c1 c2 c3 c4 g1 g3 g4 hd k hk;cases k with
  |zero=>omega
  |succ k=>rfl
 |succ d ih=>
  intro c0 c1 c2 c3 c4 g1 g3 g4 hd k hk;cases k with
  |zero=>omega
  |succ k=>
  have hl:=g4.1;have hk0:Zr k:=by unfold Zr;omega
  rw[Yw.t_succ];unfold Yw.g Yw.body;rw[show(((d+1:Nat):Int)==0)=false by rw[beq_eq_false_iff_ne];omega,cond_false,shapeOk_fv g1 g3 hk0];have key:=Zco (b:=Yw.l0 k (Yw.f k) ((d+1:Nat):Int) c4 (c4.length:Int) λz0=>some z0) (λv=>((c4.length:Int)-v.2).toNat) (λv=>0<=v.2/\v.2<=c4.length/\1<=v.1/\v.1<=300)
   (λv=>bif sumL (YbJ d) (c4.drop v.2.toNat) v.1==0 then some 301 else some (sumL (YbJ d) (c4.drop v.2.toNat) v.1)) ?_ k (1,0) Sm Sm
  ·rw[key];show(bif !(Ycz c0 c1 c2 c3 c4&&(!(c0==5)||decide ((c3.length:Int)<=300))) then some 301 else bif sumL (YbJ d) (List.drop 0 c4) 1==0 then some 301 else some (sumL (YbJ d) (List.drop 0 c4) 1))=some (bif YbJ (d+1) [.int .i64 c0,.str c1,.int .i64 c2,.sl c3,.sl c4]==0 then 301 else YbJ (d+1) [.int .i64 c0,.str c1,.int .i64 c2,.sl c3,.sl c4]);have el:YbJ (d+1) [.int .i64 c0,.str c1,.int .i64 c2,.sl c3,.sl c4]=bif sumL (YbJ d) c4 1==0 then 0 else bif Ycz c0 c1 c2 c3 c4 then sumL (YbJ d) c4 1 else 0:=rfl
   rw[List.drop_zero,el];have hs:=sumL_range (f:=YbJ d) (λr=>(YcC d r).1) (rs:=c4) (n:=1) Om Om;by_cases hz:sumL (YbJ d) c4 1=0
   ·rw[hz];cases(Ycz c0 c1 c2 c3 c4&&(!(c0==5)||decide ((c3.length:Int)<=300)))<;>rfl
   ·have hz':(sumL (YbJ d) c4 1==0)=false:=by rw[beq_eq_false_iff_ne];exact hz
    rw[hz',cond_false,cond_false];by_cases hsh:Ycz c0 c1 c2 c3 c4=true
    ·have h5:(!(c0==5)||decide ((c3.length:Int)<=300))=true:=by
      by_cases h5:c0=5
      ·subst h5;have:(c3.length:Int)=c4.length:=by
        unfold Ycz at hsh;simp at hsh;omega
       have:=hs.2.2 hz;simp;omega
      ·simp[h5]
     rw[hsh,h5];simp only[Bool.and_self,Bool.not_true,cond_false,cond_true,hz']
    ·rw[Bool.not_eq_true] at hsh;rw[hsh];rfl
  ·rintro⟨n,i⟩ ⟨i0,i1,n0,n1⟩ L hL;simp only[] at i0 i1 n0 n1 hL⊢;by_cases hi:i<c4.length
   ·have hg:=Yt.get g4 i0 hi;have hr:=YcC d (gR c4 i);have ih':=ih (c0:=gI c4 i 0) (c2:=gI c4 i 2) hg.2.2.1 hg.2.2.2.2.1 hg.2.2.2.2.2.1 Om (k:=k) Om;rw[<- hg.1] at ih';simp(disch:=omega) only[Yw.l0,atR,rdQ,Q.ask,Zl hi,cond_true,Yt.row g4,Zv,ZF,ZJ,Z6,Zw,Zb,show((d+1:Nat):Int)-1=(d:Int) by omega]
    rw[Yw.f_of ih',drop_gR i0 hi];simp only[sumL]
    by_cases hz:YbJ d (gR c4 i)=0
    ·rw[hz,show((0:Int)==0)=true from rfl,cond_true,Zb Om Om,Zl Om];simp
    ·rw[show(YbJ d (gR c4 i)==0)=false by rw[beq_eq_false_iff_ne];exact hz,cond_false,Zb Om Om];by_cases hn:n+YbJ d (gR c4 i)>300
     ·rw[Zl hn,if_pos (.inr hn)];rfl
     ·rw[Zm hn,if_neg Om,cond_false,hL _ ⟨by simp only[];omega,by simp only[];omega,by simp only[];omega,by simp only[];omega⟩ Sm]
   ·rw[drop_end Om];simp only[Yw.l0,atR,rdQ,Q.ask,Zm hi,cond_false,sumL]
    rw[show(n==0)=false by rw[beq_eq_false_iff_ne];omega,cond_false]
noncomputable def valB (c0:Int) (c1:BA) (c2:Int) (c3 c4:LD):Bool:=decide (YbJ 6 [.int .i64 c0,.str c1,.int .i64 c2,.sl c3,.sl c4]>0)
theorem YcE {c1:BA} (g1:c1.size<=lim) (g3:Zc RS lim c3) (g4:Zc Yt lim c4) (hk:Zp 1 k) {β:Type} (K:Bool->Option β):bd1 (Yao.t k c0 c1 c2 c3 c4) K=K (valB c0 c1 c2 c3 c4):=bd1_of (by
 unfold Yao.t Yao.g;rw[look_fv Om Om g1 g3 g4 hk];rfl) K
theorem YcB {c1:BA} (g1:c1.size<=lim) (g3:Zc RS lim c3) (g4:Zc Yt lim c4) (hk:Zp 1 k) {β:Type} (K:Bool->Option β):bd1 (Yag.t k c0 c1 c2 c3 c4) K=K (valB c0 c1 c2 c3 c4):=bd1_of (by
 have hb:big=2^64:=rfl;have h1:lv 1=2^65:=rfl;unfold Yag.t Yag.g;rw[Yw.f_of (show Yw.t k c0 c1 c2 c3 c4 6=_ from measured_t 6 g1 g3 g4 Om (by unfold Zp at hk;omega))];unfold valB;have hr:=YcC 6 [.int .i64 c0,.str c1,.int .i64 c2,.sl c3,.sl c4];generalize YbJ 6 [.int .i64 c0,.str c1,.int .i64 c2,.sl c3,.sl c4]=n at *
 by_cases hz:n=0
 ·subst hz;rfl
 ·rw[show(n==0)=false by rw[beq_eq_false_iff_ne];exact hz,cond_false,Zl Om,Zl Om]) K
theorem Yb.f_of {β:Type} {k a0 a1 z0} (h:Yb.t k a0 a1=some z0) (K:Bool->Option β):Yb.f k a0 a1 K=K z0:=by unfold Yb.f Yb.w;rw[h];rfl
theorem YE.f_of {β:Type} {k aB aA aD aE aG aQ aP aR aS aT z0} (h:YE.t k aB aA aD aE aG aQ aP aR aS aT=some z0) (K:Bool->Option β):YE.f k aB aA aD aE aG aQ aP aR aS aT K=K z0:=by unfold YE.f YE.w;rw[h];rfl
theorem clone_string_fv {a:LD} (g:Zc RS lim a) {β:Type} (K:LC->Option β):bd1 (YaF.t k a) K=K (a.map (·.map C.d)):=bd1_of (by
 have hl:=g.1;have hlim:lim=1048576:=rfl;have hm:Zx=2^36:=rfl;unfold YaF.t YaF.g;rw[ZU (RS.flat g.2),ZU (by simp only[List.length_nil,map_len];omega),List.nil_append];exact nilSl_same) K
theorem Yr.f_of {β:Type} {k aB aA aD aE aG z0 z1 z2 z3 z4} (h:Yr.t k aB aA aD aE aG=some (z0,z1,z2,z3,z4)) (K:Int->BA->Int->LC->LC->Option β):Yr.f k aB aA aD aE aG K=K z0 z1 z2 z3 z4:=by unfold Yr.f Yr.w;rw[h];rfl
theorem copyVal (n:Nat):∀ (c0:Int) (c1:BA) (c2:Int) (c3 c4:LD),Zc RS lim c3->c4.length<=lim->(∀ x∈c4,Yx lim n x)->∀ {k:Nat},big+n+1<=k->Yr.t k c0 c1 c2 c3 c4=some (c0,c1,c2,Za c3,Za c4):=by
 have hm:Zx=2^36:=rfl;have hlim:lim=1048576:=rfl;have hb:big=2^64:=rfl;induction n using Nat.strongRecOn with
 |ind n ih=>
 intro c0 c1 c2 c3 c4 g3 l4 g4 k hk;obtain⟨k,rfl⟩:∃ k',k=k'+1:=⟨k-1,Om⟩
 rw[Yr.t_succ];unfold Yr.g Yr.body;rw[clone_string_fv g3];refine(Zcb (xs:=c4) (r:=some (c0,c1,c2,c3.map (·.map C.d),Za c4)) Om (λL i hi=>?_) (λL=>?_)).trans (by rw[RS.deep g3.2])
 ·have hl:(Za (c4.take i)).length=i:=by rw[Zd,List.length_take];omega
  obtain⟨n',hn',d0,d1,d2,d3,d4,e,w0,w1,w2,w3,w4,w5⟩:∃ n',n=n'+1/\∃ d0 d1 d2 d3 d4,gR c4 (i:Int)=[.int .i64 d0,.str d1,.int .i64 d2,.sl d3,.sl d4]/\(Lit.int .i64 d0).wf=true/\d1.size<=lim/\(Lit.int .i64 d2).wf=true/\Zc RS lim d3/\d4.length<=lim/\∀ x∈d4,Yx lim n' x:=by
   have:=g4 _ (Zan (xs:=c4) (v:=(i:Int)) Om Om);generalize gR c4 (i:Int)=r at this;cases this with
   |mk e0 e1 e2 e3 e4 w0 p1 w2 p3 p4 p5=>exact⟨_,rfl,_,_,_,_,_,rfl,w0,p1,w2,p3,p4,p5⟩
  simp(disch:=omega) only[Yr.l0,atR,rdQ,Q.ask,Zl (show(i:Int)<c4.length by omega),cond_true,ZW (xs:=c4) (v:=(i:Int)),e,Zv,ZJ,ZF,Z6,Zw,Yr.f_of (ih n' Om d0 d1 d2 d3 d4 w3 w4 w5 (k:=k) Om),Zb]
  rw[ZU (by rw[hl,List.length_singleton];omega)];simp only[Zu,Zag]
 ·simp only[Yr.l0,atR,rdQ,Q.ask,Zm (show ¬ (c4.length:Int)<c4.length by omega),cond_false]
theorem l4CopyVal (n:Nat):∀ (c0:Int) (c1:BA) (c2:Int) (c3 c4:LD),Zc RS lim c3->c4.length<=lim->(∀ x∈c4,Yx lim n x)->∀ {k:Nat},big+n+1<=k->YL.t k c0 c1 c2 c3 c4=some (c0,c1,c2,Za c3,Za c4):=by
 have hm:Zx=2^36:=rfl;have hlim:lim=1048576:=rfl;have hb:big=2^64:=rfl;induction n using Nat.strongRecOn with
 |ind n ih=>
 intro c0 c1 c2 c3 c4 g3 l4 g4 k hk;have l3:=g3.1;obtain⟨k,rfl⟩:∃ k',k=k'+1:=⟨k-1,Om⟩
 rw[YL.t_succ];unfold YL.g YL.body;rw[ZU (RS.flat g3.2),ZU (by simp only[List.length_nil,map_len];omega),List.nil_append];refine(Zcb (xs:=c4) (r:=some (c0,c1,c2,c3.map (·.map C.d),Za c4)) Om (λL i hi=>?_) (λL=>?_)).trans (by rw[RS.deep g3.2])
 ·have hl:(Za (c4.take i)).length=i:=by rw[Zd,List.length_take];omega
  obtain⟨n',hn',d0,d1,d2,d3,d4,e,w0,w1,w2,w3,w4,w5⟩:∃ n',n=n'+1/\∃ d0 d1 d2 d3 d4,gR c4 (i:Int)=[.int .i64 d0,.str d1,.int .i64 d2,.sl d3,.sl d4]/\(Lit.int .i64 d0).wf=true/\d1.size<=lim/\(Lit.int .i64 d2).wf=true/\Zc RS lim d3/\d4.length<=lim/\∀ x∈d4,Yx lim n' x:=by
   have:=g4 _ (Zan (xs:=c4) (v:=(i:Int)) Om Om);generalize gR c4 (i:Int)=r at this;cases this with
   |mk e0 e1 e2 e3 e4 w0 p1 w2 p3 p4 p5=>exact⟨_,rfl,_,_,_,_,_,rfl,w0,p1,w2,p3,p4,p5⟩
  simp(disch:=omega) only[YL.l0,atR,rdQ,Q.ask,Zl (show(i:Int)<c4.length by omega),cond_true,ZW (xs:=c4) (v:=(i:Int)),e,Zv,ZJ,ZF,Z6,Zw,YL.f_of (ih n' Om d0 d1 d2 d3 d4 w3 w4 w5 (k:=k) Om),Zb]
  rw[ZU (by rw[hl,List.length_singleton];omega)];simp only[Zu,Zag]
 ·simp only[YL.l0,atR,rdQ,Q.ask,Zm (show ¬ (c4.length:Int)<c4.length by omega),cond_false]
theorem value_h {xs:LD} (g:Zc Yt lim xs):∀ x∈xs,Yx lim 1099511627776 x:=λx hx=>by
 obtain⟨h,hh,hx⟩:=g.2 x hx;exact hx.mono (hh De)
theorem YcD {c1:BA} (g3:Zc RS lim c3) (g4:Zc Yt lim c4) (hk:Zp 1 k) {β:Type} (K:Int->BA->Int->LC->LC->Option β):Yr.f k c0 c1 c2 c3 c4 K=K c0 c1 c2 (Za c3) (Za c4):=
 Yr.f_of (copyVal 1099511627776 c0 c1 c2 c3 c4 g3 g4.1 (value_h g4) (Nat.le_trans (big_lv1 (n:=1099511627776+1) Om) hk)) K
theorem l4Copy_fv {c1:BA} (g3:Zc RS lim c3) (g4:Zc Yt lim c4) (hk:Zp 1 k) {β:Type} (K:Int->BA->Int->LC->LC->Option β):YL.f k c0 c1 c2 c3 c4 K=K c0 c1 c2 (Za c3) (Za c4):=
 YL.f_of (l4CopyVal 1099511627776 c0 c1 c2 c3 c4 g3 g4.1 (value_h g4) (Nat.le_trans (big_lv1 (n:=1099511627776+1) Om) hk)) K
theorem sameVal (n:Nat):∀ (c0:Int) (c1:BA) (c2:Int) (c3 c4:LD),Zc RS lim c3->c4.length<=lim->(∀ x∈c4,Yx lim n x)->∀ {k:Nat},big+n+1<=k->Yf.t k c0 c1 c2 c3 c4 c0 c1 c2 c3 c4=some true:=by
 have hlim:lim=1048576:=rfl;have hb:big=2^64:=rfl;induction n using Nat.strongRecOn with
 |ind n ih=>
 intro c0 c1 c2 c3 c4 g3 l4 g4 k hk;have l3:=g3.1;obtain⟨k,rfl⟩:∃ k',k=k'+1:=⟨k-1,Om⟩
 rw[Yf.t_succ];unfold Yf.g Yf.body Yf.m;simp only[bne_self_eq_false,Ze,Bool.not_true,cond_false]
 refine iter_seq (f:=λt=>(t:Int)) (n:=c3.length) Om (λL t ht=>?_) (λL=>?_)
 ·simp(disch:=omega) only[Yf.l0,Yf.m0,atR,rdQ,Q.ask,Zl (show(t:Int)<(c3.length:Int) by omega),cond_true,RS.row g3,Zv,ZF,Zw,Ze,Bool.not_true,cond_false,Zb]
  rfl
 ·simp only[Yf.l0,Yf.m0,atR,rdQ,Q.ask]
  rw[Zm Om];simp only[cond_false]
  refine iter_seq (f:=λt=>(t:Int)) (n:=c4.length) Om (λL i hi=>?_) (λL=>?_)
  ·obtain⟨n',hn',d0,d1,d2,d3,d4,e,w0,w1,w2,w3,w4,w5⟩:∃ n',n=n'+1/\∃ d0 d1 d2 d3 d4,gR c4 (i:Int)=[.int .i64 d0,.str d1,.int .i64 d2,.sl d3,.sl d4]/\(Lit.int .i64 d0).wf=true/\d1.size<=lim/\(Lit.int .i64 d2).wf=true/\Zc RS lim d3/\d4.length<=lim/\∀ x∈d4,Yx lim n' x:=by
    have:=g4 _ (Zan (xs:=c4) (v:=(i:Int)) Om Om);generalize gR c4 (i:Int)=r at this;cases this with
    |mk e0 e1 e2 e3 e4 w0 p1 w2 p3 p4 p5=>exact⟨_,rfl,_,_,_,_,_,rfl,w0,p1,w2,p3,p4,p5⟩
   simp(disch:=omega) only[Yf.l1,atR,rdQ,Q.ask,Zl (show(i:Int)<(c4.length:Int) by omega),cond_true,ZW (xs:=c4) (v:=(i:Int)),e,Zv,ZJ,ZF,Z6,Zw,Yf.f_of (ih n' Om d0 d1 d2 d3 d4 w3 w4 w5 (k:=k) Om),Bool.not_true,cond_false,Zb]
   rfl
  ·simp only[Yf.l1,atR,rdQ,Q.ask]
   rw[Zm Om];rfl
theorem sameValue_f {c1:BA} (g3:Zc RS lim c3) (g4:Zc Yt lim c4) (hk:Zp 1 k) {β:Type} (K:Bool->Option β):Yf.f k c0 c1 c2 c3 c4 c0 c1 c2 c3 c4 K=K true:=
 Yf.f_of (sameVal 1099511627776 c0 c1 c2 c3 c4 g3 g4.1 (value_h g4) (Nat.le_trans (big_lv1 (n:=1099511627776+1) Om) hk)) K
abbrev rowV (c0:Int) (c1:BA) (c2:Int) (c3 c4:LD):List D:=[.int .i64 c0,.str c1,.int .i64 c2,.sl c3,.sl c4]
def sameF:Nat->List D->List D->Bool
 |0,_,_=>false
 |n+1,x,y=>(rI x 0==rI y 0)&&(ZP (rS x 1) (rS y 1)&&((rI x 2==rI y 2)&&((((rL x 3).length:Int)==((rL y 3).length:Int))&&((((rL x 4).length:Int)==((rL y 4).length:Int))&&((List.range (rL x 3).length).all (λi=>ZP (gS (rL x 3) (i:Int) 0) (gS (rL y 3) (i:Int) 0))&&(List.range (rL x 4).length).all λi=>sameF n (gR (rL x 4) (i:Int)) (gR (rL y 4) (i:Int)))))))
theorem equalS_fv {a b:LD} (ga:Zc RS lim a) (gb:Zc RS lim b) (hk:Zr k) {β:Type} (K:Bool->Option β):bd1 (Y1.t k a b) K=K (((a.length:Int)==(b.length:Int))&&(List.range a.length).all λi=>ZP (gS a (i:Int) 0) (gS b (i:Int) 0)):=bd1_of (by
 have hlim:lim=1048576:=rfl;have hb:big=2^64:=rfl;have la:=ga.1;unfold Y1.t Y1.g;cases hl:((a.length:Int)==(b.length:Int))
 ·simp only[bne,hl,Bool.not_false,cond_true,Bool.false_and]
 ·have hl':a.length=b.length:=by have:=eq_of_beq hl;omega
  simp only[bne,hl,Bool.not_true,cond_false,Bool.true_and]
  rw[Zab (n:=a.length) (λi=>ZP (gS a (i:Int) 0) (gS b (i:Int) 0)) (r1:=some false) (r2:=some true) (by unfold Zr at hk;omega)]
  ·cases List.all _ _<;>rfl
  ·intro L i hi;simp(disch:=omega) only[Y1.l0,atR,rdQ,Q.ask,Zl (show(i:Int)<(a.length:Int) by omega),cond_true,RS.row ga,RS.row gb,Zv,ZF,Zw,Zb]
   cases ZP (gS a (i:Int) 0) (gS b (i:Int) 0)<;>rfl
  ·intro L;simp[Y1.l0,atR,rdQ,Q.ask]) K
theorem same_both (n:Nat):∀ (c0:Int) (c1:BA) (c2:Int) (c3 c4:LD) (e0:Int) (e1:BA) (e2:Int) (e3 e4:LD),Zc RS lim c3->c4.length<=lim->(∀ x∈c4,Yx lim n x)->Zc RS lim e3->e4.length<=lim->(∀ x∈e4,Yx lim n x)->∀ {k:Nat},big+2*n+2<=k->Yf.t k c0 c1 c2 c3 c4 e0 e1 e2 e3 e4=some (sameF (n+1) (rowV c0 c1 c2 c3 c4) (rowV e0 e1 e2 e3 e4))/\YE.t k c0 c1 c2 c3 c4 e0 e1 e2 e3 e4=some (sameF (n+1) (rowV c0 c1 c2 c3 c4) (rowV e0 e1 e2 e3 e4)):=by
 have hlim:lim=1048576:=rfl;have hb:big=2^64:=rfl;induction n using Nat.strongRecOn with
 |ind n ih=>
 intro c0 c1 c2 c3 c4 e0 e1 e2 e3 e4 g3 l4 g4 f3 m4 f4 k hk;have l3:=g3.1;have m3:=f3.1;obtain⟨k,rfl⟩:∃ k',k=k'+1+1:=⟨k-2,Om⟩
 have val:sameF (n+1) (rowV c0 c1 c2 c3 c4) (rowV e0 e1 e2 e3 e4)=((c0==e0)&&(ZP c1 e1&&((c2==e2)&&(((c3.length:Int)==(e3.length:Int))&&(((c4.length:Int)==(e4.length:Int))&&((List.range c3.length).all (λi=>ZP (gS c3 (i:Int) 0) (gS e3 (i:Int) 0))&&(List.range c4.length).all λi=>sameF n (gR c4 (i:Int)) (gR e4 (i:Int)))))))):=rfl;rw[val];have kid:c4.length=e4.length->∀ (i:Nat),i<c4.length->∃ d0 d1 d2 d3 d4 x0 x1 x2 x3 x4,gR c4 (i:Int)=rowV d0 d1 d2 d3 d4/\gR e4 (i:Int)=rowV x0 x1 x2 x3 x4/\∀ {k':Nat},big+2*n<=k'->Yf.t k' d0 d1 d2 d3 d4 x0 x1 x2 x3 x4=some (sameF n (gR c4 (i:Int)) (gR e4 (i:Int)))/\YE.t k' d0 d1 d2 d3 d4 x0 x1 x2 x3 x4=some (sameF n (gR c4 (i:Int)) (gR e4 (i:Int))):=by
  intro hl i hi;have part:∀ (c4:LD),c4.length<=lim->(∀ x∈c4,Yx lim n x)->i<c4.length->∃ n',n=n'+1/\∃ d0 d1 d2 d3 d4,gR c4 (i:Int)=[.int .i64 d0,.str d1,.int .i64 d2,.sl d3,.sl d4]/\Zc RS lim d3/\d4.length<=lim/\∀ x∈d4,Yx lim n' x:=λc4 _ g4 hw=>by
   have:=g4 _ (Zan (v:=(i:Int)) Om Om);generalize gR c4 (i:Int)=r at this;cases this with
   |mk e0 e1 e2 e3 e4 w0 p1 w2 p3 p4 p5=>exact⟨_,rfl,_,_,_,_,_,rfl,p3,p4,p5⟩
  obtain⟨n1,hn1,d0,d1,d2,d3,d4,ed,w3,w4,w5⟩:=part c4 l4 g4 hi;obtain⟨n2,hn2,x0,x1,x2,x3,x4,ex,y3,y4,y5⟩:=part e4 m4 f4 Om;obtain rfl:n1=n2:=by omega
  refine⟨d0,d1,d2,d3,d4,x0,x1,x2,x3,x4,ed,ex,λ{k'} hk'=>?_⟩
  rw[ed,ex];subst hn1;exact ih n1 Om d0 d1 d2 d3 d4 x0 x1 x2 x3 x4 w3 w4 w5 y3 y4 y5 Om
 constructor
 ·rw[Yf.t_succ];unfold Yf.g Yf.body Yf.m;cases h0:(c0==e0)<;>simp only[bne,h0,Bool.not_true,Bool.not_false,cond_true,cond_false,Bool.true_and,Bool.false_and]
  cases h1:ZP c1 e1<;>simp only[Bool.not_true,Bool.not_false,cond_true,cond_false,Bool.true_and,Bool.false_and]
  cases h2:(c2==e2)<;>simp only[h2,Bool.not_true,Bool.not_false,cond_true,cond_false,Bool.true_and,Bool.false_and]
  cases h3:((c3.length:Int)==(e3.length:Int))<;>simp only[h3,Bool.not_true,Bool.not_false,cond_true,cond_false,Bool.true_and,Bool.false_and]
  cases h4:((c4.length:Int)==(e4.length:Int))<;>simp only[h4,Bool.not_true,Bool.not_false,cond_true,cond_false,Bool.true_and,Bool.false_and]
  have q3:c3.length=e3.length:=by have:=eq_of_beq h3;omega
  have q4:c4.length=e4.length:=by have:=eq_of_beq h4;omega
  have e2':Za1 (Yf.l1 (k+1) (Yf.f (k+1)) c0 c1 c2 c3 c4 e0 e1 e2 e3 e4 (λz0=>some z0)) (k+1) 0=some ((List.range c4.length).all λi=>sameF n (gR c4 (i:Int)) (gR e4 (i:Int))):=by
   rw[Zab (n:=c4.length) (λi=>sameF n (gR c4 (i:Int)) (gR e4 (i:Int))) (r1:=some false) (r2:=some true) Om]
   ·cases List.all _ _<;>rfl
   ·intro L i hi;obtain⟨d0,d1,d2,d3,d4,x0,x1,x2,x3,x4,ed,ex,hkid⟩:=kid q4 i hi;have es:=(hkid (k':=k+1) Om).1;generalize sameF n (gR c4 (i:Int)) (gR e4 (i:Int))=bb at es;simp(disch:=omega) only[Yf.l1,atR,rdQ,Q.ask,Zl (show(i:Int)<(c4.length:Int) by omega),cond_true,atR,rdQ,Q.ask,ZW (xs:=c4) (v:=(i:Int)),ZW (xs:=e4) (v:=(i:Int)),ed,ex,Zv,ZJ,ZF,Z6,Zw,Yf.f_of es,Zb]
    cases bb<;>rfl
   ·intro L;simp[Yf.l1,atR,rdQ,Q.ask]
  rw[Zab (n:=c3.length) (λi=>ZP (gS c3 (i:Int) 0) (gS e3 (i:Int) 0)) (r1:=some false) (r2:=some ((List.range c4.length).all λi=>sameF n (gR c4 (i:Int)) (gR e4 (i:Int)))) Om]
  ·cases(List.range c3.length).all λi=>ZP (gS c3 (i:Int) 0) (gS e3 (i:Int) 0)<;>rfl
  ·intro L i hi;simp(disch:=omega) only[Yf.l0,Yf.m0,atR,rdQ,Q.ask,Zl (show(i:Int)<(c3.length:Int) by omega),cond_true,RS.row g3,RS.row f3,Zv,ZF,Zw,Zb]
   cases ZP (gS c3 (i:Int) 0) (gS e3 (i:Int) 0)<;>rfl
  ·intro L;simp only[Yf.l0,Yf.m0,atR,rdQ,Q.ask,Zm (show ¬ (c3.length:Int)<(c3.length:Int) by omega),cond_false]
   exact e2'
 ·rw[YE.t_succ];unfold YE.g YE.body;cases h0:(c0==e0)<;>simp only[cond_true,cond_false,Bool.true_and,Bool.false_and]
  cases h1:ZP c1 e1<;>simp only[cond_true,cond_false,Bool.true_and,Bool.false_and]
  cases h2:(c2==e2)<;>simp only[cond_true,cond_false,Bool.true_and,Bool.false_and]
  rw[equalS_fv g3 f3 (by unfold Zr;omega)];cases h3:((c3.length:Int)==(e3.length:Int))<;>simp only[cond_true,cond_false,Bool.true_and,Bool.false_and]
  have ef:Yb.t (k+1) c4 e4=some (((c4.length:Int)==(e4.length:Int))&&(List.range c4.length).all λi=>sameF n (gR c4 (i:Int)) (gR e4 (i:Int))):=by
   rw[Yb.t_succ];unfold Yb.g Yb.body;cases h4:((c4.length:Int)==(e4.length:Int))<;>simp only[bne,h4,Bool.not_true,Bool.not_false,cond_true,cond_false,Bool.true_and,Bool.false_and]
   have q4:c4.length=e4.length:=by have:=eq_of_beq h4;omega
   rw[Zab (n:=c4.length) (λi=>sameF n (gR c4 (i:Int)) (gR e4 (i:Int))) (r1:=some false) (r2:=some true) Om]
   ·cases List.all _ _<;>rfl
   ·intro L i hi;obtain⟨d0,d1,d2,d3,d4,x0,x1,x2,x3,x4,ed,ex,hkid⟩:=kid q4 i hi;have es:=(hkid (k':=k) Om).2;generalize sameF n (gR c4 (i:Int)) (gR e4 (i:Int))=bb at es;simp(disch:=omega) only[Yb.l0,atR,rdQ,Q.ask,Zl (show(i:Int)<(c4.length:Int) by omega),cond_true,atR,rdQ,Q.ask,ZW (xs:=c4) (v:=(i:Int)),ZW (xs:=e4) (v:=(i:Int)),ed,ex,Zv,ZJ,ZF,Z6,Zw,YE.f_of es,Zb]
    cases bb<;>rfl
   ·intro L;simp[Yb.l0,atR,rdQ,Q.ask]
  cases hk3:(List.range c3.length).all λi=>ZP (gS c3 (i:Int) 0) (gS e3 (i:Int) 0)<;>simp only[cond_true,cond_false,Bool.true_and,Bool.false_and,Bool.and_false]
  rw[Yb.f_of ef]
noncomputable def sameVB (c0:Int) (c1:BA) (c2:Int) (c3 c4:LD) (e0:Int) (e1:BA) (e2:Int) (e3 e4:LD):Bool:=sameF (1099511627776+1) (rowV c0 c1 c2 c3 c4) (rowV e0 e1 e2 e3 e4)
theorem sameVB_t {c1 e1:BA} (g3:Zc RS lim c3) (g4:Zc Yt lim c4) (f3:Zc RS lim e3) (f4:Zc Yt lim e4) (hk:Zp 1 k):Yf.t k c0 c1 c2 c3 c4 e0 e1 e2 e3 e4=some (sameVB c0 c1 c2 c3 c4 e0 e1 e2 e3 e4)/\YE.t k c0 c1 c2 c3 c4 e0 e1 e2 e3 e4=some (sameVB c0 c1 c2 c3 c4 e0 e1 e2 e3 e4):=
 same_both 1099511627776 c0 c1 c2 c3 c4 e0 e1 e2 e3 e4 g3 g4.1 (value_h g4) f3 f4.1 (value_h f4) (Nat.le_trans (big_lv1 (n:=2*1099511627776+2) Om) hk)
abbrev Rop:Nat->List D->Prop:=Yn
noncomputable def itemB (w:BA):Bool:=Ye.v w||decide (0<=numV w)
noncomputable def pathB (ps:LD):Bool:=(List.range ps.length).all (λi=>itemB (gS ps (i:Int) 0))&&inB ps.length 1 5
def zeroB (x0:Int) (x1:BA) (x2:Int) (x3 x4:LD):Bool:=(x0==0)&&(ZP x1 (⟨#[]⟩:BA)&&((x2==0)&&(((x3.length:Int)==0)&&((x4.length:Int)==0))))
noncomputable def opOkB (kind:Int) (ps:LD) (x0:Int) (x1:BA) (x2:Int) (x3 x4:LD):Bool:=inB kind 1 3&&(pathB ps&&(bif kind==2 then zeroB x0 x1 x2 x3 x4 else valB x0 x1 x2 x3 x4))
noncomputable def opsB (l:LD):Bool:=(List.range l.length).all (λi=>opOkB (gI l (i:Int) 0) (gL l (i:Int) 1) (gI l (i:Int) 2) (gS l (i:Int) 3) (gI l (i:Int) 4) (gL l (i:Int) 5) (gL l (i:Int) 6))&&decide ((l.length:Int)<=20)
theorem path_fv {ps:LD} (g:Zc RS lim ps) (hk:Zr k) {β:Type} (K:Bool->Option β):bd1 (Ybb.t k ps) K=K (pathB ps):=bd1_of (by
 have hlim:lim=1048576:=rfl;have hb:big=2^64:=rfl;have hl:=g.1;unfold Ybb.t Ybb.g pathB;rw[Zab (n:=ps.length) (λi=>itemB (gS ps (i:Int) 0)) (r1:=some false) (r2:=some (inB ps.length 1 5)) (by unfold Zr at hk;omega)]
 ·cases(List.range ps.length).all λi=>itemB (gS ps (i:Int) 0)<;>rfl
 ·intro L i hi;have hw:=(RS.get g (v:=(i:Int)) Om Om).2.1;simp(disch:=omega) only[Ybb.l0,atR,rdQ,Q.ask,Zl (show(i:Int)<ps.length by omega),cond_true,RS.row g,Zv,ZF,Zw,Zb,l4Number_fv hk]
  rw[Ye.fv hw hk];unfold itemB;cases Ye.v (gS ps (i:Int) 0)<;>simp only[Bool.not_true,Bool.not_false,cond_true,cond_false,Bool.true_or,Bool.false_or]
  by_cases q:numV (gS ps (i:Int) 0)<0
  ·rw[Zl q,Zm (show ¬ 0<=numV (gS ps (i:Int) 0) by omega)];rfl
  ·rw[Zm q,Zl (show 0<=numV (gS ps (i:Int) 0) by omega)];rfl
 ·intro L;simp only[Ybb.l0,atR,rdQ,Q.ask,Zm (show ¬ (ps.length:Int)<(ps.length:Int) by omega),cond_false,YcL]) K
theorem patchS_fv {l:LD} (g:Zc Rop lim l) (hk:Zp 1 k) {β:Type} (K:Bool->Option β):bd1 (YaV.t k l) K=K (opsB l):=bd1_of (by
 have hlim:lim=1048576:=rfl;have hb:big=2^64:=rfl;have hl:=g.1;have hk0:Zr k:=up0 hk;unfold YaV.t YaV.g opsB;rw[Zab (n:=l.length) (λi=>opOkB (gI l (i:Int) 0) (gL l (i:Int) 1) (gI l (i:Int) 2) (gS l (i:Int) 3) (gI l (i:Int) 4) (gL l (i:Int) 5) (gL l (i:Int) 6)) (r1:=some false) (r2:=some (decide ((l.length:Int)<=20))) (by unfold Zr at hk0;omega)]
 ·generalize List.all _ _=b;cases b<;>rfl
 ·intro L i hi;obtain⟨-,-,p1,-,p3,-,p5,p6,-⟩:=Yn.get g (v:=(i:Int)) Om Om;have hz:∀ {β:Type} (K:Bool->Option β),bd1 (Ycg.t k (gI l (i:Int) 2) (gS l (i:Int) 3) (gI l (i:Int) 4) (gL l (i:Int) 5) (gL l (i:Int) 6)) K=K (zeroB (gI l (i:Int) 2) (gS l (i:Int) 3) (gI l (i:Int) 4) (gL l (i:Int) 5) (gL l (i:Int) 6)):=λ{β} K=>bd1_of (by
   unfold Ycg.t Ycg.g zeroB;generalize(gI l (i:Int) 2==0)=b1;generalize ZP (gS l (i:Int) 3) (⟨#[]⟩:BA)=b2;generalize(gI l (i:Int) 4==0)=b3;generalize(((gL l (i:Int) 5).length:Int)==0)=b4;generalize(((gL l (i:Int) 6).length:Int)==0)=b5;cases b1<;>cases b2<;>cases b3<;>cases b4<;>cases b5<;>rfl) K
  simp(disch:=omega) only[YaV.l0,atR,rdQ,Q.ask,Zl (show(i:Int)<l.length by omega),cond_true,Yn.row g,Zv,ZJ,ZF,Z6,Zw,Zb,YcL,path_fv p1 hk0,hz,YcE p3 p5 p6 hk]
  unfold opOkB;generalize inB (gI l (i:Int) 0) 1 3=b1;generalize pathB (gL l (i:Int) 1)=b2;generalize zeroB _ _ _ _ _=b3;generalize valB _ _ _ _ _=b4;cases h2:(gI l (i:Int) 0==2)<;>simp only[bne,h2,Bool.not_true,Bool.not_false,cond_true,cond_false]<;>cases b1<;>cases b2<;>cases b3<;>cases b4<;>rfl
 ·intro L;simp only[YaV.l0,atR,rdQ,Q.ask,Zm (show ¬ (l.length:Int)<(l.length:Int) by omega),cond_false]) K
theorem sameF_zero (N:Nat) {x1:BA}:sameF (N+1) (rowV x0 x1 x2 x3 x4) (rowV 0 (⟨#[]⟩:BA) 0 [] [])=zeroB x0 x1 x2 x3 x4:=by
 show((x0==0)&&(ZP x1 (⟨#[]⟩:BA)&&((x2==0)&&(((x3.length:Int)==0)&&(((x4.length:Int)==0)&&((List.range x3.length).all (λi=>ZP (gS x3 (i:Int) 0) (gS [] (i:Int) 0))&&(List.range x4.length).all λi=>sameF N (gR x4 (i:Int)) (gR [] (i:Int))))))))=_;unfold zeroB;cases h3:((x3.length:Int)==0)<;>cases h4:((x4.length:Int)==0)<;>simp only[Bool.and_false,Bool.false_and,Bool.true_and,Bool.and_true]
 have e3:x3.length=0:=by have:=eq_of_beq h3;omega
 have e4:x4.length=0:=by have:=eq_of_beq h4;omega
 rw[e3,e4];simp
theorem zero_same {x1:BA}:sameVB x0 x1 x2 x3 x4 0 (⟨#[]⟩:BA) 0 [] []=zeroB x0 x1 x2 x3 x4:=by
 unfold sameVB;generalize 1099511627776=N;exact sameF_zero N
theorem opOk_fv {kind:Int} {ps:LD} {x1:BA} (gp:Zc RS lim ps) (u1:x1.size<=lim) (u3:Zc RS lim x3) (u4:Zc Yt lim x4) (hk:Zp 1 k) {β:Type} (K:Bool->Option β):bd1 (Ycx.t k kind ps x0 x1 x2 x3 x4) K=K (opOkB kind ps x0 x1 x2 x3 x4):=bd1_of (by
 have hlim:lim=1048576:=rfl;have hb:big=2^64:=rfl;have hl:=gp.1;have hk0:Zr k:=up0 hk;have hi:∀ {β:Type} (K:Int->Option β),bd1 (Ys.t k ps) K=K (ZaH (λi=>!itemB (gS ps (i:Int) 0)) ps.length):=λ{β} K=>bd1_of (by
  unfold Ys.t Ys.g;refine ZcZ (n:=ps.length) _ some (by unfold Zr at hk0;omega) (λL i hi=>?_) (λL=>by simp[Ys.l0,atR,rdQ,Q.ask]);have hw:=(RS.get gp (v:=(i:Int)) Om Om).2.1;have h1:∀ {β:Type} (K:Bool->Option β),bd1 (Ycj.t k (gS ps (i:Int) 0)) K=K (!itemB (gS ps (i:Int) 0)):=λ{β} K=>bd1_of (by
   unfold Ycj.t Ycj.g itemB;have hn:∀ {β:Type} (K:Bool->Option β),bd1 (YbL.t k (gS ps (i:Int) 0)) K=K (decide (0<=numV (gS ps (i:Int) 0))):=λ{β} K=>bd1_of (by
    unfold YbL.t YbL.g;rw[number_fv hk0];by_cases q:numV (gS ps (i:Int) 0)<0
    ·rw[Zl q,Zm (show ¬ 0<=numV (gS ps (i:Int) 0) by omega)];rfl
    ·rw[Zm q,Zl (show 0<=numV (gS ps (i:Int) 0) by omega)];rfl) K
   rw[Ycr,Ye.fv hw hk0,hn];cases Ye.v (gS ps (i:Int) 0)<;>rfl) K
  simp(disch:=omega) only[Ys.l0,atR,rdQ,Q.ask,Zl (show(i:Int)<ps.length by omega),cond_true,RS.row gp,Zv,ZF,Zw,h1,Zb]) K
 have hc:∀ {β:Type} (K:Bool->Option β),bd1 (YM.t k ps) K=K (!(List.range ps.length).all λi=>itemB (gS ps (i:Int) 0)):=λ{β} K=>bd1_of (by
  unfold YM.t YM.g;rw[hi,findI_all];simp only[Bool.not_not]) K
 unfold Ycx.t Ycx.g opOkB pathB;rw[YcO,hc];have hs:∀ {β:Type} (K:Bool->Option β),YE.f k x0 x1 x2 x3 x4 0 (⟨#[]⟩:BA) 0 [] [] K=K (zeroB x0 x1 x2 x3 x4):=λ{β} K=>by
  rw[YE.f_of (sameVB_t u3 u4 ⟨Nat.zero_le _,λr hr=>by cases hr⟩ ⟨Nat.zero_le _,λr hr=>by cases hr⟩ hk).2,zero_same]
 simp only[hs,YcB u1 u3 u4 hk]
 generalize(List.range ps.length).all (λi=>itemB (gS ps (i:Int) 0))=b2;generalize inB (ps.length:Int) 1 5=b3;generalize zeroB x0 x1 x2 x3 x4=b4;generalize valB x0 x1 x2 x3 x4=b5;have hk3:kind=1\/kind=2\/kind=3\/((kind==1)=false/\(kind==2)=false/\(kind==3)=false/\inB kind 1 3=false):=by
  by_cases e1:kind=1
  ·exact .inl e1
  by_cases e2:kind=2
  ·exact .inr (.inl e2)
  by_cases e3:kind=3
  ·exact .inr (.inr (.inl e3))
  refine .inr (.inr (.inr ⟨beq_eq_false_iff_ne.mpr e1,beq_eq_false_iff_ne.mpr e2,beq_eq_false_iff_ne.mpr e3,?_⟩));cases q:inB kind 1 3
  ·rfl
  ·unfold inB at q;rw[Bool.and_eq_true,decide_eq_true_iff,decide_eq_true_iff] at q;omega
 rcases hk3 with rfl|rfl|rfl|⟨e1,e2,e3,e4⟩
 ·cases b2<;>cases b3<;>cases b4<;>cases b5<;>rfl
 ·cases b2<;>cases b3<;>cases b4<;>cases b5<;>rfl
 ·cases b2<;>cases b3<;>cases b4<;>cases b5<;>rfl
 ·rw[e1,e2,e3,e4];cases b2<;>cases b3<;>cases b4<;>cases b5<;>rfl) K
theorem patchI_fv {l:LD} (g:Zc Rop lim l) (hk:Zp 1 k) {β:Type} (K:Bool->Option β):bd1 (YbG.t k l) K=K (opsB l):=bd1_of (by
 have hlim:lim=1048576:=rfl;have hb:big=2^64:=rfl;have hl:=g.1;have hk0:Zr k:=up0 hk;have hi:∀ {β:Type} (K:Int->Option β),bd1 (Yk.t k l) K=K (ZaH (λi=>!opOkB (gI l (i:Int) 0) (gL l (i:Int) 1) (gI l (i:Int) 2) (gS l (i:Int) 3) (gI l (i:Int) 4) (gL l (i:Int) 5) (gL l (i:Int) 6)) l.length):=λ{β} K=>bd1_of (by
  unfold Yk.t Yk.g;refine ZcZ (n:=l.length) _ some (by unfold Zr at hk0;omega) (λL i hi=>?_) (λL=>by simp[Yk.l0,atR,rdQ,Q.ask]);obtain⟨-,-,p1,-,p3,-,p5,p6,-⟩:=Yn.get g (v:=(i:Int)) Om Om;have h1:∀ {β:Type} (K:Bool->Option β),bd1 (YbF.t k (gI l (i:Int) 0) (gL l (i:Int) 1) (gI l (i:Int) 2) (gS l (i:Int) 3) (gI l (i:Int) 4) (gL l (i:Int) 5) (gL l (i:Int) 6)) K=K (!opOkB (gI l (i:Int) 0) (gL l (i:Int) 1) (gI l (i:Int) 2) (gS l (i:Int) 3) (gI l (i:Int) 4) (gL l (i:Int) 5) (gL l (i:Int) 6)):=λ{β} K=>bd1_of (by
   unfold YbF.t YbF.g;rw[opOk_fv p1 p3 p5 p6 hk]) K
  simp(disch:=omega) only[Yk.l0,atR,rdQ,Q.ask,Zl (show(i:Int)<l.length by omega),cond_true,Yn.row g,Zv,ZJ,ZF,Z6,Zw,h1,Zb]) K
 have hc:∀ {β:Type} (K:Bool->Option β),bd1 (Yz.t k l) K=K (!(List.range l.length).all λi=>opOkB (gI l (i:Int) 0) (gL l (i:Int) 1) (gI l (i:Int) 2) (gS l (i:Int) 3) (gI l (i:Int) 4) (gL l (i:Int) 5) (gL l (i:Int) 6)):=λ{β} K=>bd1_of (by
  unfold Yz.t Yz.g;rw[hi,findI_all];simp only[Bool.not_not]) K
 unfold YbG.t YbG.g opsB;simp only[hc,Bool.not_not]
 generalize List.all _ _=b;cases decide ((l.length:Int)<=20)<;>cases b<;>rfl) K
abbrev mkV (c0:Int) (c1:BA) (c2:Int) (c3 c4:LD):List D:=[.int .i64 c0,.str c1,.int .i64 c2,.sl c3,.sl c4]
structure OkV (d:Nat) (r:List D):Prop where
 h:Yx lim d r
 ok:YbJ d r≠0
structure OpenV (d:Nat) (c0:Int) (c1:BA) (c2:Int) (c3 c4:LD):Prop where
 w0:(Lit.int .i64 c0).wf=true
 w1:c1.size<=lim
 w2:(Lit.int .i64 c2).wf=true
 g3:Zc RS lim c3
 g4:c4.length<=lim
 sh:Ycz c0 c1 c2 c3 c4=true
 len:c4.length<=300
 kids:∀ x∈c4,OkV d x
theorem sumL_all {f:List D->Int} (hf:∀ r,0<=f r):∀ {rs:LD} {n:Int},1<=n->sumL f rs n≠0->∀ x∈rs,f x≠0
 |[],n,_,_,x,hx=>by cases hx
 |r::rs,n,h1,h,x,hx=>by
  simp only[sumL] at h;split at h
  ·exact absurd rfl h
  ·rename_i hq;rcases List.mem_cons.mp hx with rfl|hx
   ·exact λe=>hq (.inl e)
   ·exact sumL_all hf (by have:=hf r;omega) h x hx
theorem look_parts {d:Nat} {r:List D} (h:YbJ (d+1) r≠0):Ycz (rI r 0) (rS r 1) (rI r 2) (rL r 3) (rL r 4)=true/\(rL r 4).length<=299/\∀ x∈rL r 4,YbJ d x≠0:=by
 simp only[YbJ] at h;have hr:=sumL_range (f:=YbJ d) (λr=>(YcC d r).1) (rs:=rL r 4) (n:=1) Om Om;have ha:=sumL_all (f:=YbJ d) (λr=>(YcC d r).1) (rs:=rL r 4) (n:=1) Om;cases hz:(sumL (YbJ d) (rL r 4) 1==0)<;>rw[hz] at h
 ·have hz':=beq_eq_false_iff_ne.mp hz;cases hs:Ycz (rI r 0) (rS r 1) (rI r 2) (rL r 3) (rL r 4)<;>rw[hs] at h
  ·exact absurd rfl h
  ·exact⟨rfl,by have:=hr.2.2 hz';omega,ha hz'⟩
 ·exact absurd rfl h
theorem look_h:∀ {d N:Nat} {r:List D},Yx lim N r->YbJ d r≠0->Yx lim d r
 |0,_,r,_,h=>absurd rfl h
 |d+1,_,_,.mk c0 c1 c2 c3 c4 k0 k1 k2 k3 k4 m4,h=>.mk c0 c1 c2 c3 c4 k0 k1 k2 k3 k4 λx hx=>look_h (m4 x hx) ((look_parts h).2.2 x hx)
theorem OkV.of {d N:Nat} {r:List D} (h:Yx lim N r) (ok:YbJ d r≠0):OkV d r:=⟨look_h h ok,ok⟩
theorem OkV.open {d:Nat} {r:List D} (h:OkV d r):∃ d' c0 c1 c2 c3 c4,d=d'+1/\r=mkV c0 c1 c2 c3 c4/\OpenV d' c0 c1 c2 c3 c4:=by
 obtain⟨hh,ok⟩:=h;cases hh with
 |@mk d' c0 c1 c2 c3 c4 k0 k1 k2 k3 k4 m4=>
  obtain⟨q1,q2,q3⟩:=look_parts ok;replace q2:c4.length<=299:=q2;exact⟨d',c0,c1,c2,c3,c4,rfl,rfl,k0,k1,k2,k3,k4,q1,Om,λx hx=>⟨m4 x hx,q3 x hx⟩⟩
section
variable {d:Nat} {c0:Int} {c1:BA} {c2:Int} {c3 c4:LD}
theorem OpenV.kg (h:OpenV d c0 c1 c2 c3 c4) (hd:d<=1000):Zc Yt lim c4:=⟨h.g4,λx hx=>⟨d,λ_=>by omega,(h.kids x hx).h⟩⟩
theorem bare_eq {s:BA} (h:ZP s YcT=true):s=⟨#[]⟩:=by
 unfold ZP YcT at h;rw[beq_iff_eq,Go.Lib.toList_data,Go.Lib.toList_data] at h;exact ByteArray.ext (Array.toList_inj.mp h)
theorem OpenV.four (h:OpenV d c0 c1 c2 c3 c4) (e:c0=4):c1=⟨#[]⟩/\c2=0/\c3=[]:=by
 have:=h.sh;subst e;unfold Ycz at this;simp only[show((4:Int)==1)=false from rfl,show((4:Int)==2)=false from rfl,show((4:Int)==3)=false from rfl,show((4:Int)==4)=true from rfl,cond_false,cond_true,Bool.and_eq_true,beq_iff_eq] at this;exact⟨bare_eq this.2.1,this.2.2,List.length_eq_zero_iff.mp Om⟩
theorem OpenV.five (h:OpenV d c0 c1 c2 c3 c4) (e:c0=5):c1=⟨#[]⟩/\c2=0/\c3.length=c4.length/\Ycy c3=true:=by
 have:=h.sh;subst e;unfold Ycz at this;simp only[show((5:Int)==1)=false from rfl,show((5:Int)==2)=false from rfl,show((5:Int)==3)=false from rfl,show((5:Int)==4)=false from rfl,show((5:Int)==5)=true from rfl,cond_false,cond_true,Bool.and_eq_true,beq_iff_eq] at this;exact⟨bare_eq this.2.1,this.2.2,by have:=this.1.2;omega,this.1.1⟩
end
theorem findI_same {p q:Nat->Bool} {n:Nat} (h:∀ i,i<n->p i=q i):ZaH p n=ZaH q n:=by
 unfold ZaH;have:∀ (l:List Nat),(∀ i∈l,i<n)->l.find? p=l.find? q:=by
  intro l;induction l with
  |nil=>intro _;rfl
  |cons x l ih=>
   intro hl;rw[List.find?_cons,List.find?_cons,h x (hl x Sp),ih λi hi=>hl i (by simp[hi])]
 rw[this _ λi hi=>List.mem_range.mp hi]
noncomputable def Ycw (c0:Int) (c3 c4:LD) (w:BA):Int:=
 bif c0==5 then ZaH (λi=>ZP (gS c3 (i:Int) 0) w&&decide ((i:Int)<(c4.length:Int))) c3.length else
 bif c0==4 then(bif decide (numV w<(c4.length:Int)) then numV w else -1) else -1
theorem kidV_lt {c3 c4:LD} {w:BA} (h:¬ Ycw c0 c3 c4 w<0):∃ i:Nat,Ycw c0 c3 c4 w=(i:Int)/\i<c4.length:=by
 unfold Ycw at *
 cases h5:(c0==5)<;>simp only[h5,cond_true,cond_false] at h⊢
 ·cases h4:(c0==4)<;>simp only[h4,cond_true,cond_false] at h⊢
  ·omega
  ·by_cases hn:numV w<(c4.length:Int)
   ·rw[Zl hn] at h⊢;simp only[cond_true] at h⊢;exact⟨(numV w).toNat,Om,Om⟩
   ·rw[Zm hn] at h;exact absurd (show(-1:Int)<0 by decide) h
 ·obtain⟨q1,q2,q3,-⟩:=Zb4 (by omega:0<=ZaH (λi=>ZP (gS c3 (i:Int) 0) w&&decide ((i:Int)<(c4.length:Int))) c3.length);simp only[Bool.and_eq_true,decide_eq_true_iff] at q2;exact⟨_,q3.symm,Om⟩
theorem l4Kid_fv {c1 w:BA} (g3:Zc RS lim c3) (hk:Zr k) {β:Type} (K:Int->Option β):bd1 (YaZ.t k c0 c1 c2 c3 c4 w) K=K (Ycw c0 c3 c4 w):=bd1_of (by
 have hlim:lim=1048576:=rfl;have hb:big=2^64:=rfl;have hl:=g3.1;unfold YaZ.t YaZ.g Ycw;cases(c0==5)<;>simp only[cond_true,cond_false]
 ·cases(c0==4)<;>simp only[cond_true,cond_false]
  rw[l4Number_fv hk];cases decide (numV w<(c4.length:Int))<;>rfl
 ·refine ZcZ (n:=c3.length) _ some (by unfold Zr at hk;omega) (λL i hi=>?_) (λL=>by simp[YaZ.l0,atR,rdQ,Q.ask]);simp(disch:=omega) only[YaZ.l0,atR,rdQ,Q.ask,Zl (show(i:Int)<c3.length by omega),cond_true,RS.row g3,Zv,ZF,Zw,Zb]
  cases ZP (gS c3 (i:Int) 0) w<;>cases decide ((i:Int)<(c4.length:Int))<;>rfl) K
theorem strEq_sym (a b:BA):ZP a b=ZP b a:=by
 unfold ZP;rw[Bool.eq_iff_iff,beq_iff_eq,beq_iff_eq];exact eq_comm
theorem index_fv {c3:LD} {w:BA} (g3:Zc RS lim c3) (hk:Zr k) {β:Type} (K:Int->Option β):bd1 (YK.t k c3 w) K=K (ZaH (λi=>ZP (gS c3 (i:Int) 0) w) c3.length):=bd1_of (by
 have hlim:lim=1048576:=rfl;have hb:big=2^64:=rfl;have hl:=g3.1;unfold YK.t YK.g;refine ZcZ (n:=c3.length) _ some (by unfold Zr at hk;omega) (λL i hi=>?_) (λL=>by simp[YK.l0,atR,rdQ,Q.ask]);simp(disch:=omega) only[YK.l0,atR,rdQ,Q.ask,Zl (show(i:Int)<c3.length by omega),cond_true,RS.row g3,Zv,ZF,Zw,Zb]
 rw[strEq_sym w]) K
theorem step_fv {c1:BA} {c3 c4:LD} {w:BA} (g3:Zc RS lim c3) (h5:c0=5->c3.length=c4.length) (hk:Zr k) {β:Type} (K:Int->Option β):bd1 (Yb8.t k c0 c1 c2 c3 c4 w) K=K (Ycw c0 c3 c4 w):=bd1_of (by
 unfold Yb8.t Yb8.g Ycw;cases h:(c0==5)<;>simp only[cond_true,cond_false]
 ·cases(c0==4)<;>simp only[cond_true,cond_false]
  rw[number_fv hk];rcases numV_sign (s:=w) with q|q
  ·rw[q,Zl (show(-1:Int)<0 by omega),Zl (show(-1:Int)<(c4.length:Int) by omega)];rfl
  ·rw[Zm (show ¬ numV w<0 by omega)];cases decide (numV w<(c4.length:Int))<;>rfl
 ·rw[index_fv g3 hk];have:=h5 (eq_of_beq h);exact congrArg some (findI_same λi hi=>by rw[Zl (show(i:Int)<(c4.length:Int) by omega),Bool.and_true])) K
noncomputable def YcJ:LD->List D->Option (List D)
 |[],v=>some v
 |p::ps,v=>bif decide (Ycw (rI v 0) (rL v 3) (rL v 4) (rS p 0)<0) then none else YcJ ps (gR (rL v 4) (Ycw (rI v 0) (rL v 3) (rL v 4) (rS p 0)))
noncomputable def outV (o:Option (List D)):Int×BA×Int×LD×LD×Bool:=match o with|some r=>(rI r 0,rS r 1,rI r 2,rL r 3,rL r 4,true)|none=>(0,⟨#[]⟩,0,[],[],false)
noncomputable def outC (o:Option (List D)):Int×BA×Int×LC×LC×Bool:=match o with|some r=>(rI r 0,rS r 1,rI r 2,Za (rL r 3),Za (rL r 4),true)|none=>(0,⟨#[]⟩,0,[],[],false)
theorem reach_ok:∀ {ps:LD} {d:Nat} {v r:List D},OkV d v->YcJ ps v=some r->∃ d',d'<=d/\OkV d' r
 |[],d,v,r,h,e=>by unfold YcJ at e;injection e with e;subst e;exact⟨d,Nat.le_refl _,h⟩
 |p::ps,d,v,r,h,e=>by
  unfold YcJ at e;obtain⟨d',c0,c1,c2,c3,c4,rfl,rfl,o⟩:=h.open;by_cases hq:Ycw c0 c3 c4 (rS p 0)<0
  ·rw[show(decide (Ycw (rI (mkV c0 c1 c2 c3 c4) 0) (rL (mkV c0 c1 c2 c3 c4) 3) (rL (mkV c0 c1 c2 c3 c4) 4) (rS p 0)<0))=true from Zl hq] at e;cases e
  ·rw[show(decide (Ycw (rI (mkV c0 c1 c2 c3 c4) 0) (rL (mkV c0 c1 c2 c3 c4) 3) (rL (mkV c0 c1 c2 c3 c4) 4) (rS p 0)<0))=false from Zm hq] at e;obtain⟨i,hi,hil⟩:=kidV_lt hq;replace e:YcJ ps (gR c4 (Ycw c0 c3 c4 (rS p 0)))=some r:=e;rw[hi] at e;obtain⟨d2,h1,h2⟩:=reach_ok (o.kids _ (Zan (xs:=c4) (v:=(i:Int)) Om Om)) e;exact⟨d2,Om,h2⟩
theorem l4Reach_t {d:Nat} (hd:d<=1000) {c1:BA} {c3 c4 ps:LD} (h:OkV d (mkV c0 c1 c2 c3 c4)) (gp:Zc RS lim ps) (hk:Zp 1 k):YaR.t k c0 c1 c2 c3 c4 ps=some (outV (YcJ ps (mkV c0 c1 c2 c3 c4))):=by
 have hlim:lim=1048576:=rfl;have hb:big=2^64:=rfl;have hl:=gp.1;have hk0:Zr k:=up0 hk;unfold YaR.t YaR.g;refine Eq.trans (Zco (λv:Int×Int×BA×Int×LD×LD=>ps.length-v.1.toNat) (λv=>0<=v.1/\v.1<=(ps.length:Int)/\∃ e,e<=1000/\OkV e (mkV v.2.1 v.2.2.1 v.2.2.2.1 v.2.2.2.2.1 v.2.2.2.2.2)) (λv=>some (outV (YcJ (ps.drop v.1.toNat) (mkV v.2.1 v.2.2.1 v.2.2.2.1 v.2.2.2.2.1 v.2.2.2.2.2)))) ?_ k (0,c0,c1,c2,c3,c4) ⟨by simp,by simp,d,hd,h⟩ (by unfold Zr at hk0;show ps.length-(0:Int).toNat<k;omega)) (by rfl);rintro⟨n,c0,c1,c2,c3,c4⟩ ⟨n0,n1,e,he,ho⟩ L hL;replace n0:0<=n:=n0;obtain⟨i,rfl⟩:∃ i:Nat,n=(i:Int):=⟨n.toNat,Om⟩
 replace n1:(i:Int)<=(ps.length:Int):=n1;replace ho:OkV e (mkV c0 c1 c2 c3 c4):=ho;simp only[Int.toNat_natCast]
 obtain⟨e',d0,d1,d2,d3,d4,rfl,ev,o⟩:=ho.open;injection ev with v0 ev;injection ev with v1 ev;injection ev with v2 ev;injection ev with v3 ev;injection ev with v4 ev;injection v0 with _ v0;injection v1 with v1;injection v2 with _ v2;injection v3 with v3;injection v4 with v4;subst v0 v1 v2 v3 v4;by_cases hi:i<ps.length
 ·rw[List.drop_eq_getElem_cons hi];have hg:ps[i]=gR ps (i:Int):=by have:=gR_at (xs:=ps) (v:=(i:Int)) Om Om;rw[Int.toNat_natCast,List.getElem?_eq_getElem hi] at this;injection this
  rw[hg];unfold YcJ;simp(disch:=omega) only[YaR.l0,atR,rdQ,Q.ask,Zl (show(i:Int)<(ps.length:Int) by omega),cond_true,RS.row gp,Zv,ZF,Zw,l4Kid_fv o.g3 hk0]
  have ek:Ycw (rI (mkV c0 c1 c2 c3 c4) 0) (rL (mkV c0 c1 c2 c3 c4) 3) (rL (mkV c0 c1 c2 c3 c4) 4) (rS (gR ps (i:Int)) 0)=Ycw c0 c3 c4 (gS ps (i:Int) 0):=rfl;have el:rL (mkV c0 c1 c2 c3 c4) 4=c4:=rfl;rw[ek,el];by_cases hq:Ycw c0 c3 c4 (gS ps (i:Int) 0)<0
  ·rw[Zl hq];rfl
  ·rw[Zm hq];simp only[cond_false]
   obtain⟨j,hj,hjl⟩:=kidV_lt hq;rw[hj];have hrow:=(Yt.get (o.kg Om) (v:=(j:Int)) Om Om).1;simp(disch:=omega) only[Yt.row (o.kg Om),Zv,ZJ,ZF,Z6,Zw,Zb]
   rw[hL _ ⟨by show 0<=(i:Int)+1;omega,by show(i:Int)+1<=_;omega,e',Om,by show OkV e' (mkV (gI c4 (j:Int) 0) (gS c4 (j:Int) 1) (gI c4 (j:Int) 2) (gL c4 (j:Int) 3) (gL c4 (j:Int) 4));rw[show mkV (gI c4 (j:Int) 0) (gS c4 (j:Int) 1) (gI c4 (j:Int) 2) (gL c4 (j:Int) 3) (gL c4 (j:Int) 4)=gR c4 (j:Int) from hrow.symm];exact o.kids _ (Zan Om Om)⟩ (by show ps.length-((i:Int)+1).toNat<ps.length-(i:Int).toNat;omega)];show some (outV (YcJ (ps.drop ((i:Int)+1).toNat) (mkV (gI c4 (j:Int) 0) (gS c4 (j:Int) 1) (gI c4 (j:Int) 2) (gL c4 (j:Int) 3) (gL c4 (j:Int) 4))))=_;rw[show mkV (gI c4 (j:Int) 0) (gS c4 (j:Int) 1) (gI c4 (j:Int) 2) (gL c4 (j:Int) 3) (gL c4 (j:Int) 4)=gR c4 (j:Int) from hrow.symm,show((i:Int)+1).toNat=i+1 by omega]
 ·rw[List.drop_eq_nil_of_le Om];simp only[YaR.l0,atR,rdQ,Q.ask,Zm (show ¬ (i:Int)<(ps.length:Int) by omega),cond_false]
  rfl
def lessS (x y:List D):Bool:=Za3 (rS x 0) (rS y 0)
def sameS (x y:List D):Bool:=ZP (rS x 0) (rS y 0)
theorem YcX {x y:List D}:sameS x y=true↔(rS x 0).toList=(rS y 0).toList:=strEq_iff2
theorem orderS:Ordered lessS sameS where
 irr x y h:=by
  cases q:lessS x y
  ·rfl
  ·have q2:=Ycu.mp q;rw[YcX.mp h,bl_irr] at q2;cases q2
 tri x y h1 h2:=by
  refine Ycu.mpr (bl_tri ?_ λq=>?_)
  ·cases q:Op.bytesLess (rS x 0).toList (rS y 0).toList
   ·rfl
   ·have:lessS x y=true:=Ycu.mpr q;rw[h1] at this;cases this
  ·have:sameS x y=true:=YcX.mpr q;rw[h2] at this;cases this
 asym x y h:=by
  cases q:lessS y x
  ·rfl
  ·have:=bl_trans (Ycu.mp h) (Ycu.mp q);rw[bl_irr] at this;cases this
 trans x y z h1 h2:=Ycu.mpr (bl_trans (Ycu.mp h1) (Ycu.mp h2))
 cong x y z h1 h2:=by
  have:=Ycu.mp h2;rw[<- YcX.mp h1] at this;exact Ycu.mpr this
 sym x y h:=YcX.mpr (YcX.mp h).symm
noncomputable def lbK (c3:LD) (w:BA):Nat:=lbF lessS [.str w] c3
noncomputable def hitK (c3:LD) (w:BA):Bool:=hitF lessS sameS [.str w] c3
theorem lbK_le {c3:LD} {w:BA}:lbK c3 w<=c3.length:=(List.takeWhile_sublist _).length_le
theorem key_facts {c3:LD} (hn:Ycy c3=true) {w:BA} {i:Nat} (hi:i<c3.length):Za3 (gS c3 (i:Int) 0) w=decide (i<lbK c3 w)/\ZP (gS c3 (i:Int) 0) w=(decide (i=lbK c3 w)&&hitK c3 w):=by
 have hp:c3.Pairwise (λx y=>lessS x y=true):=(names_iff.mp hn).2;have e1:Za3 (gS c3 (i:Int) 0) w=lessS c3[i] [.str w]:=by rw[<- gR_lt hi];rfl
 have e2:ZP (gS c3 (i:Int) 0) w=sameS c3[i] [.str w]:=by rw[<- gR_lt hi];rfl
 rw[e1,e2];rcases Nat.lt_trichotomy i (lbK c3 w) with h|h|h
 ·have hl:=lbF_below (less:=lessS) hi h;rw[hl,Zl h,Zm (by omega:¬ i=lbK c3 w),Bool.false_and];refine⟨rfl,?_⟩
  cases q:sameS c3[i] [.str w]
  ·rfl
  ·rw[orderS.irr _ _ q] at hl;cases hl
 ·have hl:=lbF_above orderS hp hi (show lbF lessS [.str w] c3<=i by unfold lbK at h;omega);rw[hl,Zm (by omega:¬ i<lbK c3 w),Zl h,Bool.true_and];refine⟨rfl,?_⟩
  unfold hitK hitF;rw[show lbF lessS [.str w] c3=i from h.symm,List.getElem?_eq_getElem hi]
 ·have hl:=lbF_above orderS hp hi (show lbF lessS [.str w] c3<=i by unfold lbK at h;omega);rw[hl,Zm (by omega:¬ i<lbK c3 w),Zm (by omega:¬ i=lbK c3 w),Bool.false_and];refine⟨rfl,?_⟩
  cases q:sameS c3[i] [.str w]
  ·rfl
  ·have hj:lbK c3 w<c3.length:=by omega
   have h1:=List.pairwise_iff_getElem.mp hp (lbK c3 w) i hj hi h;have h2:=lbF_above orderS hp hj (Nat.le_refl _);have h5:lessS c3[lbK c3 w] [.str w]=true:=by
    have:=Ycu.mp h1;rw[YcX.mp q] at this;exact Ycu.mpr this
   rw[show lessS c3[lbK c3 w] [.str w]=false from h2] at h5;cases h5
theorem key_hit {c3:LD} (g3:Zc RS lim c3) (hn:Ycy c3=true) {w:BA} (h:hitK c3 w=true):∃ hl:lbK c3 w<c3.length,c3[lbK c3 w]=[.str w]:=by
 have hl:lbK c3 w<c3.length:=by
  rcases Nat.lt_or_ge (lbK c3 w) c3.length with q|q
  ·exact q
  ·unfold hitK hitF at h;rw[show lbF lessS [.str w] c3=lbK c3 w from rfl,List.getElem?_eq_none q] at h;cases h
 refine⟨hl,?_⟩
 have:=(key_facts hn (w:=w) hl).2;rw[Zl rfl,h] at this;obtain⟨e,-⟩:=RS.get g3 (v:=(lbK c3 w:Int)) Om Om;have hw:gS c3 (lbK c3 w:Int) 0=w:=by
  have h2:ZP (gS c3 (lbK c3 w:Int) 0) w=true:=this;unfold ZP at h2;rw[beq_iff_eq,Go.Lib.toList_data,Go.Lib.toList_data] at h2;exact ByteArray.ext (Array.toList_inj.mp h2)
 rw[<- gR_lt hl,e,hw]
theorem cmpLess_fv {a b:BA} {β:Type} (K:Bool->Option β):bd1 (Ybr.t k a b) K=K (Za3 a b):=bd1_of (by
 unfold Ybr.t Ybr.g;have hn:∀ {x:BA} {β:Type} (K:Bool->Option β),bd1 (Ybh.t k x) K=K false:=λ{x β} K=>bd1_of (by unfold Ybh.t Ybh.g;rw[Ze];rfl) K
 rw[hn];rfl) K
theorem binStr_fv (g3:Zc RS lim c3) (hn:Ycy c3=true) {w:BA} (hk:Zr k) {β:Type} (K:Int->Bool->Option β):bd2 (YB.t k c3 w) K=K (lbK c3 w:Int) (hitK c3 w):=bd2_of (by
 have hlim:lim=1048576:=rfl;have hb:big=2^64:=rfl;have hl:=g3.1;have hle:=lbK_le (c3:=c3) (w:=w);unfold YB.t YB.g;refine Zco (λv:Int×Int=>(v.2-v.1).toNat) (λv=>0<=v.1/\v.1<=(lbK c3 w:Int)/\(lbK c3 w:Int)<=v.2/\v.2<=(c3.length:Int)) (λ_=>some ((lbK c3 w:Int),hitK c3 w)) ?_ k _ ⟨by simp,by simp,by simp;omega,by simp⟩ (by show((c3.length:Int)-0).toNat<k;unfold Zr at hk;omega);rintro⟨i,j⟩ ⟨i0,i1,j0,j1⟩ L hL;simp only[] at i0 i1 j0 j1 hL;by_cases h:i<j
 ·obtain⟨m,hm⟩:∃ m:Nat,(i+j)/2=(m:Int):=⟨((i+j)/2).toNat,Om⟩
  have hml:m<c3.length:=by omega
  simp only[YB.l0,atR,rdQ,Q.ask]
  rw[Zl h];simp only[cond_true]
  rw[halfF Om Om,hm,Zb (x:=(m:Int)) Om Om,ZU De];simp(disch:=omega) only[atR,rdQ,Q.ask,RS.row g3,Zv,ZF,Zw,cmpLess_fv]
  rw[(key_facts hn (w:=w) hml).1];by_cases hq:m<lbK c3 w
  ·rw[Zl hq,cond_true,Zb Om Om];exact hL _ ⟨by show 0<=(m:Int)+1;omega,by show(m:Int)+1<=_;omega,j0,j1⟩ Sm
  ·rw[Zm hq,cond_false];exact hL _ ⟨i0,i1,by show _<=(m:Int);omega,by show(m:Int)<=_;omega⟩ Sm
 ·obtain rfl:i=(lbK c3 w:Int):=by omega
  simp only[YB.l0,atR,rdQ,Q.ask]
  rw[Zm h];simp only[cond_false]
  by_cases hlt:lbK c3 w<c3.length
  ·have hf:=(key_facts hn (w:=w) hlt).2;rw[Zl rfl,Bool.true_and] at hf;have hnan:∀ {x:BA} {β:Type} (K:Bool->Option β),bd1 (YaE.t k x) K=K false:=λ{x β} K=>bd1_of (by unfold YaE.t YaE.g;rw[Ze];rfl) K
   rw[Zl (show(lbK c3 w:Int)<(c3.length:Int) by omega)];simp(disch:=omega) only[atR,rdQ,Q.ask,cond_true,RS.row g3,Zv,ZF,Zw,hnan,hf]
   cases hitK c3 w<;>rfl
  ·rw[Zm (show ¬ (lbK c3 w:Int)<(c3.length:Int) by omega),cond_false];unfold hitK hitF;rw[show lbF lessS [.str w] c3=lbK c3 w from rfl,List.getElem?_eq_none Om]) K
def inK {α:Type} (l:List α) (n:Nat) (h:Bool) (o:α):List α:=l.take n++o::l.drop (n+bif h then 1 else 0)
noncomputable def putJ (c0:Int) (c3 c4:LD) (w:BA) (x:List D):Option (List D):=
 bif c0==4 then(bif inB (numV w) 0 c4.length then some (mkV 4 ⟨#[]⟩ 0 [] (inK c4 (numV w).toNat true x)) else none) else
 bif c0==5 then(bif Ye.v w then some (mkV 5 ⟨#[]⟩ 0 (inK c3 (lbK c3 w) (hitK c3 w) [.str w]) (inK c4 (lbK c3 w) (hitK c3 w) x)) else none) else none
noncomputable def dropR (c0:Int) (c3 c4:LD) (w:BA):Option (List D):=
 bif decide (Ycw c0 c3 c4 w<0) then none else
 some (mkV c0 ⟨#[]⟩ 0 (bif c0==5 then c3.take (Ycw c0 c3 c4 w).toNat++c3.drop ((Ycw c0 c3 c4 w).toNat+1) else[]) (c4.take (Ycw c0 c3 c4 w).toNat++c4.drop ((Ycw c0 c3 c4 w).toNat+1)))
noncomputable def retV (v:List D) (o:Option (List D)):Int×BA×Int×LD×LD×Bool:=match o with|some r=>(rI r 0,rS r 1,rI r 2,rL r 3,rL r 4,true)|none=>(rI v 0,rS v 1,rI v 2,rL v 3,rL v 4,false)
noncomputable def retC (r:List D) (b:Bool):Int×BA×Int×LC×LC×Bool:=(rI r 0,rS r 1,rI r 2,Za (rL r 3),Za (rL r 4),b)
theorem rows5 {l:LD} (g:Zc Yt lim l):rowsOk 5 l:=λr hr=>(g.2 r hr).len
theorem rows5_sub {l m:LD} (g:Zc Yt lim l) (h:∀ r∈m,r∈l):rowsOk 5 m:=λr hr=>(g.2 r (h r hr)).len
theorem rows1 {l:LD} (g:Zc RS lim l):rowsOk 1 l:=λr hr=>(g.2 r hr).len
theorem flat1_sub {l m:LD} (g:Zc RS lim l) (h:∀ r∈m,r∈l):ZcV 1 m:=RS.flat (B:=lim) λr hr=>g.2 r (h r hr)
def seqK {α:Type} (l:List α) (n:Nat) (h:Bool) (o:α) (i:Nat):List α:=if i<=n then l.take i else l.take n++o::(l.take i).drop (n+bif h then 1 else 0)
section
variable {α:Type} {l:List α} {n:Nat} {h:Bool} {o:α} {i:Nat}
theorem seqK_len (hn:n<=l.length) (hi:i<=l.length):(seqK l n h o i).length<=l.length+1:=by
 unfold seqK;split
 ·rw[List.length_take];omega
 ·simp only[List.length_append,List.length_cons,List.length_drop,List.length_take]
  cases h<;>simp only[cond_true,cond_false]<;>omega
theorem seqK_lt (hi:i<l.length) (hn:i<n):seqK l n h o (i+1)=seqK l n h o i++[l[i]]:=by
 unfold seqK;rw[if_pos Om,if_pos Om,List.take_succ_eq_append_getElem hi]
theorem seqK_at (hi:n<l.length):seqK l n h o (n+1)=seqK l n h o n++[o]++(bif h then[] else[l[n]]):=by
 unfold seqK;rw[if_neg Om,if_pos (Nat.le_refl _),List.append_assoc];refine congrArg (l.take n++·) ?_;rw[List.singleton_append];refine congrArg (o::·) ?_;cases h
 ·simp only[cond_false,Nat.add_zero]
  rw[List.take_succ_eq_append_getElem hi,List.drop_left' (by rw[List.length_take];omega)]
 ·simp only[cond_true]
  exact List.drop_eq_nil_of_le (by rw[List.length_take];omega)
theorem seqK_gt (hi:i<l.length) (hn:n<i):seqK l n h o (i+1)=seqK l n h o i++[l[i]]:=by
 unfold seqK;rw[if_neg Om,if_neg Om,List.append_assoc,List.cons_append];refine congrArg (λz=>l.take n++o::z) ?_;rw[List.take_succ_eq_append_getElem hi,List.drop_append_of_le_length];rw[List.length_take];cases h<;>simp only[cond_true,cond_false]<;>omega
theorem seqK_end (hn:n<=l.length):(bif decide (n<l.length) then seqK l n h o l.length else seqK l n h o l.length++[o])=inK l n h o:=by
 unfold seqK inK;by_cases q:n<l.length
 ·rw[Zl q,cond_true,if_neg Om,List.take_length]
 ·rw[Zm q,cond_false,if_pos Om,List.take_length,List.take_of_length_le Om,List.drop_eq_nil_of_le Om]
end
abbrev upL (l:LD):LC:=l.map (·.map C.d)
theorem up_app {a b:LD}:upL (a++b)=upL a++upL b:=List.map_append ..
section
variable {d:Nat} {c0:Int} {c1:BA} {c2:Int} {c3 c4:LD} {w:BA} {k:Nat}
theorem l5Put_t (o:OpenV d c0 c1 c2 c3 c4) (hd:d<=1000) {x1:BA} (hw:w.size<=lim) (hk:Zr k):Ybi.t k c0 c1 c2 c3 c4 w x0 x1 x2 x3 x4=some (retV (mkV c0 c1 c2 c3 c4) (putJ c0 c3 c4 w (mkV x0 x1 x2 x3 x4))):=by
 have hlim:lim=1048576:=rfl;have hm:Zx=2^36:=rfl;have hb:big=2^64:=rfl;have hk0:Zr k:=hk;have g4:=o.kg hd;have l4:=o.len;have hx:C.immRows ([[.d (.int .i64 x0),.d (.str x1),.d (.int .i64 x2),.d (.sl x3),.d (.sl x4)]]:LC)=[mkV x0 x1 x2 x3 x4]:=by simp only[C.immRows,C.immCells,C.imm]
 unfold Ybi.t Ybi.g Ybi.m putJ;cases h4:(c0==4)<;>simp only[cond_true,cond_false]
 ·cases h5:(c0==5)
  ·simp only[bne,h5,Bool.not_false,cond_true,cond_false]
   rfl
  simp only[bne,h5,Bool.not_true,cond_true,cond_false]
  obtain rfl:=eq_of_beq h5;obtain⟨rfl,rfl,el,hn⟩:=o.five rfl;have g3:=o.g3;rw[Ye.fv hw hk0];cases Ye.v w<;>simp only[Bool.not_true,Bool.not_false,cond_true,cond_false]
  ·rfl
  have hlb:=lbK_le (c3:=c3) (w:=w);refine iter_seq (λi=>(decide (lbK c3 w<i),(i:Int),upL (seqK c3 (lbK c3 w) (hitK c3 w) [.str w] i),upL (seqK c4 (lbK c3 w) (hitK c3 w) (mkV x0 x1 x2 x3 x4) i))) (n:=c3.length) (by unfold Zr at hk0;omega) (λL i hi=>?_) (λL=>?_)
  ·obtain⟨f1,f2⟩:=key_facts hn (w:=w) hi;have a3:=seqK_len (l:=c3) (h:=hitK c3 w) (o:=[.str w]) hlb (Nat.le_of_lt hi);have a4:=seqK_len (l:=c4) (h:=hitK c3 w) (o:=mkV x0 x1 x2 x3 x4) (by omega:lbK c3 w<=c4.length) (by omega:i<=c4.length);have e3:=(RS.get g3 (v:=(i:Int)) Om Om).1;have e4:=(Yt.get g4 (v:=(i:Int)) Om Om).1;rw[gR_lt hi] at e3;rw[gR_lt (by omega:i<c4.length)] at e4;have gd:∀ {β:Type} {F:Option β} {n:Nat},n<=1000000->Z0 (n<=Zx) F=F:=λ{β F n} h=>ZU Om
   simp(disch:=omega) only[Ybi.l0,atR,rdQ,Q.ask,Zl (show(i:Int)<(c3.length:Int) by omega),cond_true,RS.row g3,Yt.row g4,Zv,ZJ,ZF,Z6,Zw,Zb,f1,f2,List.length_append,List.length_singleton,List.length_cons,List.length_nil,map_len]
   rcases Nat.lt_trichotomy i (lbK c3 w) with q|q|q
   ·rw[Zm (show ¬ lbK c3 w<i by omega),Zl q,Zm (show ¬ i=lbK c3 w by omega),Zm (show ¬ lbK c3 w<i+1 by omega)];simp only[Bool.not_false,Bool.not_true,Bool.false_and,cond_true,cond_false]
    rw[gd Om,gd Om,seqK_lt hi q,seqK_lt (by omega:i<c4.length) q,up_app,up_app,e3,e4];rfl
   ·subst q;rw[Zm (show ¬ lbK c3 w<lbK c3 w by omega),Zl (show lbK c3 w=lbK c3 w from rfl),Zl (show lbK c3 w<lbK c3 w+1 by omega)];simp only[Bool.not_false,Bool.true_and,cond_true]
    rw[gd Om,gd Om,seqK_at hi,seqK_at (by omega:lbK c3 w<c4.length),up_app,up_app,up_app,up_app];generalize hitK c3 w=hh at a3 a4⊢;cases hh<;>simp only[Bool.not_true,Bool.not_false,cond_true,cond_false]
    ·rw[gd Om,gd Om,e3,e4];rfl
    ·rw[show upL []=[] from rfl,List.append_nil,List.append_nil];rfl
   ·rw[Zl q,Zm (show ¬ i<lbK c3 w by omega),Zm (show ¬ i=lbK c3 w by omega),Zl (show lbK c3 w<i+1 by omega)];simp only[Bool.not_false,Bool.not_true,Bool.false_and,cond_true,cond_false]
    rw[gd Om,gd Om,seqK_gt hi q,seqK_gt (by omega:i<c4.length) q,up_app,up_app,e3,e4];rfl
  ·have a3:=seqK_len (l:=c3) (h:=hitK c3 w) (o:=[.str w]) hlb (Nat.le_refl _);have a4:=seqK_len (l:=c4) (h:=hitK c3 w) (o:=mkV x0 x1 x2 x3 x4) (by omega:lbK c3 w<=c4.length) (by omega:c3.length<=c4.length);have s3:=seqK_end (l:=c3) (h:=hitK c3 w) (o:=[.str w]) hlb;have s4:=seqK_end (l:=c4) (h:=hitK c3 w) (o:=mkV x0 x1 x2 x3 x4) (by omega:lbK c3 w<=c4.length);rw[<- el] at s4;simp only[Ybi.l0,atR,rdQ,Q.ask,Zm (show ¬ (c3.length:Int)<(c3.length:Int) by omega),cond_false,List.length_singleton,map_len]
   rw[<- s3,<- s4];by_cases q:lbK c3 w<c3.length
   ·rw[Zl q];simp only[Bool.not_true,cond_true,cond_false,imm_rows]
    rfl
   ·rw[Zm q];simp only[Bool.not_false,cond_true,cond_false,Zbg,imm_rows,hx]
    rw[ZU Om,ZU Om];rfl
 ·obtain rfl:=eq_of_beq h4;obtain⟨rfl,rfl,rfl⟩:=o.four rfl;rw[l4Number_fv hk0,YcL];cases hq:inB (numV w) 0 (c4.length:Int)<;>simp only[Bool.not_true,Bool.not_false,cond_true,cond_false]
  ·rfl
  unfold inB at hq;rw[Bool.and_eq_true,decide_eq_true_iff,decide_eq_true_iff] at hq;obtain⟨n,hn⟩:∃ n:Nat,numV w=(n:Int):=⟨(numV w).toNat,Om⟩
  rw[hn] at hq⊢;have hw1:IntKind.wrap .i64 ((n:Int)+1)=((n+1:Nat):Int):=by rw[Zb Om Om];omega
  rw[hw1];simp only[Int.toNat_natCast,Int.toNat_zero,List.drop_zero,Nat.sub_zero,List.nil_append]
  rw[ZU ⟨Om,Om,Om,rows5 g4⟩,ZU (rows5_sub g4 λr hr=>List.mem_of_mem_take hr),ZU (by simp only[List.length_nil,map_len,List.length_take];omega),ZU (by simp only[map_len,List.length_take,List.length_singleton];omega)];unfold inK;by_cases h:(n:Int)<(c4.length:Int)
  ·rw[Zl h,cond_true,ZU ⟨Om,Om,Om,rows5 g4⟩,ZU (rows5_sub g4 λr hr=>List.mem_of_mem_drop (List.mem_of_mem_take hr)),ZU (by simp only[map_len,List.length_append,List.length_take,List.length_singleton,List.length_drop];omega)];rw[Zbg,Zbg,imm_rows,imm_rows,hx,List.take_of_length_le (i:=c4.length-(n+1)) (by rw[List.length_drop];exact Nat.le_refl _),List.append_assoc];rfl
  ·rw[Zm h,cond_false,Zbg,imm_rows,hx,List.drop_eq_nil_of_le (by simp only[cond_true];omega)];rfl
theorem l5Out_t (o:OpenV d c0 c1 c2 c3 c4) (hd:d<=1000) (hk:Zr k):Ycs.t k c0 c1 c2 c3 c4 w=some (retV (mkV c0 c1 c2 c3 c4) (dropR c0 c3 c4 w)):=by
 have hlim:lim=1048576:=rfl;have hm:Zx=2^36:=rfl;have hk0:Zr k:=hk;have g3:=o.g3;have g4:=o.kg hd;have l4:=o.len;unfold Ycs.t Ycs.g dropR;rw[l4Kid_fv g3 hk0];by_cases hq:Ycw c0 c3 c4 w<0
 ·rw[Zl hq];rfl
 ·rw[Zm hq];obtain⟨n,hn,hnl⟩:=kidV_lt hq;rw[hn];have hw1:IntKind.wrap .i64 ((n:Int)+1)=((n+1:Nat):Int):=by rw[Zb Om Om];omega
  rw[hw1];simp only[cond_false,Int.toNat_natCast,Int.toNat_zero,List.drop_zero,Nat.sub_zero,List.nil_append]
  rw[ZU ⟨Om,Om,Om,rows5 g4⟩,ZU (rows5_sub g4 λr hr=>List.mem_of_mem_take hr),ZU (by simp only[List.length_nil,map_len,List.length_take];omega),ZU ⟨Om,Om,Om,rows5 g4⟩,ZU (rows5_sub g4 λr hr=>List.mem_of_mem_drop (List.mem_of_mem_take hr)),ZU (by simp only[map_len,List.length_take,List.length_drop];omega)];simp only[Zbg,imm_rows]
  rw[List.take_of_length_le (i:=c4.length-(n+1)) (l:=c4.drop (n+1)) (by rw[List.length_drop];exact Nat.le_refl _)];cases h5:(c0==5)
  ·rfl
  ·obtain⟨-,-,el,-⟩:=o.five (eq_of_beq h5);simp only[cond_true]
   rw[ZU ⟨Om,Om,Om,rows1 g3⟩,ZU (flat1_sub g3 λr hr=>List.mem_of_mem_take hr),ZU (by simp only[List.length_nil,map_len,List.length_take];omega),ZU ⟨Om,Om,Om,rows1 g3⟩,ZU (flat1_sub g3 λr hr=>List.mem_of_mem_drop (List.mem_of_mem_take hr)),ZU (by simp only[map_len,List.length_take,List.length_drop];omega)];rw[List.take_of_length_le (i:=c3.length-(n+1)) (l:=c3.drop (n+1)) (by rw[List.length_drop];exact Nat.le_refl _)];rfl
def AnsC (t:Option (Int×BA×Int×LC×LC×Bool)) (o:Option (List D)):Prop:=match o with|some r=>t=some (retC r true)|none=>∃ z0 z1 z2 z3 z4,t=some (z0,z1,z2,z3,z4,false)
theorem mod_deep {x1:BA} (g4:Zc Yt lim c4) {n:Nat} (hn:n<c4.length):((Za c4).modify n λc=>ZE c 0 [.d (.int .i64 x0),.d (.str x1),.d (.int .i64 x2),.own (Za x3),.own (Za x4)])=Za (c4.take n++mkV x0 x1 x2 x3 x4::c4.drop (n+1)):=by
 refine deepRows_mod hn λr hr=>?_
 rw[List.getElem?_eq_getElem hn] at hr;injection hr with hr;have e:([.d (.int .i64 x0),.d (.str x1),.d (.int .i64 x2),.own (Za x3),.own (Za x4)]:List C)=Zu (mkV x0 x1 x2 x3 x4):=by simp only[mkV,Zu,Zag]
 rw[e];refine splice_full ?_;rw[YcK,YcK,<- hr,(g4.2 _ (List.getElem_mem hn)).len];rfl
theorem setKid_t (o:OpenV d c0 c1 c2 c3 c4) (hd:d<=1000) {x1:BA} (hw:w.size<=lim) (hk:Zr k):AnsC (Ycd.t k c0 c1 c2 (Za c3) (Za c4) w x0 x1 x2 (Za x3) (Za x4)) (putJ c0 c3 c4 w (mkV x0 x1 x2 x3 x4)):=by
 have hlim:lim=1048576:=rfl;have hm:Zx=2^36:=rfl;have hk0:Zr k:=hk;have g3:=o.g3;have g4:=o.kg hd;have l4:=o.len;have d3:=Zd c3;have d4:=Zd c4;have hx:([[.d (.int .i64 x0),.d (.str x1),.d (.int .i64 x2),.own (Za x3),.own (Za x4)]]:LC)=Za [mkV x0 x1 x2 x3 x4]:=by simp only[mkV,Za,Zu,Zag]
 have hs:([[.d (.str w)]]:LC)=Za [[.str w]]:=by simp only[Za,Zu,Zag]
 unfold Ycd.t Ycd.g putJ;cases h5:(c0==5)<;>simp only[cond_true,cond_false]
 ·cases h4:(c0==4)<;>simp only[cond_true,cond_false]
  ·exact⟨_,_,_,_,_,rfl⟩
  obtain rfl:=eq_of_beq h4;obtain⟨rfl,rfl,rfl⟩:=o.four rfl;rw[number_fv hk0,d4];unfold inB;rcases numV_sign (s:=w) with q|q
  ·rw[q,Zl (show(-1:Int)<0 by omega),Zm (show ¬ (0:Int) <= -1 by omega)];exact⟨_,_,_,_,_,rfl⟩
  ·rw[Zm (show ¬ numV w<0 by omega),Zl q];simp only[cond_false,Bool.not_true,Bool.true_and]
   obtain⟨n,hn⟩:∃ n:Nat,numV w=(n:Int):=⟨(numV w).toNat,Om⟩
   rw[hn];by_cases h:(n:Int)>(c4.length:Int)
   ·rw[Zl h,Zm (show ¬ (n:Int)<=(c4.length:Int) by omega)];exact⟨_,_,_,_,_,rfl⟩
   rw[Zm h,Zl (show(n:Int)<=(c4.length:Int) by omega)];simp only[cond_false,cond_true,Int.toNat_natCast]
   unfold inK;by_cases e:n=c4.length
   ·rw[show((n:Int)==(c4.length:Int))=true by rw[e];exact beq_self_eq_true _,cond_true,ZU (by simp only[List.length_singleton];omega),hx,<- ZL,List.drop_eq_nil_of_le (by simp only[cond_true];omega),List.take_of_length_le Om];rfl
   ·rw[show((n:Int)==(c4.length:Int))=false by rw[beq_eq_false_iff_ne];omega,cond_false,ZU Om,ZU Om,mod_deep g4 Om];rfl
 ·obtain rfl:=eq_of_beq h5;obtain⟨rfl,rfl,el,hn⟩:=o.five rfl;simp only[show((5:Int)==4)=false from rfl,cond_false,Zq]
  rw[binStr_fv g3 hn hk0,Ycr,Ye.fv hw hk0];have hlb:=lbK_le (c3:=c3) (w:=w);cases Ye.v w<;>simp only[Bool.not_true,Bool.not_false,cond_true,cond_false]
  ·exact⟨_,_,_,_,_,rfl⟩
  unfold inK;cases hh:hitK c3 w<;>simp only[cond_true,cond_false,Int.toNat_natCast,Nat.add_zero]
  ·unfold YT.f YT.t Yy.f Yy.t;rw[ZU (by simp only[List.length_singleton];omega)];dsimp only
   rw[ZU (by simp only[List.length_singleton];omega)];rw[hx,hs,Int.toNat_natCast,YcG,YcH,YcG,YcH];simp only[<- ZL,List.append_assoc,List.singleton_append]
   rfl
  ·obtain⟨hl,ek⟩:=key_hit g3 hn hh;rw[ZU Om,ZU Om,mod_deep g4 Om];have e3:c3.take (lbK c3 w)++[.str w]::c3.drop (lbK c3 w+1)=c3:=by
    rw[<- ek,List.getElem_cons_drop,List.take_append_drop]
   rw[e3];rfl
theorem dropKid_t (o:OpenV d c0 c1 c2 c3 c4) (hd:d<=1000) (hk:Zr k):AnsC (Yb1.t k c0 c1 c2 (Za c3) (Za c4) w) (dropR c0 c3 c4 w):=by
 have hlim:lim=1048576:=rfl;have hk0:Zr k:=hk;have g3:=o.g3;have l4:=o.len;have d3:=Zd c3;have d4:=Zd c4;unfold Yb1.t Yb1.g dropR;rw[Zq,Zq,step_fv g3 (λe=>(o.five e).2.2.1) hk0];by_cases hq:Ycw c0 c3 c4 w<0
 ·rw[Zl hq];exact⟨_,_,_,_,_,rfl⟩
 ·rw[Zm hq];obtain⟨n,hn,hnl⟩:=kidV_lt hq;have hk45:c0=5\/c0=4:=by
   unfold Ycw at hq;cases h5:(c0==5)<;>rw[h5] at hq
   ·cases h4:(c0==4)<;>rw[h4] at hq
    ·exact absurd (show(-1:Int)<0 by decide) hq
    ·exact .inr (eq_of_beq h4)
   ·exact .inl (eq_of_beq h5)
  rw[hn];have hw1:IntKind.wrap .i64 ((n:Int)+1)=((n+1:Nat):Int):=by rw[Zb Om Om];omega
  rw[hw1];simp only[cond_false,Int.toNat_natCast]
  rcases hk45 with rfl|rfl
  ·obtain⟨rfl,rfl,el,-⟩:=o.five rfl;simp only[show((5:Int)==5)=true from rfl,cond_true]
   unfold Y0.f Y0.t YC.f YC.t;rw[ZU Om];dsimp only
   rw[ZU Om,Int.toNat_natCast,Int.toNat_natCast,YcG,YcH,YcG,YcH];simp only[<- ZL]
   rfl
  ·obtain⟨rfl,rfl,rfl⟩:=o.four rfl;simp only[show((4:Int)==5)=false from rfl,cond_false]
   unfold YC.f YC.t;rw[ZU Om,Int.toNat_natCast,Int.toNat_natCast,YcG,YcH];simp only[<- ZL]
   rfl
end
noncomputable def doV (kind:Int) (x:List D):LD->List D->Option (List D)
 |[],_=>none
 |[p],v=>bif kind==1 then putJ (rI v 0) (rL v 3) (rL v 4) (rS p 0) x else dropR (rI v 0) (rL v 3) (rL v 4) (rS p 0)
 |p::q::ps,v=>bif decide (Ycw (rI v 0) (rL v 3) (rL v 4) (rS p 0)<0) then none else
  match doV kind x (q::ps) (gR (rL v 4) (Ycw (rI v 0) (rL v 3) (rL v 4) (rS p 0))) with
  |none=>none
  |some y=>some (mkV (rI v 0) ⟨#[]⟩ 0 (rL v 3) ((rL v 4).take (Ycw (rI v 0) (rL v 3) (rL v 4) (rS p 0)).toNat++y::(rL v 4).drop ((Ycw (rI v 0) (rL v 3) (rL v 4) (rS p 0)).toNat+1)))
theorem mem_in {α:Type} {l:List α} {n m:Nat} {o y:α} (h:y∈l.take n++o::l.drop m):y∈l\/y=o:=by
 rcases List.mem_append.mp h with h|h
 ·exact .inl (List.mem_of_mem_take h)
 ·rcases List.mem_cons.mp h with h|h
  ·exact .inr h
  ·exact .inl (List.mem_of_mem_drop h)
theorem len_in {α:Type} {l:List α} {n m:Nat} {o:α} (h:n<=m):(l.take n++o::l.drop m).length<=l.length+1:=by
 simp only[List.length_append,List.length_cons,List.length_take,List.length_drop]
 omega
theorem wf_lit {n:Int} (h0:0<=n) (h1:n<=1000000):(Lit.int .i64 n).wf=true:=wf_of Om Om
theorem kid45 {w:BA} (hq:¬ Ycw c0 c3 c4 w<0):c0=5\/c0=4:=by
 unfold Ycw at hq;cases h5:(c0==5)<;>rw[h5] at hq
 ·cases h4:(c0==4)<;>rw[h4] at hq
  ·exact absurd (show(-1:Int)<0 by decide) hq
  ·exact .inr (eq_of_beq h4)
 ·exact .inl (eq_of_beq h5)
section
variable {d N:Nat} {c0:Int} {c1:BA} {c2:Int} {c3 c4:LD} {w:BA}
theorem OpenV.mkH (o:OpenV d c0 c1 c2 c3 c4) (h0:(Lit.int .i64 e0).wf=true) {k3 k4:LD} (g3:Zc RS lim k3) (l4:k4.length<=302) (h4:∀ x∈k4,Yx lim (d+N) x):Yx lim (d+1+N) (mkV e0 ⟨#[]⟩ 0 k3 k4):=by
 rw[show d+1+N=d+N+1 by omega];have hlim:lim=1048576:=rfl;exact .mk e0 ⟨#[]⟩ 0 k3 k4 h0 (Nat.zero_le _) De g3 Om h4
theorem putJ_h (o:OpenV d c0 c1 c2 c3 c4) {x r:List D} (hx:Yx lim N x) (hw:w.size<=lim) (e:putJ c0 c3 c4 w x=some r):Yx lim (d+1+N) r:=by
 have hlim:lim=1048576:=rfl;have l4:=o.len;have hk:∀ y∈c4,Yx lim (d+N) y:=λy hy=>(o.kids y hy).h.mono Om
 have hx':Yx lim (d+N) x:=hx.mono Om;have nil3:Zc RS lim []:=⟨Nat.zero_le _,λr hr=>by cases hr⟩
 unfold putJ at e;cases h4:(c0==4)<;>rw[h4] at e<;>simp only[cond_true,cond_false] at e
 ·cases h5:(c0==5)<;>rw[h5] at e<;>simp only[cond_true,cond_false] at e
  ·cases e
  obtain rfl:=eq_of_beq h5;obtain⟨-,-,el,-⟩:=o.five rfl;cases hn:Ye.v w<;>rw[hn] at e<;>simp only[cond_true,cond_false] at e
  ·cases e
  injection e with e;subst e;refine o.mkH (wf_lit Om Om) ⟨?_,λr hr=>?_⟩ ?_ λy hy=>?_
  ·have:=len_in (l:=c3) (n:=lbK c3 w) (m:=lbK c3 w+bif hitK c3 w then 1 else 0) (o:=[D.str w]) Om;unfold inK;omega
  ·rcases mem_in hr with hr|rfl
   ·exact o.g3.2 r hr
   ·exact⟨w,rfl,hw,trivial⟩
  ·have:=len_in (l:=c4) (n:=lbK c3 w) (m:=lbK c3 w+bif hitK c3 w then 1 else 0) (o:=x) Om;unfold inK;omega
  ·rcases mem_in hy with hy|rfl
   ·exact hk y hy
   ·exact hx'
 ·cases hn:inB (numV w) 0 (c4.length:Int)<;>rw[hn] at e<;>simp only[cond_true,cond_false] at e
  ·cases e
  injection e with e;subst e;refine o.mkH (wf_lit Om Om) nil3 ?_ λy hy=>?_
  ·have:=len_in (l:=c4) (n:=(numV w).toNat) (m:=(numV w).toNat+bif true then 1 else 0) (o:=x) Om;unfold inK;omega
  ·rcases mem_in hy with hy|rfl
   ·exact hk y hy
   ·exact hx'
theorem dropR_h (o:OpenV d c0 c1 c2 c3 c4) {r:List D} (e:dropR c0 c3 c4 w=some r):Yx lim (d+1+N) r:=by
 have hlim:lim=1048576:=rfl;have l4:=o.len;have l3:=o.g3.1;have hk:∀ y∈c4,Yx lim (d+N) y:=λy hy=>(o.kids y hy).h.mono Om
 unfold dropR at e;by_cases hq:Ycw c0 c3 c4 w<0
 ·rw[Zl hq] at e;cases e
 rw[Zm hq] at e;simp only[cond_false] at e;injection e with e;subst e;have h45:=kid45 hq;refine o.mkH (by rcases h45 with rfl|rfl<;>decide) ?_ (by simp only[List.length_append,List.length_take,List.length_drop];omega) λy hy=>?_
 ·cases(c0==5)
  ·exact⟨Nat.zero_le _,λr hr=>by cases hr⟩
  ·refine⟨by simp only[cond_true,List.length_append,List.length_take,List.length_drop];omega,λr hr=>?_⟩
   rcases List.mem_append.mp hr with hr|hr
   ·exact o.g3.2 r (List.mem_of_mem_take hr)
   ·exact o.g3.2 r (List.mem_of_mem_drop hr)
 ·rcases List.mem_append.mp hy with hy|hy
  ·exact hk y (List.mem_of_mem_take hy)
  ·exact hk y (List.mem_of_mem_drop hy)
end
theorem doV_h {kind:Int} {x:List D} {N:Nat} (hx:Yx lim N x):∀ {ps:LD} {d:Nat} {v r:List D},OkV d v->(∀ p∈ps,RS lim p)->doV kind x ps v=some r->Yx lim (d+N) r
 |[],d,v,r,_,_,e=>by unfold doV at e;cases e
 |[p],d,v,r,hv,hp,e=>by
  obtain⟨d',c0,c1,c2,c3,c4,rfl,rfl,o⟩:=hv.open;obtain⟨w,rfl,hw,-⟩:=hp p Sp;unfold doV at e;cases hq:(kind==1)<;>rw[hq] at e
  ·exact dropR_h o e
  ·exact putJ_h o hx hw e
 |p::q::ps,d,v,r,hv,hp,e=>by
  obtain⟨d',c0,c1,c2,c3,c4,rfl,rfl,o⟩:=hv.open;unfold doV at e;replace e:(bif decide (Ycw c0 c3 c4 (rS p 0)<0) then none else match doV kind x (q::ps) (gR c4 (Ycw c0 c3 c4 (rS p 0))) with|none=>none|some y=>some (mkV c0 ⟨#[]⟩ 0 c3 (c4.take (Ycw c0 c3 c4 (rS p 0)).toNat++y::c4.drop ((Ycw c0 c3 c4 (rS p 0)).toNat+1))))=some r:=e;by_cases hk:Ycw c0 c3 c4 (rS p 0)<0
  ·rw[Zl hk] at e;cases e
  rw[Zm hk] at e;obtain⟨n,hn,hnl⟩:=kidV_lt hk;rw[hn] at e;simp only[cond_false,Int.toNat_natCast] at e;have l4:=o.len;cases hd:doV kind x (q::ps) (gR c4 (n:Int)) with
  |none=>rw[hd] at e;cases e
  |some y=>
   rw[hd] at e;injection e with e;subst e;have hy:=doV_h hx (o.kids _ (Zan (xs:=c4) (v:=(n:Int)) Om Om)) (λp h=>hp p (by simp[h])) hd;refine o.mkH o.w0 o.g3 ?_ λz hz=>?_
   ·have:=len_in (l:=c4) (n:=n) (m:=n+1) (o:=y) Om;omega
   ·rcases mem_in hz with hz|rfl
    ·exact(o.kids z hz).h.mono Om
    ·exact hy
theorem doV_mk {kind:Int} {x:List D}:∀ {ps:LD} {v r:List D},doV kind x ps v=some r->r=mkV (rI r 0) (rS r 1) (rI r 2) (rL r 3) (rL r 4)
 |[],v,r,e=>by unfold doV at e;cases e
 |[p],v,r,e=>by
  unfold doV at e;cases hq:(kind==1)<;>rw[hq] at e<;>simp only[cond_true,cond_false] at e
  ·unfold dropR at e;cases hk:decide (Ycw (rI v 0) (rL v 3) (rL v 4) (rS p 0)<0)<;>rw[hk] at e
   ·injection e with e;subst e;rfl
   ·cases e
  ·unfold putJ at e;cases h4:(rI v 0==4)<;>rw[h4] at e<;>simp only[cond_true,cond_false] at e
   ·cases h5:(rI v 0==5)<;>rw[h5] at e<;>simp only[cond_true,cond_false] at e
    ·cases e
    ·cases hn:Ye.v (rS p 0)<;>rw[hn] at e
     ·cases e
     ·injection e with e;subst e;rfl
   ·cases hn:inB (numV (rS p 0)) 0 ((rL v 4).length:Int)<;>rw[hn] at e
    ·cases e
    ·injection e with e;subst e;rfl
 |p::q::ps,v,r,e=>by
  unfold doV at e;cases hk:decide (Ycw (rI v 0) (rL v 3) (rL v 4) (rS p 0)<0)<;>rw[hk] at e
  ·simp only[cond_false] at e;cases hd:doV kind x (q::ps) (gR (rL v 4) (Ycw (rI v 0) (rL v 3) (rL v 4) (rS p 0))) with
   |none=>rw[hd] at e;cases e
   |some y=>rw[hd] at e;injection e with e;subst e;rfl
  ·cases e
theorem up_mod {f:List C->List C} {o:List D}:∀ {l:LD} {i:Nat},i<l.length->(∀ r,l[i]? = some r->f (r.map C.d)=o.map C.d)->(upL l).modify i f=upL (l.take i++o::l.drop (i+1))
 |[],i,h,_=>absurd h Sp
 |r::xs,0,_,h2=>by
  simp only[upL,List.map_cons,List.modify_zero_cons,List.take_zero,List.nil_append,List.drop_succ_cons,List.drop_zero]
  rw[h2 r rfl]
 |r::xs,i+1,h1,h2=>by
  simp only[upL,List.map_cons,List.modify_succ_cons,List.take_succ_cons,List.cons_append,List.drop_succ_cons]
  have:=up_mod (f:=f) (o:=o) (l:=xs) (i:=i) (by simpa using h1) λx hx=>h2 x (by simpa using hx)
  simp only[upL] at this;rw[this]
theorem l5Do_t {kind x0:Int} {x1:BA} {x2:Int} {x3 x4 ps:LD} (gp:Zc RS lim ps):∀ (m d i:Nat) (c0:Int) (c1:BA) (c2:Int) (c3 c4:LD) {k:Nat},d<=1000->OkV d (mkV c0 c1 c2 c3 c4)->i+m+1=ps.length->big+m+1<=k->
  Yai.t k c0 c1 c2 c3 c4 kind ps x0 x1 x2 x3 x4 (i:Int)=some (retV (mkV c0 c1 c2 c3 c4) (doV kind (mkV x0 x1 x2 x3 x4) (ps.drop i) (mkV c0 c1 c2 c3 c4))):=by
 have hlim:lim=1048576:=rfl;have hm:Zx=2^36:=rfl;have hl:=gp.1;intro m;induction m with
 |zero=>
  intro d i c0 c1 c2 c3 c4 k hd h hi hk;obtain⟨k,rfl⟩:∃ k',k=k'+1:=⟨k-1,Om⟩
  have hk1:Zr k:=by unfold Zr;omega
  obtain⟨d',e0,e1,e2,e3,e4,rfl,ev,o⟩:=h.open;injection ev with v0 ev;injection ev with v1 ev;injection ev with v2 ev;injection ev with v3 ev;injection ev with v4 ev;injection v0 with _ v0;injection v1 with v1;injection v2 with _ v2;injection v3 with v3;injection v4 with v4;subst v0 v1 v2 v3 v4;rw[Yai.t_succ];unfold Yai.g Yai.body;simp only[atR,rdQ,Q.ask]
  have hg:ps.drop i=[gR ps (i:Int)]:=by
   rw[List.drop_eq_getElem_cons Om,List.drop_eq_nil_of_le Om,gR_lt Om]
  rw[hg];have hw:=(RS.get gp (v:=(i:Int)) Om Om).2.1;simp(disch:=omega) only[atR,rdQ,Q.ask,RS.row gp,Zv,ZF,Zw,Zb]
  rw[show((i:Int)==(ps.length:Int)-1)=true by rw[beq_iff_eq];omega,cond_true];unfold doV;cases(kind==1)<;>simp only[cond_true,cond_false]
  ·rw[bd6_of (l5Out_t o Om hk1)];rfl
  ·rw[bd6_of (l5Put_t o Om hw hk1)];rfl
 |succ m ih=>
  intro d i c0 c1 c2 c3 c4 k hd h hi hk;obtain⟨k,rfl⟩:∃ k',k=k'+1:=⟨k-1,Om⟩
  have hk1:Zr k:=by unfold Zr;omega
  obtain⟨d',e0,e1,e2,e3,e4,rfl,ev,o⟩:=h.open;injection ev with v0 ev;injection ev with v1 ev;injection ev with v2 ev;injection ev with v3 ev;injection ev with v4 ev;injection v0 with _ v0;injection v1 with v1;injection v2 with _ v2;injection v3 with v3;injection v4 with v4;subst v0 v1 v2 v3 v4;have g4:=o.kg Om;have l4:=o.len;rw[Yai.t_succ];unfold Yai.g Yai.body;simp only[atR,rdQ,Q.ask]
  have hg:ps.drop i=gR ps (i:Int)::ps.drop (i+1):=by
   rw[List.drop_eq_getElem_cons Om,gR_lt Om]
  have hg2:ps.drop (i+1)=gR ps ((i+1:Nat):Int)::ps.drop (i+1+1):=by
   rw[List.drop_eq_getElem_cons Om,gR_lt Om]
  simp(disch:=omega) only[atR,rdQ,Q.ask,RS.row gp,Zv,ZF,Zw,Zb]
  rw[show((i:Int)==(ps.length:Int)-1)=false by rw[beq_eq_false_iff_ne];omega,cond_false,l4Kid_fv o.g3 hk1,hg,hg2];unfold doV;rw[<- hg2];show _=some (retV (mkV c0 c1 c2 c3 c4) (bif decide (Ycw c0 c3 c4 (gS ps (i:Int) 0)<0) then none else match doV kind (mkV x0 x1 x2 x3 x4) (ps.drop (i+1)) (gR c4 (Ycw c0 c3 c4 (gS ps (i:Int) 0))) with|none=>none|some y=>some (mkV c0 ⟨#[]⟩ 0 c3 (c4.take (Ycw c0 c3 c4 (gS ps (i:Int) 0)).toNat++y::c4.drop ((Ycw c0 c3 c4 (gS ps (i:Int) 0)).toNat+1)))));by_cases hq:Ycw c0 c3 c4 (gS ps (i:Int) 0)<0
  ·rw[Zl hq];rfl
  rw[Zm hq];obtain⟨n,hn,hnl⟩:=kidV_lt hq;rw[hn];simp only[cond_false,Int.toNat_natCast]
  obtain⟨hrow,-⟩:=Yt.get g4 (v:=(n:Int)) Om Om;have hkid:=o.kids _ (Zan (xs:=c4) (v:=(n:Int)) Om Om);have ih':=ih d' (i+1) (gI c4 (n:Int) 0) (gS c4 (n:Int) 1) (gI c4 (n:Int) 2) (gL c4 (n:Int) 3) (gL c4 (n:Int) 4) (k:=k) Om (by rw[show mkV (gI c4 (n:Int) 0) (gS c4 (n:Int) 1) (gI c4 (n:Int) 2) (gL c4 (n:Int) 3) (gL c4 (n:Int) 4)=gR c4 (n:Int) from hrow.symm];exact hkid) Om Om;rw[show mkV (gI c4 (n:Int) 0) (gS c4 (n:Int) 1) (gI c4 (n:Int) 2) (gL c4 (n:Int) 3) (gL c4 (n:Int) 4)=gR c4 (n:Int) from hrow.symm] at ih';simp(disch:=omega) only[Yt.row g4,Zv,ZJ,ZF,Z6,Zw]
  rw[show(i:Int)+1=((i+1:Nat):Int) by omega,Yai.f_of (show Yai.t k _ _ _ _ _ _ _ _ _ _ _ _ _=some (_,_,_,_,_,_) from ih')];cases hd:doV kind (mkV x0 x1 x2 x3 x4) (ps.drop (i+1)) (gR c4 (n:Int)) with
  |none=>rfl
  |some y=>
   simp only[retV,Bool.not_true,cond_false,List.nil_append]
   rw[ZU (rows5 g4),ZU (by simp only[List.length_nil,map_len];omega),ZU (by simp only[map_len];omega),ZU (by simp only[map_len];omega)];have hy:=doV_mk hd;rw[show((c4.map (·.map C.d)).modify n λc=>ZE c 0 [.d (.int .i64 (rI y 0)),.d (.str (rS y 1)),.d (.int .i64 (rI y 2)),.d (.sl (rL y 3)),.d (.sl (rL y 4))])=upL (c4.take n++y::c4.drop (n+1)) from up_mod hnl λr hr=>by
    rw[List.getElem?_eq_getElem hnl] at hr;injection hr with hr;have e:y.map C.d=[.d (.int .i64 (rI y 0)),.d (.str (rS y 1)),.d (.int .i64 (rI y 2)),.d (.sl (rL y 3)),.d (.sl (rL y 4))]:=by
     conv=>lhs;rw[hy]
     rfl
    rw[e];refine splice_full ?_;rw[List.length_map,<- hr,(g4.2 _ (List.getElem_mem hnl)).len];rfl,imm_rows]
   rfl
theorem atC_deep {xs:LD} (g:Zc Yt lim xs) {n:Nat} (hn:n<xs.length) {β:Type} (F:Int->BA->Int->LC->LC->Option β):atC (Za xs) n [.n,.s,.n,.o,.o] F=F (gI xs (n:Int) 0) (gS xs (n:Int) 1) (gI xs (n:Int) 2) (Za (gL xs (n:Int) 3)) (Za (gL xs (n:Int) 4)):=by
 have hrow:=(Yt.get g (v:=(n:Int)) Om Om).1;have h:(Za xs)[n]? = some (Zu (gR xs (n:Int))):=by
  have e:∀ {l:LD} {i:Nat},(Za l)[i]? = (l[i]?).map Zu:=by
   intro l;induction l with
   |nil=>intro i;simp[Za]
   |cons r l ih=>
    intro i;cases i with
    |zero=>simp[Za]
    |succ i=>simp only[Za,List.getElem?_cons_succ];exact ih
  rw[e,List.getElem?_eq_getElem hn,gR_lt hn];rfl
 unfold atC Za7;rw[h,hrow];simp only[Zu,Zag]
 rfl
theorem gone_len:∀ c:List C,(c.map C.gone).length=c.length:=λc=>List.length_map ..
theorem changed_t {kind:Int} {full:LD} {x0:Int} {x1:BA} {x2:Int} {x3 x4:LD} (u3:Zc RS lim x3) (u4:Zc Yt lim x4):∀ (ps:LD) (d:Nat) (c0:Int) (c1:BA) (c2:Int) (c3 c4:LD) {k:Nat},ps≠[]->Zc RS lim ps->d<=1000->OkV d (mkV c0 c1 c2 c3 c4)->lv 1+ps.length+1<=k->
  AnsC (Y3.t k c0 c1 c2 (Za c3) (Za c4) ps kind full x0 x1 x2 x3 x4) (doV kind (mkV x0 x1 x2 x3 x4) ps (mkV c0 c1 c2 c3 c4)):=by
 have hlim:lim=1048576:=rfl;intro ps;induction ps with
 |nil=>intro d c0 c1 c2 c3 c4 k h;exact absurd rfl h
 |cons p ps ih=>
  intro d c0 c1 c2 c3 c4 k _ gp hd h hk;obtain⟨k,rfl⟩:∃ k',k=k'+1:=⟨k-1,Om⟩
  have hk1:Zp 1 k:=by unfold Zp;omega
  obtain⟨d',e0,e1,e2,e3,e4,rfl,ev,o⟩:=h.open;injection ev with v0 ev;injection ev with v1 ev;injection ev with v2 ev;injection ev with v3 ev;injection ev with v4 ev;injection v0 with _ v0;injection v1 with v1;injection v2 with _ v2;injection v3 with v3;injection v4 with v4;subst v0 v1 v2 v3 v4;have g4:=o.kg Om;have l4:=o.len;have d4:=Zd c4;obtain⟨w,rfl,hw,-⟩:=gp.2 p Sp;have hl:=gp.1;rw[Y3.t_succ];unfold Y3.g Y3.body;simp only[atR,rdQ,Q.ask]
  have at0:∀ {β:Type} (F:List D->Option β),Zam (([.str w]:List D)::ps) 0 F=F [.str w]:=λF=>rfl
  cases ps with
  |nil=>
   rw[show((([[D.str w]]:LD).length:Int)==1)=true from rfl,cond_true];simp only[at0,Zv,ZF,Zw]
   unfold doV;cases(kind==1)<;>simp only[cond_true,cond_false]
   ·have:=dropKid_t (w:=w) o Om (up0 hk1);show AnsC _ (dropR c0 c3 c4 w);unfold bd6;cases hr:dropR c0 c3 c4 w with
    |none=>rw[hr] at this;obtain⟨z0,z1,z2,z3,z4,e⟩:=this;rw[e];exact⟨_,_,_,_,_,rfl⟩
    |some r=>rw[hr] at this;rw[show Yb1.t k c0 c1 c2 (Za c3) (Za c4) w=_ from this];rfl
   ·rw[YcD u3 u4 hk1];have:=setKid_t (w:=w) (x0:=x0) (x1:=x1) (x2:=x2) (x3:=x3) (x4:=x4) o Om hw (up0 hk1);show AnsC _ (putJ c0 c3 c4 w (mkV x0 x1 x2 x3 x4));unfold bd6;cases hr:putJ c0 c3 c4 w (mkV x0 x1 x2 x3 x4) with
    |none=>rw[hr] at this;obtain⟨z0,z1,z2,z3,z4,e⟩:=this;rw[e];exact⟨_,_,_,_,_,rfl⟩
    |some r=>rw[hr] at this;rw[show Ycd.t k c0 c1 c2 (Za c3) (Za c4) w x0 x1 x2 (Za x3) (Za x4)=_ from this];rfl
  |cons q ps=>
   rw[show(((([.str w]:List D)::q::ps).length:Int)==1)=false by rw[beq_eq_false_iff_ne];simp only[List.length_cons];omega,cond_false];simp only[at0,Zv,ZF,Zw]
   rw[Zq,Zq,step_fv o.g3 (λe=>(o.five e).2.2.1) (up0 hk1)];unfold doV;show AnsC _ (bif decide (Ycw c0 c3 c4 w<0) then none else match doV kind (mkV x0 x1 x2 x3 x4) (q::ps) (gR c4 (Ycw c0 c3 c4 w)) with|none=>none|some y=>some (mkV c0 ⟨#[]⟩ 0 c3 (c4.take (Ycw c0 c3 c4 w).toNat++y::c4.drop ((Ycw c0 c3 c4 w).toNat+1))));by_cases hq:Ycw c0 c3 c4 w<0
   ·rw[Zl hq];exact⟨_,_,_,_,_,rfl⟩
   rw[Zm hq];obtain⟨n,hn,hnl⟩:=kidV_lt hq;rw[hn];simp only[cond_false,Int.toNat_natCast]
   obtain⟨hrow,-⟩:=Yt.get g4 (v:=(n:Int)) Om Om;have hkid:=o.kids _ (Zan (xs:=c4) (v:=(n:Int)) Om Om);have gq:Zc RS lim (q::ps):=⟨by simp only[List.length_cons] at hl⊢;omega,λr hr=>gp.2 r (by simp only[List.mem_cons] at hr⊢;exact .inr hr)⟩
   have ih':=ih d' (gI c4 (n:Int) 0) (gS c4 (n:Int) 1) (gI c4 (n:Int) 2) (gL c4 (n:Int) 3) (gL c4 (n:Int) 4) (k:=k) Sp gq Om (by rw[show mkV (gI c4 (n:Int) 0) (gS c4 (n:Int) 1) (gI c4 (n:Int) 2) (gL c4 (n:Int) 3) (gL c4 (n:Int) 4)=gR c4 (n:Int) from hrow.symm];exact hkid) (by simp only[List.length_cons] at hk⊢;omega);rw[show mkV (gI c4 (n:Int) 0) (gS c4 (n:Int) 1) (gI c4 (n:Int) 2) (gL c4 (n:Int) 3) (gL c4 (n:Int) 4)=gR c4 (n:Int) from hrow.symm] at ih';rw[ZU Om,atC_deep g4 hnl,ZU ⟨Om,by simp only[List.length_cons];omega,Om,rows1 gp⟩];have htk:(((([.str w]:List D)::q::ps).drop (Int.toNat (1:Int))).take ((([.str w]:List D)::q::ps).length-Int.toNat (1:Int)))=q::ps:=by
    rw[show Int.toNat (1:Int)=1 from rfl,List.drop_succ_cons,List.drop_zero,List.take_of_length_le (by simp only[List.length_cons];omega)]
   rw[htk];unfold Y3.f Y3.w;have hm:∀ {e0:Int} {e1:BA} {e2:Int} {e3 e4:LD},(((Za c4).modify n λc=>c.map C.gone).modify n λc=>ZE c 0 [.d (.int .i64 e0),.d (.str e1),.d (.int .i64 e2),.own (Za e3),.own (Za e4)])=Za (c4.take n++mkV e0 e1 e2 e3 e4::c4.drop (n+1)):=λ{e0 e1 e2 e3 e4}=>by
    rw[List.modify_modify_eq];refine deepRows_mod hnl λr hr=>?_
    rw[List.getElem?_eq_getElem hnl] at hr;injection hr with hr;have e:([.d (.int .i64 e0),.d (.str e1),.d (.int .i64 e2),.own (Za e3),.own (Za e4)]:List C)=Zu (mkV e0 e1 e2 e3 e4):=by simp only[mkV,Zu,Zag]
    show ZE ((Zu r).map C.gone) 0 _=_;rw[e];refine splice_full ?_;rw[gone_len,YcK,YcK,<- hr,(g4.2 _ (List.getElem_mem hnl)).len];rfl
   cases hd:doV kind (mkV x0 x1 x2 x3 x4) (q::ps) (gR c4 (n:Int)) with
   |none=>
    rw[hd] at ih';obtain⟨z0,z1,z2,z3,z4,e⟩:=ih';rw[e];dsimp only
    rw[ZU (by rw[List.length_modify];omega),ZU (by rw[List.length_modify];omega)];exact⟨_,_,_,_,_,rfl⟩
   |some y=>
    rw[hd] at ih';rw[show Y3.t k _ _ _ _ _ _ _ _ _ _ _ _ _=_ from ih'];simp only[retC]
    rw[ZU (by rw[List.length_modify];omega),ZU (by rw[List.length_modify];omega),hm];obtain h5|h5:=kid45 hq
    ·obtain⟨rfl,rfl,-,-⟩:=o.five h5;show some _=some _;rw[<- doV_mk hd];rfl
    ·obtain⟨rfl,rfl,-⟩:=o.four h5;show some _=some _;rw[<- doV_mk hd];rfl
theorem OkV.val {c1:BA} (h:OkV 6 (mkV c0 c1 c2 c3 c4)):valB c0 c1 c2 c3 c4=true:=by
 have h1:=YcC 6 (mkV c0 c1 c2 c3 c4);have h2:=h.ok;exact Zl (show YbJ 6 (mkV c0 c1 c2 c3 c4)>0 by omega)
theorem row_h {c1:BA} (g0:(Lit.int .i64 c0).wf=true) (g1:c1.size<=lim) (g2:(Lit.int .i64 c2).wf=true) (g3:Zc RS lim c3) (g4:Zc Yt lim c4):Yx lim (1099511627776+1) (mkV c0 c1 c2 c3 c4):=.mk c0 c1 c2 c3 c4 g0 g1 g2 g3 g4.1 (value_h g4)
theorem valB_ok {c1:BA} {N:Nat} (h:Yx lim N (mkV c0 c1 c2 c3 c4)) (hv:valB c0 c1 c2 c3 c4=true):OkV 6 (mkV c0 c1 c2 c3 c4):=.of h (by
 unfold valB at hv;have:=of_decide_eq_true hv;exact λe=>absurd this (by rw[show YbJ 6 [.int .i64 c0,.str c1,.int .i64 c2,.sl c3,.sl c4]=0 from e];decide))
theorem h_open {N:Nat} {r:List D} (h:Yx lim N r) (hN:N<=1000):∃ c0 c1 c2 c3 c4,r=mkV c0 c1 c2 c3 c4/\(Lit.int .i64 c0).wf=true/\c1.size<=lim/\(Lit.int .i64 c2).wf=true/\Zc RS lim c3/\Zc Yt lim c4:=by
 cases h with
 |@mk d c0 c1 c2 c3 c4 k0 k1 k2 k3 k4 m4=>exact⟨c0,c1,c2,c3,c4,rfl,k0,k1,k2,k3,k4,λx hx=>⟨d,λ_=>by omega,m4 x hx⟩⟩
structure OpenOp (ps:LD) (x0:Int) (x1:BA) (x2:Int) (x3 x4:LD):Prop where
 gp:Zc RS lim ps
 ne:ps≠[]
 len:ps.length<=5
 u3:Zc RS lim x3
 u4:Zc Yt lim x4
 h:Yx lim 6 (mkV x0 x1 x2 x3 x4)
theorem OpenOp.of {kind:Int} {ps:LD} {x1:BA} (gp:Zc RS lim ps) (u0:(Lit.int .i64 x0).wf=true) (u1:x1.size<=lim) (u2:(Lit.int .i64 x2).wf=true) (u3:Zc RS lim x3) (u4:Zc Yt lim x4) (h:opOkB kind ps x0 x1 x2 x3 x4=true):OpenOp ps x0 x1 x2 x3 x4:=by
 unfold opOkB pathB at h;simp only[Bool.and_eq_true] at h;obtain⟨-,⟨-,hi⟩,hv⟩:=h;unfold inB at hi;rw[Bool.and_eq_true,decide_eq_true_iff,decide_eq_true_iff] at hi;refine⟨gp,λe=>by subst e;simp at hi,Om,u3,u4,?_⟩
 cases h2:(kind==2)<;>rw[h2] at hv
 ·exact(valB_ok (row_h u0 u1 u2 u3 u4) hv).h
 ·unfold zeroB at hv;simp only[cond_true,Bool.and_eq_true,beq_iff_eq] at hv;have e4:x4=[]:=List.length_eq_zero_iff.mp Om;exact .mk x0 x1 x2 x3 x4 u0 u1 u2 u3 u4.1 λx hx=>by rw[e4] at hx;cases hx
theorem reachI_t {c1:BA} {c3 c4 ps:LD} (h:OkV 6 (mkV c0 c1 c2 c3 c4)) (gp:Zc RS lim ps) (hk:Zp 1 k):Ybo.t k c0 c1 c2 c3 c4 ps=some (outC (YcJ ps (mkV c0 c1 c2 c3 c4))):=by
 have hlim:lim=1048576:=rfl;have hb:big=2^64:=rfl;have hl:=gp.1;have hk0:Zr k:=up0 hk;unfold Ybo.t Ybo.g;obtain⟨f0,f1,f2,f3,f4,fe,-,k1,-,k3,k4⟩:=h_open h.h Om;injection fe with v0 fe;injection fe with v1 fe;injection fe with v2 fe;injection fe with v3 fe;injection fe with v4 fe;injection v0 with _ v0;injection v1 with v1;injection v2 with _ v2;injection v3 with v3;injection v4 with v4;subst v0 v1 v2 v3 v4;rw[YcB k1 k3 k4 hk,h.val];simp only[Bool.not_true,cond_false]
 refine Eq.trans (Zco (λv:Int×Int×BA×Int×LD×LD=>ps.length-v.1.toNat) (λv=>0<=v.1/\v.1<=(ps.length:Int)/\∃ e,e<=1000/\OkV e (mkV v.2.1 v.2.2.1 v.2.2.2.1 v.2.2.2.2.1 v.2.2.2.2.2)) (λv=>some (outC (YcJ (ps.drop v.1.toNat) (mkV v.2.1 v.2.2.1 v.2.2.2.1 v.2.2.2.2.1 v.2.2.2.2.2)))) ?_ k (0,c0,c1,c2,c3,c4) ⟨by simp,by simp,6,Om,h⟩ (by unfold Zr at hk0;show ps.length-(0:Int).toNat<k;omega)) (by rfl);clear h k1 k3 k4;rintro⟨n,c0,c1,c2,c3,c4⟩ ⟨n0,n1,e,he,ho⟩ L hL;replace n0:0<=n:=n0;obtain⟨i,rfl⟩:∃ i:Nat,n=(i:Int):=⟨n.toNat,Om⟩
 replace n1:(i:Int)<=(ps.length:Int):=n1;replace ho:OkV e (mkV c0 c1 c2 c3 c4):=ho;simp only[Int.toNat_natCast]
 obtain⟨e',d0,d1,d2,d3,d4,rfl,ev,o⟩:=ho.open;injection ev with v0 ev;injection ev with v1 ev;injection ev with v2 ev;injection ev with v3 ev;injection ev with v4 ev;injection v0 with _ v0;injection v1 with v1;injection v2 with _ v2;injection v3 with v3;injection v4 with v4;subst v0 v1 v2 v3 v4;by_cases hi:i<ps.length
 ·rw[List.drop_eq_getElem_cons hi];have hg:ps[i]=gR ps (i:Int):=by have:=gR_at (xs:=ps) (v:=(i:Int)) Om Om;rw[Int.toNat_natCast,List.getElem?_eq_getElem hi] at this;injection this
  rw[hg];unfold YcJ;simp(disch:=omega) only[Ybo.l0,atR,rdQ,Q.ask,Zl (show(i:Int)<(ps.length:Int) by omega),cond_true,RS.row gp,Zv,ZF,Zw]
  rw[step_fv o.g3 (λe=>(o.five e).2.2.1) hk0];have ek:Ycw (rI (mkV c0 c1 c2 c3 c4) 0) (rL (mkV c0 c1 c2 c3 c4) 3) (rL (mkV c0 c1 c2 c3 c4) 4) (rS (gR ps (i:Int)) 0)=Ycw c0 c3 c4 (gS ps (i:Int) 0):=rfl;have el:rL (mkV c0 c1 c2 c3 c4) 4=c4:=rfl;rw[ek,el];by_cases hq:Ycw c0 c3 c4 (gS ps (i:Int) 0)<0
  ·rw[Zl hq];rfl
  ·rw[Zm hq];simp only[cond_false]
   obtain⟨j,hj,hjl⟩:=kidV_lt hq;rw[hj];have hrow:=(Yt.get (o.kg Om) (v:=(j:Int)) Om Om).1;simp(disch:=omega) only[Yt.row (o.kg Om),Zv,ZJ,ZF,Z6,Zw,Zb]
   rw[hL _ ⟨by show 0<=(i:Int)+1;omega,by show(i:Int)+1<=_;omega,e',Om,by show OkV e' (mkV (gI c4 (j:Int) 0) (gS c4 (j:Int) 1) (gI c4 (j:Int) 2) (gL c4 (j:Int) 3) (gL c4 (j:Int) 4));rw[show mkV (gI c4 (j:Int) 0) (gS c4 (j:Int) 1) (gI c4 (j:Int) 2) (gL c4 (j:Int) 3) (gL c4 (j:Int) 4)=gR c4 (j:Int) from hrow.symm];exact o.kids _ (Zan Om Om)⟩ (by show ps.length-((i:Int)+1).toNat<ps.length-(i:Int).toNat;omega)];show some (outC (YcJ (ps.drop ((i:Int)+1).toNat) (mkV (gI c4 (j:Int) 0) (gS c4 (j:Int) 1) (gI c4 (j:Int) 2) (gL c4 (j:Int) 3) (gL c4 (j:Int) 4))))=_;rw[show mkV (gI c4 (j:Int) 0) (gS c4 (j:Int) 1) (gI c4 (j:Int) 2) (gL c4 (j:Int) 3) (gL c4 (j:Int) 4)=gR c4 (j:Int) from hrow.symm,show((i:Int)+1).toNat=i+1 by omega]
 ·rw[List.drop_eq_nil_of_le Om];simp only[Ybo.l0,atR,rdQ,Q.ask,Zm (show ¬ (i:Int)<(ps.length:Int) by omega),cond_false]
  rw[YcD o.g3 (o.kg Om) hk];rfl
noncomputable def opV (kind:Int) (ps:LD) (x0:Int) (x1:BA) (x2:Int) (x3 x4:LD) (v:List D):Option (List D):=
 bif kind==3 then(match YcJ ps v with|some y=>bif sameVB (rI y 0) (rS y 1) (rI y 2) (rL y 3) (rL y 4) x0 x1 x2 x3 x4 then some v else none|none=>none)
 else(match doV kind (mkV x0 x1 x2 x3 x4) ps v with|some r=>bif valB (rI r 0) (rS r 1) (rI r 2) (rL r 3) (rL r 4) then some r else none|none=>none)
def AnsV (t:Option (Int×BA×Int×LD×LD×Bool)) (o:Option (List D)):Prop:=match o with|some r=>t=some (rI r 0,rS r 1,rI r 2,rL r 3,rL r 4,true)|none=>∃ z0 z1 z2 z3 z4,t=some (z0,z1,z2,z3,z4,false)
section
variable {kind:Int} {ps:LD} {x0:Int} {x1:BA} {x2:Int} {x3 x4:LD} {c0:Int} {c1:BA} {c2:Int} {c3 c4:LD}
theorem opV_ok (g:OpenOp ps x0 x1 x2 x3 x4) {v r:List D} (h:OkV 6 v) (e:opV kind ps x0 x1 x2 x3 x4 v=some r):OkV 6 r:=by
 unfold opV at e;cases h3:(kind==3)<;>rw[h3] at e<;>simp only[cond_true,cond_false] at e
 ·cases hd:doV kind (mkV x0 x1 x2 x3 x4) ps v with
  |none=>rw[hd] at e;cases e
  |some y=>
   rw[hd] at e;have hh:=doV_h g.h h g.gp.2 hd;have hm:=doV_mk hd;simp only at e;cases hv:valB (rI y 0) (rS y 1) (rI y 2) (rL y 3) (rL y 4)<;>rw[hv] at e
   ·cases e
   ·injection e with e;subst e;rw[hm] at hh⊢;exact valB_ok hh hv
 ·cases hd:YcJ ps v with
  |none=>rw[hd] at e;cases e
  |some y=>
   rw[hd] at e;simp only at e;cases hv:sameVB (rI y 0) (rS y 1) (rI y 2) (rL y 3) (rL y 4) x0 x1 x2 x3 x4<;>rw[hv] at e
   ·cases e
   ·injection e with e;subst e;exact h
theorem l5One_t (g:OpenOp ps x0 x1 x2 x3 x4) (h:OkV 6 (mkV c0 c1 c2 c3 c4)) (hk:Zp 1 k):AnsV (Ycm.t k c0 c1 c2 c3 c4 kind ps x0 x1 x2 x3 x4) (opV kind ps x0 x1 x2 x3 x4 (mkV c0 c1 c2 c3 c4)):=by
 have hb:big=2^64:=rfl;have h1:lv 1=2^65:=rfl;have hp:=g.len;have hne:ps.length≠0:=λe=>g.ne (List.length_eq_zero_iff.mp e)
 unfold Ycm.t Ycm.g opV;cases(kind==3)<;>simp only[cond_true,cond_false]
 ·have hd:=l5Do_t (kind:=kind) (x0:=x0) (x1:=x1) (x2:=x2) (x3:=x3) (x4:=x4) g.gp (ps.length-1) 6 0 c0 c1 c2 c3 c4 (k:=k) Om h Om (by unfold Zp at hk;omega);rw[List.drop_zero] at hd;rw[Yai.f_of (show Yai.t k c0 c1 c2 c3 c4 kind ps x0 x1 x2 x3 x4 0=some (_,_,_,_,_,_) from hd)];clear hd;cases hd:doV kind (mkV x0 x1 x2 x3 x4) ps (mkV c0 c1 c2 c3 c4) with
  |none=>exact⟨_,_,_,_,_,rfl⟩
  |some y=>
   obtain⟨e0,e1,e2,e3,e4,rfl,-,k1,-,k3,k4⟩:=h_open (doV_h g.h h g.gp.2 hd) Om;show AnsV (bd1 (Yao.t k e0 e1 e2 e3 e4) λy=>some (e0,e1,e2,e3,e4,y)) (bif valB e0 e1 e2 e3 e4 then some (mkV e0 e1 e2 e3 e4) else none);rw[YcE k1 k3 k4 hk];cases valB e0 e1 e2 e3 e4
   ·exact⟨_,_,_,_,_,rfl⟩
   ·rfl
 ·rw[bd6_of (l4Reach_t Om h g.gp hk)];cases hd:YcJ ps (mkV c0 c1 c2 c3 c4) with
  |none=>exact⟨_,_,_,_,_,rfl⟩
  |some y=>
   obtain⟨d',hd',hy⟩:=reach_ok h hd;obtain⟨e0,e1,e2,e3,e4,rfl,-,k1,-,k3,k4⟩:=h_open hy.h Om;show AnsV (Yf.f k e0 e1 e2 e3 e4 x0 x1 x2 x3 x4 λy=>some (c0,c1,c2,c3,c4,y)) (bif sameVB e0 e1 e2 e3 e4 x0 x1 x2 x3 x4 then some (mkV c0 c1 c2 c3 c4) else none);rw[Yf.f_of (sameVB_t k3 k4 g.u3 g.u4 hk).1];cases sameVB e0 e1 e2 e3 e4 x0 x1 x2 x3 x4
   ·exact⟨_,_,_,_,_,rfl⟩
   ·rfl
theorem done_t (g:OpenOp ps x0 x1 x2 x3 x4) (h:OkV 6 (mkV c0 c1 c2 c3 c4)) (hk:Zp 2 k):AnsC (Ycv.t k c0 c1 c2 (Za c3) (Za c4) kind ps x0 x1 x2 x3 x4) (opV kind ps x0 x1 x2 x3 x4 (mkV c0 c1 c2 c3 c4)):=by
 have h1:lv 1=2^65:=rfl;have h2:lv 2=2^66:=rfl;have hk1:Zp 1 k:=upn hk De;have hp:=g.len;obtain⟨f0,f1,f2,f3,f4,fe,-,j1,-,j3,j4⟩:=h_open h.h Om;injection fe with v0 fe;injection fe with v1 fe;injection fe with v2 fe;injection fe with v3 fe;injection fe with v4 fe;injection v0 with _ v0;injection v1 with v1;injection v2 with _ v2;injection v3 with v3;injection v4 with v4;subst v0 v1 v2 v3 v4;unfold Ycv.t Ycv.g opV;rw[Zq,Zq];cases(kind==3)<;>simp only[cond_true,cond_false]
 ·rw[YcD j3 j4 hk1];have:=changed_t (kind:=kind) (full:=ps) (x0:=x0) (x1:=x1) (x2:=x2) g.u3 g.u4 ps 6 c0 c1 c2 c3 c4 g.ne g.gp Om h (k:=k) (by unfold Zp at hk;omega);unfold Y3.f Y3.w;cases hd:doV kind (mkV x0 x1 x2 x3 x4) ps (mkV c0 c1 c2 c3 c4) with
  |none=>
   rw[hd] at this;obtain⟨z0,z1,z2,z3,z4,e⟩:=this;rw[e];exact⟨_,_,_,_,_,rfl⟩
  |some y=>
   rw[hd] at this;obtain⟨e0,e1,e2,e3,e4,rfl,-,k1,-,k3,k4⟩:=h_open (doV_h g.h h g.gp.2 hd) Om;rw[show Y3.t k c0 c1 c2 (Za c3) (Za c4) ps kind ps x0 x1 x2 x3 x4=some (e0,e1,e2,Za e3,Za e4,true) from this];show AnsC (bd1 (Yag.t k e0 e1 e2 (C.immRows (Za e3)) (C.immRows (Za e4))) λy=>some (e0,e1,e2,Za e3,Za e4,y)) (bif valB e0 e1 e2 e3 e4 then some (mkV e0 e1 e2 e3 e4) else none);rw[Zq,Zq,YcB k1 k3 k4 hk1];cases valB e0 e1 e2 e3 e4
   ·exact⟨_,_,_,_,_,rfl⟩
   ·rfl
 ·rw[bd6_of (reachI_t h g.gp hk1)];cases hd:YcJ ps (mkV c0 c1 c2 c3 c4) with
  |none=>exact⟨_,_,_,_,_,rfl⟩
  |some y=>
   obtain⟨d',hd',hy⟩:=reach_ok h hd;obtain⟨e0,e1,e2,e3,e4,rfl,-,k1,-,k3,k4⟩:=h_open hy.h Om;show AnsC (YE.f k e0 e1 e2 (C.immRows (Za e3)) (C.immRows (Za e4)) x0 x1 x2 x3 x4 λy=>some (c0,c1,c2,Za c3,Za c4,y)) (bif sameVB e0 e1 e2 e3 e4 x0 x1 x2 x3 x4 then some (mkV c0 c1 c2 c3 c4) else none);rw[Zq,Zq,YE.f_of (sameVB_t k3 k4 g.u3 g.u4 hk1).2];cases sameVB e0 e1 e2 e3 e4 x0 x1 x2 x3 x4
   ·exact⟨_,_,_,_,_,rfl⟩
   ·rfl
end
noncomputable def opR (o v:List D):Option (List D):=opV (rI o 0) (rL o 1) (rI o 2) (rS o 3) (rI o 4) (rL o 5) (rL o 6) v
noncomputable def YcM (v0:List D):LD->Int->List D->List D×Int
 |[],_,v=>(v,-1)
 |o::os,i,v=>match opR o v with|some r=>YcM v0 os (i+1) r|none=>(v0,i)
noncomputable def YcA (l:LD) (v:List D):List D×Int:=bif opsB l then YcM v l 0 v else(v,0)
noncomputable def outP (o:List D×Int):Int×BA×Int×LC×LC×Int:=(rI o.1 0,rS o.1 1,rI o.1 2,Za (rL o.1 3),Za (rL o.1 4),o.2)
def OpsOk (l:LD):Prop:=∀ i:Nat,i<l.length->OpenOp (gL l (i:Int) 1) (gI l (i:Int) 2) (gS l (i:Int) 3) (gI l (i:Int) 4) (gL l (i:Int) 5) (gL l (i:Int) 6)
theorem opsB_ok {l:LD} (g:Zc Rop lim l) (h:opsB l=true):OpsOk l:=λi hi=>by
 unfold opsB at h;rw[Bool.and_eq_true,List.all_eq_true] at h;have:=h.1 i (List.mem_range.mpr hi);obtain⟨-,-,p1,p2,p3,p4,p5,p6,-⟩:=Yn.get g (v:=(i:Int)) Om Om;exact .of p1 p2 p3 p4 p5 p6 this
theorem patchL_ok {v0:List D} (h0:OkV 6 v0) {l:LD} (g:OpsOk l):∀ (m i:Nat) {v:List D},i+m=l.length->OkV 6 v->OkV 6 (YcM v0 (l.drop i) (i:Int) v).1/\((YcM v0 (l.drop i) (i:Int) v).2 = -1\/0<=(YcM v0 (l.drop i) (i:Int) v).2)
 |0,i,v,hi,h=>by
  rw[List.drop_eq_nil_of_le Om];exact⟨h,.inl rfl⟩
 |m+1,i,v,hi,h=>by
  have hl:i<l.length:=by omega
  rw[List.drop_eq_getElem_cons hl,<- gR_lt hl];unfold YcM;cases hr:opR (gR l (i:Int)) v with
  |none=>exact⟨h0,.inr (by show(0:Int)<=(i:Int);omega)⟩
  |some r=>
   have:=patchL_ok h0 g m (i+1) (v:=r) Om (opV_ok (g i hl) h hr);rw[show((i+1:Nat):Int)=(i:Int)+1 by omega] at this;exact this
theorem patchV_ok {v:List D} (h:OkV 6 v) {l:LD} (g:Zc Rop lim l):OkV 6 (YcA l v).1/\((YcA l v).2 = -1\/0<=(YcA l v).2):=by
 unfold YcA;cases ho:opsB l
 ·exact⟨h,.inr (by show(0:Int)<=0;omega)⟩
 ·exact patchL_ok h (opsB_ok g ho) l.length 0 Om h
section
variable {c0:Int} {c1:BA} {c2:Int} {c3 c4 l:LD} {k:Nat}
theorem patchS_t (h:OkV 6 (mkV c0 c1 c2 c3 c4)) (g:Zc Rop lim l) (hk:Zp 1 k):Ya3.t k c0 c1 c2 c3 c4 l=some (outP (YcA l (mkV c0 c1 c2 c3 c4))):=by
 have hlim:lim=1048576:=rfl;have hb:big=2^64:=rfl;have hl:=g.1;have hk0:Zr k:=up0 hk;obtain⟨f0,f1,f2,f3,f4,fe,-,k1,-,k3,k4⟩:=h_open h.h Om;injection fe with v0 fe;injection fe with v1 fe;injection fe with v2 fe;injection fe with v3 fe;injection fe with v4 fe;injection v0 with _ v0;injection v1 with v1;injection v2 with _ v2;injection v3 with v3;injection v4 with v4;subst v0 v1 v2 v3 v4;unfold Ya3.t Ya3.g Ya3.m YcA;rw[YcE k1 k3 k4 hk,h.val,patchS_fv g hk];cases ho:opsB l<;>simp only[Bool.not_true,Bool.not_false,cond_true,cond_false]
 ·rw[l4Copy_fv k3 k4 hk];rfl
 have go:=opsB_ok g ho;refine Eq.trans (Zco (λv:Int×Int×BA×Int×LD×LD=>l.length-v.1.toNat) (λv=>0<=v.1/\v.1<=(l.length:Int)/\OkV 6 (mkV v.2.1 v.2.2.1 v.2.2.2.1 v.2.2.2.2.1 v.2.2.2.2.2)) (λv=>some (outP (YcM (mkV c0 c1 c2 c3 c4) (l.drop v.1.toNat) v.1 (mkV v.2.1 v.2.2.1 v.2.2.2.1 v.2.2.2.2.1 v.2.2.2.2.2)))) ?_ k (0,c0,c1,c2,c3,c4) ⟨by simp,by simp,h⟩ (by unfold Zr at hk0;show l.length-(0:Int).toNat<k;omega)) (by rfl);rintro⟨n,e0,e1,e2,e3,e4⟩ ⟨n0,n1,he⟩ L hL;replace n0:0<=n:=n0;obtain⟨i,rfl⟩:∃ i:Nat,n=(i:Int):=⟨n.toNat,Om⟩
 replace n1:(i:Int)<=(l.length:Int):=n1;replace he:OkV 6 (mkV e0 e1 e2 e3 e4):=he;simp only[Int.toNat_natCast]
 by_cases hi:i<l.length
 ·rw[List.drop_eq_getElem_cons hi,<- gR_lt hi];unfold YcM;simp(disch:=omega) only[Ya3.l0,atR,rdQ,Q.ask,Zl (show(i:Int)<(l.length:Int) by omega),cond_true,Yn.row g,Zv,ZJ,ZF,Z6,Zw]
  have hr:=l5One_t (kind:=gI l (i:Int) 0) (go i hi) he hk;unfold bd6;have ho:=λr=>opV_ok (kind:=gI l (i:Int) 0) (r:=r) (go i hi) he
  show _=some (outP (match opV (gI l (i:Int) 0) (gL l (i:Int) 1) (gI l (i:Int) 2) (gS l (i:Int) 3) (gI l (i:Int) 4) (gL l (i:Int) 5) (gL l (i:Int) 6) (mkV e0 e1 e2 e3 e4) with|some r=>YcM (mkV c0 c1 c2 c3 c4) (l.drop (i+1)) ((i:Int)+1) r|none=>(mkV c0 c1 c2 c3 c4,(i:Int))));cases hd:opV (gI l (i:Int) 0) (gL l (i:Int) 1) (gI l (i:Int) 2) (gS l (i:Int) 3) (gI l (i:Int) 4) (gL l (i:Int) 5) (gL l (i:Int) 6) (mkV e0 e1 e2 e3 e4) with
  |none=>
   rw[hd] at hr;obtain⟨z0,z1,z2,z3,z4,e⟩:=hr;rw[e];show YL.f k c0 c1 c2 c3 c4 (λy242 y243 y244 y245 y246=>some (y242,y243,y244,y245,y246,(i:Int)))=_;rw[l4Copy_fv k3 k4 hk];rfl
  |some r=>
   rw[hd] at hr;have hr2:=ho _ hd;obtain⟨d0,d1,d2,d3,d4,rfl,-⟩:=h_open hr2.h Om;rw[show Ycm.t k e0 e1 e2 e3 e4 (gI l (i:Int) 0) (gL l (i:Int) 1) (gI l (i:Int) 2) (gS l (i:Int) 3) (gI l (i:Int) 4) (gL l (i:Int) 5) (gL l (i:Int) 6)=some (d0,d1,d2,d3,d4,true) from hr];simp only[Bool.not_true,cond_false]
   rw[Zb Om Om,hL _ ⟨by show 0<=(i:Int)+1;omega,by show(i:Int)+1<=_;omega,hr2⟩ (by show l.length-((i:Int)+1).toNat<l.length-(i:Int).toNat;omega)];show some (outP (YcM (mkV c0 c1 c2 c3 c4) (l.drop ((i:Int)+1).toNat) ((i:Int)+1) (mkV d0 d1 d2 d3 d4)))=_;rw[show((i:Int)+1).toNat=i+1 by omega]
 ·rw[List.drop_eq_nil_of_le Om];obtain⟨f0,f1,f2,f3,f4,fe,-,k1,-,k3,k4⟩:=h_open he.h Om;injection fe with v0 fe;injection fe with v1 fe;injection fe with v2 fe;injection fe with v3 fe;injection fe with v4 fe;injection v0 with _ v0;injection v1 with v1;injection v2 with _ v2;injection v3 with v3;injection v4 with v4;subst v0 v1 v2 v3 v4;simp only[Ya3.l0,atR,rdQ,Q.ask,Zm (show ¬ (i:Int)<(l.length:Int) by omega),cond_false]
  rw[l4Copy_fv k3 k4 hk];rfl
theorem patchI_t (h:OkV 6 (mkV c0 c1 c2 c3 c4)) (g:Zc Rop lim l) (hk2:Zp 2 k):Ya6.t k c0 c1 c2 c3 c4 l=some (outP (YcA l (mkV c0 c1 c2 c3 c4))):=by
 have hlim:lim=1048576:=rfl;have hb:big=2^64:=rfl;have hl:=g.1;have hk:Zp 1 k:=upn hk2 De;have hk0:Zr k:=up0 hk;obtain⟨f0,f1,f2,f3,f4,fe,-,k1,-,k3,k4⟩:=h_open h.h Om;injection fe with v0 fe;injection fe with v1 fe;injection fe with v2 fe;injection fe with v3 fe;injection fe with v4 fe;injection v0 with _ v0;injection v1 with v1;injection v2 with _ v2;injection v3 with v3;injection v4 with v4;subst v0 v1 v2 v3 v4;unfold Ya6.t Ya6.g Ya6.m YcA;rw[YcB k1 k3 k4 hk,h.val,patchI_fv g hk];cases ho:opsB l<;>simp only[Bool.not_true,Bool.not_false,cond_true,cond_false]
 ·rw[YcD k3 k4 hk];rfl
 have go:=opsB_ok g ho;rw[YcD k3 k4 hk];refine Eq.trans (Zco (λv:Int×Int×BA×Int×LC×LC=>l.length-v.1.toNat) (λv=>0<=v.1/\v.1<=(l.length:Int)/\∃ e3 e4,v.2.2.2.2.1=Za e3/\v.2.2.2.2.2=Za e4/\OkV 6 (mkV v.2.1 v.2.2.1 v.2.2.2.1 e3 e4)) (λv=>some (outP (YcM (mkV c0 c1 c2 c3 c4) (l.drop v.1.toNat) v.1 (mkV v.2.1 v.2.2.1 v.2.2.2.1 (C.immRows v.2.2.2.2.1) (C.immRows v.2.2.2.2.2))))) ?_ k (0,c0,c1,c2,Za c3,Za c4) ⟨by simp,by simp,c3,c4,rfl,rfl,h⟩ (by unfold Zr at hk0;show l.length-(0:Int).toNat<k;omega)) (by show some (outP (YcM (mkV c0 c1 c2 c3 c4) l 0 (mkV c0 c1 c2 (C.immRows (Za c3)) (C.immRows (Za c4)))))=_;rw[Zq,Zq]);rintro⟨n,e0,e1,e2,e3,e4⟩ ⟨n0,n1,d3,d4,w3,w4,he⟩ L hL;replace n0:0<=n:=n0;obtain⟨i,rfl⟩:∃ i:Nat,n=(i:Int):=⟨n.toNat,Om⟩
 replace n1:(i:Int)<=(l.length:Int):=n1;replace he:OkV 6 (mkV e0 e1 e2 d3 d4):=he;replace w3:e3=Za d3:=w3;replace w4:e4=Za d4:=w4;subst w3 w4;simp only[Int.toNat_natCast,Zq]
 by_cases hi:i<l.length
 ·rw[List.drop_eq_getElem_cons hi,<- gR_lt hi];unfold YcM;simp(disch:=omega) only[Ya6.l0,atR,rdQ,Q.ask,Zl (show(i:Int)<(l.length:Int) by omega),cond_true,Yn.row g,Zv,ZJ,ZF,Z6,Zw]
  have hr:=done_t (kind:=gI l (i:Int) 0) (go i hi) he hk2;unfold bd6;have ho:=λr=>opV_ok (kind:=gI l (i:Int) 0) (r:=r) (go i hi) he
  show _=some (outP (match opV (gI l (i:Int) 0) (gL l (i:Int) 1) (gI l (i:Int) 2) (gS l (i:Int) 3) (gI l (i:Int) 4) (gL l (i:Int) 5) (gL l (i:Int) 6) (mkV e0 e1 e2 d3 d4) with|some r=>YcM (mkV c0 c1 c2 c3 c4) (l.drop (i+1)) ((i:Int)+1) r|none=>(mkV c0 c1 c2 c3 c4,(i:Int))));cases hd:opV (gI l (i:Int) 0) (gL l (i:Int) 1) (gI l (i:Int) 2) (gS l (i:Int) 3) (gI l (i:Int) 4) (gL l (i:Int) 5) (gL l (i:Int) 6) (mkV e0 e1 e2 d3 d4) with
  |none=>
   rw[hd] at hr;obtain⟨z0,z1,z2,z3,z4,e⟩:=hr;rw[e];show Yr.f k c0 c1 c2 c3 c4 (λy242 y243 y244 y245 y246=>some (y242,y243,y244,y245,y246,(i:Int)))=_;rw[YcD k3 k4 hk];rfl
  |some r=>
   rw[hd] at hr;have hr2:=ho _ hd;obtain⟨f0,f1,f2,f3,f4,rfl,-⟩:=h_open hr2.h Om;rw[show Ycv.t k e0 e1 e2 (Za d3) (Za d4) (gI l (i:Int) 0) (gL l (i:Int) 1) (gI l (i:Int) 2) (gS l (i:Int) 3) (gI l (i:Int) 4) (gL l (i:Int) 5) (gL l (i:Int) 6)=some (f0,f1,f2,Za f3,Za f4,true) from hr];simp only[Bool.not_true,cond_false]
   rw[Zb Om Om,hL _ ⟨by show 0<=(i:Int)+1;omega,by show(i:Int)+1<=_;omega,f3,f4,rfl,rfl,hr2⟩ (by show l.length-((i:Int)+1).toNat<l.length-(i:Int).toNat;omega)];show some (outP (YcM (mkV c0 c1 c2 c3 c4) (l.drop ((i:Int)+1).toNat) ((i:Int)+1) (mkV f0 f1 f2 (C.immRows (Za f3)) (C.immRows (Za f4)))))=_;rw[show((i:Int)+1).toNat=i+1 by omega,Zq,Zq]
 ·rw[List.drop_eq_nil_of_le Om];simp only[Ya6.l0,atR,rdQ,Q.ask,Zm (show ¬ (i:Int)<(l.length:Int) by omega),cond_false]
  rfl
end
theorem YaB.same {a:LD} (g:Zc RSS lim a):YaB.t k a=Yab.t k a:=by
 unfold YaB.t Yab.t YaB.g Yab.g;congr 1;funext L v;simp only[YaB.l0,atR,rdQ,Q.ask,Yab.l0,atR,rdQ,Q.ask,Ycr]
 refine bif_congr (λh=>?_) (λ_=>rfl);by_cases h0:0<=v/\v<a.length
 ·have hl:v.toNat<a.length:=by omega
  obtain⟨s0,s1,hs,_⟩:=g.2 _ (List.getElem_mem hl);have hr:=λF=>atRow_get (β:=Bool) h0.1 (by rw[<- hs];simp[hl]:a[v.toNat]? = some [.str s0,.str s1]) F
  simp only[hr,Zct,dStr,atEnd]
 ·simp only[atRow_none h0]
theorem Ybp.same {aB:BA} (g0:aB.size<=lim) (g1:Zc RSS lim aA) (g2:Zc RS lim aD) (hk:Zr k):Ybp.t k aB aA aD aE=Y5.t k aB aA aD aE:=by
 unfold Ybp.t Y5.t Ybp.g Y5.g;simp only[Ycr,isCopies_f,l1In_f]
 unfold bd1;simp only[YaB.same g1,YS.same g2]
end Go.Proofs.YtnfogafklciihaaGreat
