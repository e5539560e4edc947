/- Printed,and by hand: the functions that FnExactWorks reaches come to their end; the program's answer as the reference's. -/
import Derived.Test.YtnfogafklciihaaGreatXEWorks1
import Derived.KernelRfl
set_option linter.unusedVariables false
set_option linter.unusedSimpArgs false
set_option autoImplicit true
set_option relaxedAutoImplicit true
set_option maxRecDepth 1000000
set_option maxHeartbeats 8000000
namespace Go.Proofs.YtnfogafklciihaaGreat
open Go Go.T Go.Proofs
theorem iter_ex {V β:Type} {b:(V->Option β)->V->Option β} (m:V->Nat) (Inv:V->Prop) (Q:Option β->Prop) (step:∀ v,Inv v->∀ L,(∀ v',Inv v'->m v'<m v->Q (L v'))->Q (b L v)):∀ {k:Nat} {v:V},Inv v->m v<k->Q (Za1 b k v)
 |0,v,_,h=>absurd h (Nat.not_lt_zero _)
 |k+1,v,hv,h=>step v hv (Za1 b k) λv' hv' hlt=>iter_ex m Inv Q step hv' Om
theorem mem_modify {α:Type} {P:α->Prop} {f:α->α} (hf:∀ x,P x->P (f x)):∀ {xs:List α} {j:Nat},(∀ x∈xs,P x)->∀ x∈xs.modify j f,P x
 |[],j,h,x,hx=>by cases j<;>cases hx
 |y::xs,0,h,x,hx=>by
  simp only[List.modify_zero_cons] at hx;rcases List.mem_cons.mp hx with rfl|hx
  ·exact hf y (h y Sp)
  ·exact h x (by simp[hx])
 |y::xs,j+1,h,x,hx=>by
  simp only[List.modify_succ_cons] at hx;rcases List.mem_cons.mp hx with rfl|hx
  ·exact h x Sp
  ·exact mem_modify hf (λz hz=>h z (by simp[hz])) x hx
theorem mem_snoc {α:Type} {P:α->Prop} {xs:List α} {y:α} (h:∀ x∈xs,P x) (hy:P y):∀ x∈xs++[y],P x:=by
 intro x hx;rcases List.mem_append.mp hx with q|q
 ·exact h x q
 ·simp at q;subst q;exact hy
theorem wf_of {x:Int} (h0 : -9223372036854775808<=x) (h1:x<=9223372036854775807):(Lit.int .i64 x).wf=true:=by
 simp[Lit.wf,IntKind.min,IntKind.max,IntKind.signed,IntKind.bits];omega
theorem big_lv1 {n:Nat} (h:n<=4398046511104):big+n<=lv 1:=by
 have hb:big=2^64:=rfl;have:lv 1=2^65:=rfl;omega
theorem ZaC (n:Int):n=1\/n=2\/n=3\/n=4\/n=5\/((n==1)=false/\(n==2)=false/\(n==3)=false/\(n==4)=false/\(n==5)=false):=by
 simp only[beq_eq_false_iff_ne]
 omega
theorem less_cmp:∀ (a b:List UInt8),decide (Go.Lib.compareBytes a b>=0)=!Op.bytesLess a b
 |[],[]=>rfl
 |[],_::_=>rfl
 |_::_,[]=>rfl
 |x::a,y::b=>by
  have ih:=less_cmp a b;unfold Go.Lib.compareBytes Op.bytesLess;by_cases h1:x<y
  ·simp[h1]
  ·by_cases h2:y<x
   ·have h3:x≠y:=λe=>by subst e;exact h1 h2
    simp[h1,h2,h3]
   ·have h3:x=y:=UInt8.le_antisymm (UInt8.not_lt.1 h2) (UInt8.not_lt.1 h1);subst h3;simp only[h1,if_false,ih]
    simp
theorem cmpS_less (a b:BA):decide (cmpS a b>=0)=!Za3 a b:=by
 unfold cmpS Za3;rw[less_cmp,Go.Lib.toList_data,Go.Lib.toList_data]
theorem delR_deep {pr:List D->Option Bool} {q:List D->Bool}:∀ {e:LD},(∀ r∈e,pr r=some (q r))->delR pr (Za e)=some (Za (e.filter λr=>!q r))
 |[],_=>rfl
 |r::e,h=>by
  simp only[Za,delR,ZcB,h r Sp,delR_deep (e:=e) λx hx=>h x (by simp[hx])]
  rw[List.filter_cons];cases q r<;>rfl
theorem delK_deep {ix:LD->Option Int} {pr:List D->Option Bool} {q:List D->Bool} {d:LD} (hl:d.length<=1048576) (hix:ix d=some (ZaH (λi=>q (gR d (i:Int))) d.length)) (h:∀ r∈d,pr r=some (q r)):delK ix pr (Za d)=some (Za (d.filter λr=>!q r)):=by
 unfold delK;rw[Zq,hix];have hg:∀ i (hi:i<d.length),gR d (i:Int)=d[i]:=λi hi=>by
  have:=gR_at (xs:=d) (v:=(i:Int)) Om Om;rw[Int.toNat_natCast,List.getElem?_eq_getElem hi] at this;injection this with this;exact this.symm
 by_cases hz:ZaH (λi=>q (gR d (i:Int))) d.length<0
 ·obtain⟨h1,h2⟩:=Zc0 hz;simp only[h1,if_true]
  congr 2
  symm
  rw[List.filter_eq_self];intro x hx;obtain⟨i,hi,rfl⟩:=List.mem_iff_getElem.mp hx;have:=h2 i hi;rw[hg i hi] at this;rw[this];rfl
 ·obtain⟨h1,h2,h3,h4⟩:=Zb4 (p:=λi=>q (gR d (i:Int))) (n:=d.length) Om;generalize ZaH (λi=>q (gR d (i:Int))) d.length=z at *
  simp only[show ¬ z = -1 by omega,if_false]
  rw[ZU ⟨Om,by rw[Zd];omega,by rw[Zd];omega⟩];have ht:∀ m,m<=d.length->(Za d).take m=Za (d.take m)/\(Za d).drop m=Za (d.drop m):=λm hm=>by
   have e:Za d=Za (d.take m)++Za (d.drop m):=by rw[<- ZL,List.take_append_drop]
   have l:(Za (d.take m)).length=m:=by rw[Zd,List.length_take];omega
   rw[e];exact⟨List.take_left' l,List.drop_left' l⟩
  rw[(ht z.toNat Om).1,(ht (z.toNat+1) Om).2,delR_deep λr hr=>h r (List.mem_of_mem_drop hr)];simp only[]
  rw[<- ZL];congr 2;have h5:d=d.take z.toNat++(d[z.toNat]::d.drop (z.toNat+1)):=by rw[List.getElem_cons_drop,List.take_append_drop]
  conv=>rhs;rw[h5]
  rw[List.filter_append,List.filter_cons];have h7:q d[z.toNat]=true:=by have:=h2;rwa[hg _ h1] at this
  rw[h7];simp only[Bool.not_true,Bool.false_eq_true,if_false]
  congr 1
  symm
  rw[List.filter_eq_self];intro x hx;obtain⟨i,hi,rfl⟩:=List.mem_iff_getElem.mp hx;rw[List.length_take] at hi;have:=h4 i Om;rw[hg i Om] at this;rw[List.getElem_take,this];rfl
def insD (r:Nat->Int) (x:Nat):List Nat->List Nat
 |[]=>[x]
 |y::l=>if r y<r x then x::y::l else y::insD r x l
def YcP (r:Nat->Int) (l:List Nat):List Nat:=l.foldl (λa x=>insD r x a) []
def AheadD (r:Nat->Int) (i j:Nat):Prop:=r j<r i\/(r i=r j/\i<j)
theorem insD_mem {r:Nat->Int} {x z:Nat}:∀ {l:List Nat},z∈insD r x l↔z=x\/z∈l
 |[]=>by simp[insD]
 |y::l=>by
  unfold insD;split
  ·simp
  ·simp only[List.mem_cons,insD_mem (l:=l)]
   constructor
   ·rintro(h|h|h)<;>simp[h]
   ·rintro(h|h|h)<;>simp[h]
theorem insD_len {r:Nat->Int} {x:Nat}:∀ {l:List Nat},(insD r x l).length=l.length+1
 |[]=>rfl
 |y::l=>by
  unfold insD;split
  ·simp
  ·simp[insD_len (l:=l)]
theorem insD_pair {r:Nat->Int} {x:Nat}:∀ {l:List Nat},l.Pairwise (AheadD r)->(∀ y∈l,y<x)->(insD r x l).Pairwise (AheadD r)
 |[],_,_=>by simp[insD]
 |y::l,h,hx=>by
  obtain⟨h1,h2⟩:=List.pairwise_cons.mp h;unfold insD;split
  ·rename_i hr;refine List.pairwise_cons.mpr ⟨λz hz=>?_,h⟩;rcases List.mem_cons.mp hz with rfl|hz
   ·exact .inl hr
   ·rcases h1 z hz with q|q
    ·exact .inl Om
    ·exact .inl Om
  ·rename_i hr;refine List.pairwise_cons.mpr ⟨λz hz=>?_,insD_pair h2 λz hz=>hx z (by simp[hz])⟩;rcases insD_mem.mp hz with rfl|hz
   ·have:=hx y Sp;by_cases he:r y=r z
    ·exact .inr ⟨he,this⟩
    ·exact .inl Om
   ·exact h1 z hz
theorem foldD {r:Nat->Int}:∀ (l a:List Nat),a.Pairwise (AheadD r)->l.Pairwise (·<·)->(∀ y∈a,∀ x∈l,y<x)->
  (l.foldl (λa x=>insD r x a) a).Pairwise (AheadD r)/\(∀ z,z∈l.foldl (λa x=>insD r x a) a↔z∈a\/z∈l)/\(l.foldl (λa x=>insD r x a) a).length=a.length+l.length
 |[],a,h,_,_=>⟨h,by simp,by simp⟩
 |x::l,a,h,hl,hx=>by
  obtain⟨h1,h2⟩:=List.pairwise_cons.mp hl;obtain⟨q1,q2,q3⟩:=foldD l (insD r x a) (insD_pair h λy hy=>hx y hy x Sp) h2 (λy hy z hz=>by
   rcases insD_mem.mp hy with rfl|hy
   ·exact h1 z hz
   ·exact hx y hy z (by simp[hz]))
  refine⟨q1,λz=>?_,by rw[List.foldl_cons,q3,insD_len,List.length_cons];omega⟩
  rw[List.foldl_cons,q2,insD_mem,List.mem_cons];constructor
  ·rintro((h|h)|h)<;>simp[h]
  ·rintro(h|h|h)<;>simp[h]
theorem isortD_facts {r:Nat->Int} {l:List Nat} (hl:l.Pairwise (·<·)):(YcP r l).Pairwise (AheadD r)/\(∀ z,z∈YcP r l↔z∈l)/\(YcP r l).length=l.length:=by
 obtain⟨h1,h2,h3⟩:=foldD (r:=r) l [] Sp hl Sp;exact⟨h1,λz=>by rw[YcP,h2];simp,by rw[YcP,h3];simp⟩
theorem insD_map {r:Nat->Int} {f:Nat->Nat} {x:Nat}:∀ {l:List Nat},insD r (f x) (l.map f)=(insD (λi=>r (f i)) x l).map f
 |[]=>rfl
 |y::l=>by
  simp only[List.map_cons,insD]
  split
  ·rfl
  ·rw[insD_map (l:=l)];rfl
theorem isortD_map {r:Nat->Int} {f:Nat->Nat} {l:List Nat}:YcP r (l.map f)=(YcP (λi=>r (f i)) l).map f:=by
 have:∀ (l a:List Nat),(l.map f).foldl (λa x=>insD r x a) (a.map f)=(l.foldl (λa x=>insD (λi=>r (f i)) x a) a).map f:=by
  intro l;induction l with
  |nil=>intro a;rfl
  |cons x l ih=>intro a;simp only[List.map_cons,List.foldl_cons,insD_map,ih]
 exact this l []
def bestD (r:Nat->Int):List Nat->Option Nat->Option Nat
 |[],b=>b
 |i::l,none=>bestD r l (some i)
 |i::l,some b=>if r b<r i then bestD r l (some i) else bestD r l (some b)
theorem bestD_some {r:Nat->Int}:∀ {l:List Nat} {b:Nat},(∀ i∈l,b<i)->l.Pairwise (·<·)->∃ c,bestD r l (some b)=some c/\(c=b\/c∈l)/\(c=b\/AheadD r c b)/\∀ i∈l,i=c\/AheadD r c i
 |[],b,_,_=>⟨b,rfl,.inl rfl,.inl rfl,by simp⟩
 |i::l,b,h,hl=>by
  obtain⟨h1,h2⟩:=List.pairwise_cons.mp hl;unfold bestD;split
  ·rename_i hr;obtain⟨c,q1,q2,q3,q4⟩:=bestD_some (r:=r) (b:=i) h1 h2;refine⟨c,q1,.inr (by rcases q2 with h|h<;>simp[h]),.inr ?_,λj hj=>?_⟩
   ·rcases q3 with rfl|q3
    ·exact .inl hr
    ·rcases q3 with q|q
     ·exact .inl Om
     ·exact .inl Om
   ·rcases List.mem_cons.mp hj with rfl|hj
    ·rcases q3 with rfl|q3
     ·exact .inl rfl
     ·exact .inr q3
    ·exact q4 j hj
  ·rename_i hr;have hb:=h i Sp;obtain⟨c,q1,q2,q3,q4⟩:=bestD_some (r:=r) (b:=b) (λj hj=>h j (by simp[hj])) h2;refine⟨c,q1,by rcases q2 with h|h<;>simp[h],q3,λj hj=>?_⟩
   rcases List.mem_cons.mp hj with rfl|hj
   ·have hbi:AheadD r b j:=by
     by_cases he:r b=r j
     ·exact .inr ⟨he,hb⟩
     ·exact .inl Om
    rcases q3 with rfl|q3
    ·exact .inr hbi
    ·right;rcases q3 with q|q<;>rcases hbi with p|p
     ·exact .inl Om
     ·exact .inl Om
     ·exact .inl Om
     ·exact .inr ⟨Om,Om⟩
   ·exact q4 j hj
theorem best_next {r:Nat->Int} {l:List Nat} (hl:l.Pairwise (·<·)) (h0:∀ i∈l,0<=r i) {t:Nat} (ht:t<l.length) {r':Nat->Int}
  (hr:∀ i∈l,r' i=if i∈(YcP r l).take t then -1 else r i):bestD r' l none=(YcP r l)[t]?:=by
 obtain⟨s1,s2,s3⟩:=isortD_facts (r:=r) hl;have hT:t<(YcP r l).length:=by omega
 generalize YcP r l=S at s1 s2 s3 hr hT⊢;rw[List.getElem?_eq_getElem hT];cases l with
 |nil=>simp at ht
 |cons a l=>
  obtain⟨h1,h2⟩:=List.pairwise_cons.mp hl;obtain⟨c,q1,q2,q3,q4⟩:=bestD_some (r:=r') h1 h2;unfold bestD;rw[q1];congr 1;have hnd:S.Nodup:=s1.imp λ{i j} h e=>by subst e;rcases h with h|h<;>omega
  have hSt:S[t]∉S.take t:=λh=>by
   obtain⟨i,hi,he⟩:=List.mem_take_iff_getElem.mp h;have:=(List.getElem_inj hnd).mp he;omega
  have hm:S[t]∈a::l:=(s2 _).mp (List.getElem_mem hT);have hrt:r' S[t]=r S[t]:=by rw[hr _ hm,if_neg hSt]
  have h0t:=h0 _ hm
  -- c is in the list,and nothing is ahead of it
  have hcm:c∈a::l:=by rcases q2 with h|h<;>simp[h]
  have hall:∀ i∈a::l,i=c\/AheadD r' c i:=λi hi=>by
   rcases List.mem_cons.mp hi with rfl|hi
   ·rcases q3 with rfl|q
    ·exact .inl rfl
    ·exact .inr q
   ·exact q4 i hi
  rcases hall _ hm with h|h
  ·exact h.symm
  ·exfalso;have hcn:c∉S.take t:=λhc=>by
    have:=hr c hcm;rw[if_pos hc] at this;rcases h with h|h<;>omega
   have hcr:r' c=r c:=by rw[hr c hcm,if_neg hcn]
   obtain⟨j,hj,rfl⟩:=List.mem_iff_getElem.mp ((s2 c).mpr hcm);have hjt:t<j:=by
    rcases Nat.lt_trichotomy j t with q|q|q
    ·exact absurd (List.mem_take_iff_getElem.mpr ⟨j,Om,rfl⟩) hcn
    ·subst q;rcases h with h|h<;>omega
    ·exact q
   have:=List.pairwise_iff_getElem.mp s1 t j hT hj hjt;rw[AheadD,hrt,hcr] at h;rcases this with p|p<;>rcases h with q|q<;>omega
section
variable (w c o:Nat->Int) (L:Nat) (n:Int)
def opB (i:Nat):Bool:=decide (0<w i)&&decide (o i<c i)
def opL:List Nat:=(List.range L).filter (opB w c o)
def smL (l:List Nat):Int:=(l.map w).sum
abbrev smD:Int:=smL w (opL w c o L)
def bsD (s:Int) (i:Nat):Int:=Int.tdiv (n*w i) s
def rsD (s:Int) (i:Nat):Int:=Int.tmod (n*w i) s
def lfD (s:Int) (l:List Nat):Int:=n-(l.map (bsD w n s)).sum
def chD (s:Int) (l:List Nat):List Nat:=(YcP (rsD w n s) l).take (lfD w n s l).toNat
def xD (s:Int) (l:List Nat) (i:Nat):Int:=bsD w n s i+if i∈chD w n s l then 1 else 0
def clD (s:Int) (l:List Nat) (i:Nat):Int:=if c i-o i<xD w n s l i then c i-o i else xD w n s l i
end
theorem sum_le {f:Nat->Int} {b:Int}:∀ {l:List Nat},(∀ i∈l,0<=f i/\f i<=b)->0<=(l.map f).sum/\(l.map f).sum<=b*l.length
 |[],_=>by simp
 |x::l,h=>by
  obtain⟨q1,q2⟩:=sum_le (f:=f) (b:=b) (l:=l) λi hi=>h i (by simp[hi])
  obtain⟨p1,p2⟩:=h x Sp;simp only[List.map_cons,List.sum_cons,List.length_cons]
  have:b*((l.length+1:Nat):Int)=b*(l.length:Int)+b:=by rw[show((l.length+1:Nat):Int)=(l.length:Int)+1 by omega,Int.mul_add,Int.mul_one]
  omega
theorem sum_split {w:Nat->Int} {n s:Int} (hs:0<s) (hn:0<=n):∀ {l:List Nat},(∀ i∈l,0<=w i)->n*(l.map w).sum=s*(l.map (bsD w n s)).sum+(l.map (rsD w n s)).sum
 |[],_=>by simp
 |x::l,h=>by
  have ih:=sum_split (w:=w) hs hn (l:=l) λi hi=>h i (by simp[hi])
  have h1:s*bsD w n s x+rsD w n s x=n*w x:=Int.mul_tdiv_add_tmod (n*w x) s;simp only[List.map_cons,List.sum_cons]
  rw[Int.mul_add,Int.mul_add,ih,<- h1];omega
theorem rsD_bound {w:Nat->Int} {n s:Int} (hs:0<s) (hn:0<=n) {i:Nat} (h:0<=w i):0<=rsD w n s i/\rsD w n s i<s/\0<=bsD w n s i:=by
 have h0:0<=n*w i:=Int.mul_nonneg hn h;exact⟨Int.tmod_nonneg _ h0,Int.tmod_lt_of_pos _ hs,Int.tdiv_nonneg h0 Om⟩
theorem lfD_bound {w:Nat->Int} {n:Int} {l:List Nat} (hn:0<=n) (hw:∀ i∈l,0<w i) (hl:l≠[]):0<smL w l/\0<=lfD w n (smL w l) l/\lfD w n (smL w l) l<l.length/\0<=(l.map (bsD w n (smL w l))).sum:=by
 have hs:0<smL w l:=by
  cases l with
  |nil=>exact absurd rfl hl
  |cons x l=>
   unfold smL;have h1:=hw x Sp;have h2:0<=(l.map w).sum:=by
    have:∀ {l:List Nat},(∀ i∈l,0<w i)->0<=(l.map w).sum:=λ{l}=>by
     induction l with
     |nil=>simp
     |cons y l ih=>
      intro h;have:=h y Sp;have:=ih λi hi=>h i (by simp[hi])
      simp only[List.map_cons,List.sum_cons]
      omega
    exact this λi hi=>hw i (by simp[hi])
   simp only[List.map_cons,List.sum_cons]
   omega
 have hsp:=sum_split (w:=w) (n:=n) hs hn (l:=l) λi hi=>Int.le_of_lt (hw i hi)
 have hr:=sum_le (f:=rsD w n (smL w l)) (b:=smL w l-1) (l:=l) λi hi=>by
  obtain⟨p1,p2,_⟩:=rsD_bound (w:=w) (n:=n) hs hn (i:=i) (Int.le_of_lt (hw i hi));omega
 change n*smL w l=_ at hsp;have hb0:0<=(l.map (bsD w n (smL w l))).sum:=by
  have:∀ {l':List Nat} {s:Int},0<s->(∀ i∈l',0<w i)->0<=(l'.map (bsD w n s)).sum:=λ{l' s} hs=>by
   induction l' with
   |nil=>simp
   |cons y l ih=>
    intro h;obtain⟨_,_,p⟩:=rsD_bound (w:=w) (n:=n) hs hn (i:=y) (Int.le_of_lt (h y Sp));have:=ih λi hi=>h i (by simp[hi])
    simp only[List.map_cons,List.sum_cons]
    omega
  exact this hs hw
 generalize(l.map (rsD w n (smL w l))).sum=R at hsp hr;have hlf:smL w l*lfD w n (smL w l) l=R:=by
  unfold lfD;rw[Int.mul_sub,Int.mul_comm _ n,hsp];omega
 refine⟨hs,?_,?_,hb0⟩
 ·generalize lfD w n (smL w l) l=f at hlf;apply Int.not_lt.mp;intro h;have:=Int.mul_neg_of_pos_of_neg hs h;omega
 ·generalize lfD w n (smL w l) l=f at hlf;have h1:smL w l*f<smL w l*l.length:=by
   rw[hlf];have:(smL w l-1)*(l.length:Int)=smL w l*l.length-l.length:=by rw[Int.sub_mul,Int.one_mul]
   have h2:0<l.length:=List.length_pos_iff.mpr hl;omega
  exact Int.lt_of_mul_lt_mul_left h1 (Int.le_of_lt hs)
theorem opL_facts {w c o:Nat->Int} {L:Nat}:(opL w c o L).Pairwise (·<·)/\∀ i,i∈opL w c o L↔i<L/\0<w i/\o i<c i:=by
 refine⟨List.Pairwise.filter _ List.pairwise_lt_range,λi=>?_⟩
 simp[opL,opB]
theorem xD_sum {w:Nat->Int} {n:Int} {l:List Nat} (hp:l.Pairwise (·<·)) (hn:0<=n) (hw:∀ i∈l,0<w i) (hl:l≠[]):(l.map (xD w n (smL w l) l)).sum=n:=by
 obtain⟨h1,h2,h3,_⟩:=lfD_bound hn hw hl;generalize hs:smL w l=s at h1 h2 h3;obtain⟨s1,s2,s3⟩:=isortD_facts (r:=rsD w n s) hp;have hnd:(chD w n s l).Nodup:=by
  have:(YcP (rsD w n s) l).Nodup:=s1.imp λ{i j} h e=>by subst e;rcases h with h|h<;>omega
  exact this.sublist (List.take_sublist _ _)
 have hlen:((chD w n s l).length:Int)=lfD w n s l:=by
  unfold chD;rw[List.length_take,s3];omega
 have hsub:∀ i∈chD w n s l,i∈l:=λi hi=>(s2 i).mp (List.mem_of_mem_take hi)
 have hcount:∀ (l:List Nat),l.Pairwise (·<·)->∀ (ch:List Nat),ch.Nodup->(∀ i∈ch,i∈l)->(l.map λi=>if i∈ch then(1:Int) else 0).sum=ch.length:=by
  intro l;induction l with
  |nil=>
   intro _ ch _ h;cases ch with
   |nil=>rfl
   |cons x ch=>exact absurd (h x Sp) Sp
  |cons x l ih=>
   intro hp ch hnd hsub;obtain⟨p1,p2⟩:=List.pairwise_cons.mp hp;simp only[List.map_cons,List.sum_cons]
   have hx:x∉l:=λh=>by have:=p1 x h;omega
   have e:(l.map λi=>if i∈ch then(1:Int) else 0)=l.map λi=>if i∈ch.erase x then(1:Int) else 0:=List.map_congr_left λi hi=>by
    have:i≠x:=λh=>hx (h▸hi)
    simp only[List.mem_erase_of_ne this]
   rw[e,ih p2 (ch.erase x) (hnd.erase x) λi hi=>by
    have hne:i≠x:=λh=>by subst h;exact(List.Nodup.not_mem_erase hnd) hi
    rcases List.mem_cons.mp (hsub i (List.mem_of_mem_erase hi)) with h|h
    ·exact absurd h hne
    ·exact h]
   by_cases hm:x∈ch
   ·rw[if_pos hm,List.length_erase_of_mem hm];have:=List.length_pos_of_mem hm;omega
   ·rw[if_neg hm,List.erase_of_not_mem hm];omega
 have hadd:∀ (l:List Nat) (f g:Nat->Int),(l.map λi=>f i+g i).sum=(l.map f).sum+(l.map g).sum:=by
  intro l f g;induction l with
  |nil=>rfl
  |cons x l ih=>simp only[List.map_cons,List.sum_cons,ih];omega
 have:l.map (xD w n s l)=l.map λi=>bsD w n s i+(if i∈chD w n s l then(1:Int) else 0):=rfl
 rw[this,hadd,hcount l hp _ hnd hsub,hlen];unfold lfD;omega
theorem clD_sum {w c o:Nat->Int} {n:Int} {l:List Nat} (hp:l.Pairwise (·<·)) (hn:0<n) (hw:∀ i∈l,0<w i) (hc:∀ i∈l,o i<c i) (hl:l≠[]):
  (∀ i∈l,0<=clD w c o n (smL w l) l i/\clD w c o n (smL w l) l i<=c i-o i/\0<=xD w n (smL w l) l i)/\0<(l.map (clD w c o n (smL w l) l)).sum/\(l.map (clD w c o n (smL w l) l)).sum<=n:=by
 obtain⟨h1,h2,h3,_⟩:=lfD_bound (Int.le_of_lt hn) hw hl;have hx:=xD_sum hp (Int.le_of_lt hn) hw hl;generalize smL w l=s at *
 have hx0:∀ i∈l,0<=xD w n s l i:=λi hi=>by
  obtain⟨_,_,p⟩:=rsD_bound (w:=w) (n:=n) h1 (Int.le_of_lt hn) (i:=i) (Int.le_of_lt (hw i hi));unfold xD;split<;>omega
 have hcl:∀ i∈l,0<=clD w c o n s l i/\clD w c o n s l i<=c i-o i/\clD w c o n s l i<=xD w n s l i/\(0<xD w n s l i->0<clD w c o n s l i):=λi hi=>by
  have:=hx0 i hi;have:=hc i hi;unfold clD;split<;>omega
 refine⟨λi hi=>⟨(hcl i hi).1,(hcl i hi).2.1,hx0 i hi⟩,?_⟩
 have gen:∀ l':List Nat,(∀ i∈l',i∈l)->0<=(l'.map (clD w c o n s l)).sum/\(l'.map (clD w c o n s l)).sum<=(l'.map (xD w n s l)).sum/\(0<(l'.map (xD w n s l)).sum->0<(l'.map (clD w c o n s l)).sum):=by
  intro l';induction l' with
  |nil=>intro _;simp
  |cons y l' ih=>
   intro h;obtain⟨q1,q2,q3⟩:=ih λi hi=>h i (by simp[hi])
   obtain⟨p1,_,p2,p3⟩:=hcl y (h y Sp);have:=hx0 y (h y Sp);simp only[List.map_cons,List.sum_cons]
   refine⟨Om,Om,λh=>?_⟩
   by_cases h0:0<xD w n s l y
   ·have:=p3 h0;omega
   ·have:=q3 Om;omega
 have:=gen l λi hi=>hi
 rw[hx] at this;exact⟨this.2.2 hn,this.2.1⟩
def rowF (L:Nat) (g:Nat->C):LC:=(List.range L).map λj=>[g j]
def rowD (L:Nat) (g:Nat->D):LD:=(List.range L).map λj=>[g j]
abbrev cI (o:Nat->Int):Nat->C:=λj=>.d (.int .i64 (o j))
abbrev cB (o:Nat->Bool):Nat->C:=λj=>.d (.bool (o j))
theorem rowF_len (L:Nat) (g:Nat->C):(rowF L g).length=L:=by simp[rowF]
theorem rowD_len (L:Nat) (g:Nat->D):(rowD L g).length=L:=by simp[rowD]
theorem rowF_ext {L:Nat} {g h:Nat->C} (e:∀ j,j<L->g j=h j):rowF L g=rowF L h:=List.map_congr_left λj hj=>by rw[e j (List.mem_range.mp hj)]
theorem rowF_at {L:Nat} {g:Nat->C} {i:Nat} (h:i<L) {β:Type} (F:List C->Option β):Za7 (rowF L g) i F=F [g i]:=by
 unfold Za7 rowF;rw[List.getElem?_map,List.getElem?_range h];rfl
theorem rowF_mod {L:Nat} {g:Nat->C} {i:Nat} (h:i<L) (x:C):((rowF L g).modify i λc=>ZE c 0 [x])=rowF L (λj=>if j=i then x else g j):=by
 refine List.ext_getElem (by simp[rowF]) λj h1 h2=>?_
 rw[List.getElem_modify];simp only[rowF,List.getElem_map,List.getElem_range]
 by_cases hj:i=j
 ·subst hj;simp[ZE]
 ·rw[if_neg hj,if_neg (λh=>hj h.symm)]
theorem rowF_rep (L:Nat) (x:C):List.replicate L [x]=rowF L (λ_=>x):=by
 refine List.ext_getElem (by simp[rowF]) λj h1 h2=>?_
 simp[rowF]
theorem immRows_map:∀ (l:LC),C.immRows l=l.map C.immCells
 |[]=>rfl
 |x::l=>by simp only[C.immRows,List.map_cons,immRows_map l]
theorem imm_rowF (L:Nat) (g:Nat->C):C.immRows (rowF L g)=rowD L (λj=>(g j).imm):=by
 rw[immRows_map,rowF,rowD,List.map_map];rfl
theorem rowD_at {L:Nat} {g:Nat->D} {i:Nat} (h:i<L) {β:Type} (F:List D->Option β):Zam (rowD L g) (i:Int) F=F [g i]:=by
 unfold Zam;rw[if_pos Om,Int.toNat_natCast];unfold Za7 rowD;rw[List.getElem?_map,List.getElem?_range h];rfl
theorem deep_rowI {L:Nat} {o:Nat->Int}:Za (rowD L (λj=>.int .i64 (o j)))=rowF L (cI o):=by
 have:∀ l:List Nat,Za (l.map λj=>[D.int .i64 (o j)])=l.map λj=>[C.d (.int .i64 (o j))]:=λl=>by
  induction l with
  |nil=>rfl
  |cons x l ih=>simp only[List.map_cons,Za,Zu,Zag,ih]
 exact this _
def upN (l:List Nat):LC:=l.map λ(x:Nat)=>[.d (.int .i64 (x:Int))]
def ofN (l:List Nat):LD:=l.map λ(x:Nat)=>[.int .i64 (x:Int)]
theorem upN_len (l:List Nat):(upN l).length=l.length:=by simp[upN]
theorem ofN_len (l:List Nat):(ofN l).length=l.length:=by simp[ofN]
theorem upN_app (a b:List Nat):upN a++upN b=upN (a++b):=by simp[upN]
theorem imm_upN (l:List Nat):C.immRows (upN l)=ofN l:=by
 rw[immRows_map,upN,ofN,List.map_map];rfl
theorem upN_at {l:List Nat} {i:Nat} (h:i<l.length) {β:Type} (F:List C->Option β):Za7 (upN l) i F=F [.d (.int .i64 (l[i]:Int))]:=by simp[Za7,upN,h]
theorem ofN_at {l:List Nat} {i:Nat} (h:i<l.length) {β:Type} (F:List D->Option β):Zam (ofN l) (i:Int) F=F [.int .i64 (l[i]:Int)]:=by
 unfold Zam;rw[if_pos Om,Int.toNat_natCast];simp[Za7,ofN,h]
theorem range_filter_succ (p:Nat->Bool) (i:Nat):(List.range (i+1)).filter p=(List.range i).filter p++(if p i then[i] else[]):=by
 rw[List.range_succ,List.filter_append];simp[List.filter_cons]
section
variable {α:Type} (less same:α->α->Bool)
structure Ordered:Prop where
 irr:∀ x y,same x y=true->less x y=false
 tri:∀ x y,less x y=false->same x y=false->less y x=true
 asym:∀ x y,less x y=true->less y x=false
 trans:∀ x y z,less x y=true->less y z=true->less x z=true
 cong:∀ x y z,same x y=true->less y z=true->less x z=true
 sym:∀ x y,same x y=true->same y x=true
def withF (o o':α):Bool->List α->List α
 |put,[]=>if put then[] else[o']
 |put,x::xs=>(if !put&&!less x o then[o'] else[])++((if same x o then[] else[x])++withF o o' (put||!less x o) xs)
def lbF (o:α) (l:List α):Nat:=(l.takeWhile λx=>less x o).length
def hitF (o:α) (l:List α):Bool:=match l[lbF less o l]? with|some x=>same x o|none=>false
end
section
variable {α:Type} {less same:α->α->Bool} (H:Ordered less same) {o o':α}
include H
theorem withF_past:∀ {l:List α},(∀ x∈l,less o x=true)->withF less same o o' true l=l
 |[],_=>rfl
 |x::xs,h=>by
  have hx:=h x Sp;have hs:same x o=false:=by
   cases q:same x o
   ·rfl
   ·have:=H.irr o x (H.sym _ _ q);rw[hx] at this;cases this
  unfold withF;rw[hs,Bool.true_or,withF_past λy hy=>h y (by simp[hy])];rfl
theorem withF_eq:∀ {l:List α},l.Pairwise (λx y=>less x y=true)->withF less same o o' false l=l.take (lbF less o l)++o'::l.drop (lbF less o l+if hitF less same o l then 1 else 0)
 |[],_=>rfl
 |x::xs,h=>by
  obtain⟨h1,h2⟩:=List.pairwise_cons.mp h;cases hx:less x o with
  |true=>
   have hs:same x o=false:=by
    cases q:same x o
    ·rfl
    ·have:=H.irr _ _ q;rw[hx] at this;cases this
   have e:lbF less o (x::xs)=lbF less o xs+1:=by simp[lbF,List.takeWhile_cons,hx]
   have e2:hitF less same o (x::xs)=hitF less same o xs:=by unfold hitF;rw[e];rfl
   unfold withF;rw[hx,hs];show[x]++withF less same o o' false xs=_;rw[withF_eq h2,e,e2];simp only[List.nil_append,List.take_succ_cons,List.cons_append]
   rw[show lbF less o xs+1+(if hitF less same o xs=true then 1 else 0)=(lbF less o xs+if hitF less same o xs=true then 1 else 0)+1 by omega,List.drop_succ_cons]
  |false=>
   have e:lbF less o (x::xs)=0:=by simp[lbF,List.takeWhile_cons,hx]
   have e2:hitF less same o (x::xs)=same x o:=by unfold hitF;rw[e];rfl
   have hp:∀ y∈xs,less o y=true:=λy hy=>by
    cases hs:same x o with
    |true=>exact H.cong _ _ _ (H.sym _ _ hs) (h1 y hy)
    |false=>exact H.trans _ _ _ (H.tri _ _ hx hs) (h1 y hy)
   unfold withF;rw[hx,Bool.not_false,Bool.false_or,withF_past H hp,e,e2];cases same x o<;>simp
omit H in
theorem lbF_below:∀ {l:List α} {i:Nat} (hi:i<l.length),i<lbF less o l->less l[i] o=true
 |x::xs,i,hi,h=>by
  cases hx:less x o with
  |false=>simp[lbF,List.takeWhile_cons,hx] at h
  |true=>
   cases i with
   |zero=>exact hx
   |succ i=>exact lbF_below (l:=xs) (by simpa using hi) (by simpa[lbF,List.takeWhile_cons,hx] using h)
theorem lbF_above:∀ {l:List α} (_:l.Pairwise (λx y=>less x y=true)) {i:Nat} (hi:i<l.length),lbF less o l<=i->less l[i] o=false
 |x::xs,hp,i,hi,h=>by
  obtain⟨h1,h2⟩:=List.pairwise_cons.mp hp;cases hx:less x o with
  |true=>
   cases i with
   |zero=>simp[lbF,List.takeWhile_cons,hx] at h
   |succ i=>exact lbF_above h2 (by simpa using hi) (by simpa[lbF,List.takeWhile_cons,hx] using h)
  |false=>
   cases i with
   |zero=>exact hx
   |succ i=>
    have hxi:=h1 (xs[i]'(by simpa using hi)) (List.getElem_mem _);show less (xs[i]'(by simpa using hi)) o=false;cases q:less (xs[i]'(by simpa using hi)) o with
    |false=>rfl
    |true=>
     have:=H.trans _ _ _ hxi q;rw[hx] at this;cases this
end
theorem bl_step (x y:UInt8) (xs ys:List UInt8):Op.bytesLess (x::xs) (y::ys)=true↔x.toNat<y.toNat\/(x=y/\Op.bytesLess xs ys=true):=by
 rw[show Op.bytesLess (x::xs) (y::ys)=(decide (x<y)||(x==y&&Op.bytesLess xs ys)) by simp only[Op.bytesLess]];by_cases h:x<y
 ·have:x.toNat<y.toNat:=UInt8.lt_iff_toNat_lt.mp h;simp[h,this]
 ·have hn:¬ x.toNat<y.toNat:=λq=>h (UInt8.lt_iff_toNat_lt.mpr q)
  by_cases e:x=y
  ·subst e;simp[h]
  ·have h2:y<x:=by
    refine UInt8.lt_iff_toNat_lt.mpr ?_;have:x.toNat≠y.toNat:=λq=>e (UInt8.toNat_inj.mp q)
    omega
   simp[h,hn,e,h2]
theorem bl_trans:∀ {x y z:List UInt8},Op.bytesLess x y=true->Op.bytesLess y z=true->Op.bytesLess x z=true
 |[],[],z,h,_=>by simp[Op.bytesLess] at h
 |[],_::_,[],_,h=>by simp[Op.bytesLess] at h
 |[],_::_,_::_,_,_=>by simp[Op.bytesLess]
 |_::_,[],_,h,_=>by simp[Op.bytesLess] at h
 |_::_,_::_,[],_,h=>by simp[Op.bytesLess] at h
 |x::xs,y::ys,z::zs,h1,h2=>by
  rw[bl_step] at h1 h2⊢;rcases h1 with h1|⟨rfl,h1⟩<;>rcases h2 with h2|⟨rfl,h2⟩
  ·exact .inl Om
  ·exact .inl h1
  ·exact .inl h2
  ·exact .inr ⟨rfl,bl_trans h1 h2⟩
theorem bl_irr:∀ x:List UInt8,Op.bytesLess x x=false
 |[]=>by simp[Op.bytesLess]
 |x::xs=>by
  cases h:Op.bytesLess (x::xs) (x::xs)
  ·rfl
  ·rw[bl_step] at h;rcases h with h|⟨_,h⟩
   ·omega
   ·rw[bl_irr xs] at h;cases h
theorem bl_tri:∀ {x y:List UInt8},Op.bytesLess x y=false->x≠y->Op.bytesLess y x=true
 |[],[],_,h=>absurd rfl h
 |[],_::_,h,_=>by simp[Op.bytesLess] at h
 |_::_,[],_,_=>by simp[Op.bytesLess]
 |x::xs,y::ys,h,hne=>by
  rw[bl_step];have h':¬ (x.toNat<y.toNat\/(x=y/\Op.bytesLess xs ys=true)):=λq=>by rw[(bl_step x y xs ys).mpr q] at h;cases h
  by_cases e:x=y
  ·subst e;refine .inr ⟨rfl,bl_tri ?_ λq=>hne (by rw[q])⟩;cases q:Op.bytesLess xs ys
   ·rfl
   ·exact absurd (.inr ⟨rfl,q⟩) h'
  ·have:x.toNat≠y.toNat:=λq=>e (UInt8.toNat_inj.mp q)
   exact .inl (by have:=λq=>h' (.inl q);omega)
theorem strEq_iff2 {a b:BA}:ZP a b=true↔a.toList=b.toList:=by unfold ZP;exact beq_iff_eq
theorem halfF {x:Int} (h0:0<=x) (h1:x<4611686018427387904):Int.fdiv (IntKind.wrap .u64 (IntKind.wrap .i64 x)) (2^(min (1:Int).toNat 64))=x/2:=by
 rw[Zb Om Om];have:IntKind.wrap .u64 x=x:=by simp only[IntKind.wrap,IntKind.signed,IntKind.bits];simp;omega
 rw[this,show(min (1:Int).toNat 64)=1 from rfl,Int.pow_one,Int.fdiv_eq_ediv_of_nonneg _ De]
theorem withF_nil {α:Type} {less same:α->α->Bool} {o o':α} {put:Bool}:withF less same o o' put []=if put then[] else[o']:=by unfold withF;rfl
theorem gR_lt {l:LD} {i:Nat} (hi:i<l.length):gR l (i:Int)=l[i]:=by
 unfold gR;rw[Int.toNat_natCast,List.getD_eq_getElem?_getD,List.getElem?_eq_getElem hi];rfl
theorem YcK:∀ r:List D,(Zu r).length=r.length
 |[]=>by simp only[Zu,List.length_nil]
 |d::r=>by simp only[Zu,List.length_cons,YcK r]
theorem deepRows_mod {f:List C->List C} {o:List D}:∀ {l:LD} {i:Nat},i<l.length->(∀ r,l[i]? = some r->f (Zu r)=Zu o)->(Za l).modify i f=Za (l.take i++o::l.drop (i+1))
 |[],i,h,_=>absurd h Sp
 |r::xs,0,_,h2=>by
  simp only[Za,List.modify_zero_cons,List.take_zero,List.nil_append,List.drop_succ_cons,List.drop_zero]
  rw[h2 r rfl]
 |r::xs,i+1,h1,h2=>by
  simp only[Za,List.modify_succ_cons,List.take_succ_cons,List.cons_append,List.drop_succ_cons]
  rw[deepRows_mod (by simpa using h1) λx hx=>h2 x (by simpa using hx)]
theorem YcG:∀ {l:LD} {i:Nat},(Za l).take i=Za (l.take i)
 |[],i=>by simp only[Za,List.take_nil]
 |_::_,0=>by simp only[Za,List.take_zero]
 |r::xs,i+1=>by simp only[Za,List.take_succ_cons,YcG]
theorem YcH:∀ {l:LD} {i:Nat},(Za l).drop i=Za (l.drop i)
 |[],i=>by simp only[Za,List.drop_nil]
 |_::_,0=>by simp only[Za,List.drop_zero]
 |r::xs,i+1=>by simp only[Za,List.drop_succ_cons,YcH]
theorem splice_full {α:Type} {c n:List α} (h:c.length=n.length):ZE c 0 n=n:=by
 unfold ZE;rw[List.take_zero,List.nil_append,Nat.zero_add,List.drop_eq_nil_of_le Om,List.append_nil]
def ltK (key:Nat->Int) (i j:Nat):Prop:=key i<key j\/(key i=key j/\i<j)
theorem ltK_tr {key:Nat->Int} {i j l:Nat} (h:ltK key i j) (h':ltK key j l):ltK key i l:=by
 unfold ltK at *;omega
theorem ltK_as {key:Nat->Int} {i j:Nat} (h:ltK key i j):¬ ltK key j i:=by
 unfold ltK at *;omega
theorem st_uniq {key:Nat->Int}:∀ {L M:List Nat},L.Pairwise (ltK key)->M.Pairwise (ltK key)->(∀ x,x∈L↔x∈M)->L=M
 |[],[],_,_,_=>rfl
 |[],y::M,_,_,h=>by have:=(h y).mpr Sp;simp at this
 |x::L,[],_,_,h=>by have:=(h x).mp Sp;simp at this
 |x::L,y::M,hL,hM,h=>by
  obtain⟨hx,hL2⟩:=List.pairwise_cons.mp hL;obtain⟨hy,hM2⟩:=List.pairwise_cons.mp hM;have e:x=y:=by
   rcases List.mem_cons.mp ((h x).mp Sp) with e|e
   ·exact e
   ·rcases List.mem_cons.mp ((h y).mpr Sp) with e2|e2
    ·exact e2.symm
    ·exact absurd (hy x e) (ltK_as (hx y e2))
  subst e;refine congrArg _ (st_uniq hL2 hM2 λz=>⟨λhz=>?_,λhz=>?_⟩)
  ·rcases List.mem_cons.mp ((h z).mp (by simp[hz])) with e|e
   ·subst e;exact absurd (hx z hz) (λq=>ltK_as q q)
   ·exact e
  ·rcases List.mem_cons.mp ((h z).mpr (by simp[hz])) with e|e
   ·subst e;exact absurd (hy z hz) (λq=>ltK_as q q)
   ·exact e
def StOf (key:Nat->Int) (L R:List Nat):Prop:=R.Pairwise (ltK key)/\R.Perm L
theorem StOf.len {key:Nat->Int} {L R:List Nat} (h:StOf key L R):R.length=L.length:=h.2.length_eq
theorem st_join {key:Nat->Int} {A1 A2 B1 B2 R1 R2:List Nat} (hA:(A1++A2).Pairwise (ltK key)) (hB:(B1++B2).Pairwise (ltK key)) (h1:∀ x∈A1,∀ y∈B2,ltK key x y) (h2:∀ x∈A2,∀ y∈B1,ltK key y x)
  (r1:StOf key (A1++B1) R1) (r2:StOf key (A2++B2) R2):StOf key ((A1++A2)++(B1++B2)) (R1++R2):=by
 refine⟨List.pairwise_append.mpr ⟨r1.1,r2.1,λx hx y hy=>?_⟩,?_⟩
 ·have hA3:=(List.pairwise_append.mp hA).2.2;have hB3:=(List.pairwise_append.mp hB).2.2;rcases List.mem_append.mp (r1.2.mem_iff.mp hx) with hx|hx<;>rcases List.mem_append.mp (r2.2.mem_iff.mp hy) with hy|hy
  ·exact hA3 x hx y hy
  ·exact h1 x hx y hy
  ·exact h2 y hy x hx
  ·exact hB3 x hx y hy
 ·refine(r1.2.append r2.2).trans ?_;rw[List.append_assoc,List.append_assoc];refine List.Perm.append_left A1 ?_;rw[<- List.append_assoc,<- List.append_assoc];exact List.Perm.append_right B2 List.perm_append_comm
theorem st_cut {key:Nat->Int} {L:List Nat} (h:L.Pairwise (ltK key)) {i j:Nat} (hi:i<L.length) (hj:j<L.length) (hij:i<j):ltK key L[i] L[j]:=List.pairwise_iff_getElem.mp h i j hi hj hij
theorem st_le {key:Nat->Int} {L:List Nat} (h:L.Pairwise (ltK key)) {i j:Nat} (hi:i<L.length) (hj:j<L.length) (hij:i<=j):L[i]=L[j]\/ltK key L[i] L[j]:=by
 rcases Nat.lt_or_eq_of_le hij with h1|h1
 ·exact .inr (st_cut h hi hj h1)
 ·subst h1;exact .inl rfl
theorem mem_take_get {L:List Nat} {s x:Nat} (h:x∈L.take s):∃ i,∃ (hi:i<L.length),i<s/\L[i]=x:=by
 obtain⟨i,hi,rfl⟩:=List.mem_iff_getElem.mp h;rw[List.length_take] at hi;exact⟨i,Om,Om,by simp⟩
theorem mem_drop_get {L:List Nat} {s x:Nat} (h:x∈L.drop s):∃ i,∃ (hi:i<L.length),s<=i/\L[i]=x:=by
 obtain⟨i,hi,rfl⟩:=List.mem_iff_getElem.mp h;rw[List.length_drop] at hi;exact⟨s+i,Om,Om,by simp⟩
theorem st_across {key:Nat->Int} {A B:List Nat} (hA:A.Pairwise (ltK key)) (hB:B.Pairwise (ltK key)) {s e:Nat} (h:∀ (h0:0<s) (h1:s<=A.length) (h2:e<B.length),ltK key (A[s-1]'Om) B[e]) (hs:s<=A.length):∀ x∈A.take s,∀ y∈B.drop e,ltK key x y:=by
 intro x hx y hy;obtain⟨i,hi,his,rfl⟩:=mem_take_get hx;obtain⟨j,hj,hej,rfl⟩:=mem_drop_get hy;have h0:=h Om hs Om;have h1:A[i]=A[s-1]'Om\/ltK key A[i] (A[s-1]'Om):=st_le hA hi Om Om;have h2:B[e]'Om=B[j]\/ltK key (B[e]'Om) B[j]:=st_le hB Om hj hej;rcases h1 with h1|h1<;>rcases h2 with h2|h2
 ·rw[h1,<- h2];exact h0
 ·rw[h1];exact ltK_tr h0 h2
 ·rw[<- h2];exact ltK_tr h1 h0
 ·exact ltK_tr h1 (ltK_tr h0 h2)
def leK (key:Nat->Int) (i j:Nat):Bool:=decide (key i<key j\/(key i=key j/\i<=j))
def srtK (key:Nat->Int) (L:List Nat):List Nat:=L.mergeSort (leK key)
theorem srtK_of {key:Nat->Int} {L:List Nat} (h:L.Nodup):StOf key L (srtK key L):=by
 have hp:(srtK key L).Perm L:=List.mergeSort_perm L _;have h1:(srtK key L).Pairwise (λa b=>leK key a b=true):=List.pairwise_mergeSort (λa b c h1 h2=>by simp only[leK,decide_eq_true_eq] at *;omega) (λa b=>by simp only[leK,Bool.or_eq_true,decide_eq_true_eq];omega) L;have h2:(srtK key L).Nodup:=hp.nodup_iff.mpr h;refine⟨?_,hp⟩
 refine List.Pairwise.imp ?_ (h1.and h2);intro a b ⟨h3,h4⟩;simp only[leK,decide_eq_true_eq] at h3;unfold ltK;omega
theorem StOf.nodup {key:Nat->Int} {L R:List Nat} (h:StOf key L R):L.Nodup:=by
 refine h.2.nodup_iff.mp (List.Pairwise.imp ?_ h.1);intro a b h1 h2;subst h2;exact ltK_as h1 h1
theorem srtK_eq {key:Nat->Int} {L R:List Nat} (h:StOf key L R):R=srtK key L:=by
 have h2:=srtK_of (key:=key) h.nodup;exact st_uniq h.1 h2.1 λx=>by rw[h.2.mem_iff,h2.2.mem_iff]
theorem srtK_len {key:Nat->Int} {L:List Nat}:(srtK key L).length=L.length:=(List.mergeSort_perm L _).length_eq
theorem srtK_mem {key:Nat->Int} {L:List Nat} {x:Nat}:x∈srtK key L↔x∈L:=(List.mergeSort_perm L _).mem_iff
theorem srtK_self {key:Nat->Int} {L:List Nat} (h:L.Pairwise (ltK key)):srtK key L=L:=(srtK_eq ⟨h,List.Perm.refl _⟩).symm
def cmpL (key:Nat->Int):Nat->List Nat->List Nat
 |_,[]=>[]
 |x,s::r=>bif key s==key x then cmpL key s r else s::cmpL key s r
theorem cmpL_spec {key:Nat->Int}:∀ {r:List Nat} {x:Nat},(x::r).Pairwise (ltK key)->(cmpL key x r).Pairwise (λi j=>key i<key j)/\(∀ y∈cmpL key x r,key x<key y)/\∀ y,y∈cmpL key x r↔y∈r/\key y≠key x/\∀ z∈r,key z=key y->y<=z
 |[],x,_=>⟨List.Pairwise.nil,by simp[cmpL],by simp[cmpL]⟩
 |s::r,x,h=>by
  obtain⟨hx,h2⟩:=List.pairwise_cons.mp h;obtain⟨hs,h3⟩:=List.pairwise_cons.mp h2;obtain⟨i1,i2,i3⟩:=cmpL_spec h2;have hxs:=hx s Sp;have hkx:∀ y∈r,key s<=key y:=λy hy=>by have:=hs y hy;unfold ltK at this;omega
  unfold cmpL;cases hq:key s==key x with
  |true=>
   have hq:=eq_of_beq hq;simp only[cond_true]
   refine⟨i1,λy hy=>by have:=i2 y hy;omega,λy=>?_⟩
   rw[i3 y];refine⟨λ⟨a,b,c⟩=>⟨by simp[a],Om,λz hz he=>?_⟩,λ⟨a,b,c⟩=>⟨?_,Om,λz hz he=>c z (by simp[hz]) he⟩⟩
   ·rcases List.mem_cons.mp hz with rfl|hz
    ·exact absurd he.symm b
    ·exact c z hz he
   ·rcases List.mem_cons.mp a with rfl|a
    ·exact absurd hq b
    ·exact a
  |false=>
   have hq:=ne_of_beq_false hq;simp only[cond_false]
   have hlt:key x<key s:=by unfold ltK at hxs;omega
   refine⟨List.pairwise_cons.mpr ⟨i2,i1⟩,λy hy=>?_,λy=>?_⟩
   ·rcases List.mem_cons.mp hy with rfl|hy
    ·exact hlt
    ·have:=i2 y hy;omega
   ·refine⟨λhy=>?_,λ⟨a,b,c⟩=>?_⟩
    ·rcases List.mem_cons.mp hy with rfl|hy
     ·refine⟨by simp,hq,λz hz he=>?_⟩
      rcases List.mem_cons.mp hz with rfl|hz
      ·exact Nat.le_refl _
      ·have:=hs z hz;unfold ltK at this;omega
     ·obtain⟨a,b,c⟩:=(i3 y).mp hy;have:=hkx y a;refine⟨by simp[a],Om,λz hz he=>?_⟩
      rcases List.mem_cons.mp hz with rfl|hz
      ·exact absurd he.symm b
      ·exact c z hz he
    ·rcases List.mem_cons.mp a with rfl|a
     ·simp
     ·refine List.mem_cons.mpr (.inr ((i3 y).mpr ⟨a,λhe=>?_,λz hz he=>c z (by simp[hz]) he⟩));have h4:=c s Sp he.symm;have h5:=hs y a;unfold ltK at h5;omega
def cmpA (key:Nat->Int):List Nat->List Nat
 |[]=>[]
 |x::r=>x::cmpL key x r
theorem cmpA_spec {key:Nat->Int} {L:List Nat} (h:L.Pairwise (ltK key)):(cmpA key L).Pairwise (λi j=>key i<key j)/\∀ y,y∈cmpA key L↔y∈L/\∀ z∈L,key z=key y->y<=z:=by
 cases L with
 |nil=>exact⟨List.Pairwise.nil,by simp[cmpA]⟩
 |cons x r=>
  obtain⟨i1,i2,i3⟩:=cmpL_spec h;obtain⟨hx,h2⟩:=List.pairwise_cons.mp h;unfold cmpA;refine⟨List.pairwise_cons.mpr ⟨i2,i1⟩,λy=>⟨λhy=>?_,λ⟨a,c⟩=>?_⟩⟩
  ·rcases List.mem_cons.mp hy with rfl|hy
   ·refine⟨by simp,λz hz he=>?_⟩
    rcases List.mem_cons.mp hz with rfl|hz
    ·exact Nat.le_refl _
    ·have:=hx z hz;unfold ltK at this;omega
   ·obtain⟨a,b,c⟩:=(i3 y).mp hy;refine⟨by simp[a],λz hz he=>?_⟩
    rcases List.mem_cons.mp hz with rfl|hz
    ·exact absurd he.symm b
    ·exact c z hz he
  ·rcases List.mem_cons.mp a with rfl|a
   ·simp
   ·refine List.mem_cons.mpr (.inr ((i3 y).mpr ⟨a,λhe=>?_,λz hz he=>c z (by simp[hz]) he⟩));have h4:=c x Sp he.symm;have h5:=hx y a;unfold ltK at h5;omega
structure Firsts (key:Nat->Int) (n:Nat) (O:List Nat):Prop where
 asc:O.Pairwise (λi j=>key i<key j)
 mem:∀ y,y∈O↔y<n/\∀ z,z<y->key z≠key y
theorem Firsts.uniq {key:Nat->Int} {n:Nat} {O M:List Nat} (h:Firsts key n O) (h':Firsts key n M):O=M:=
 st_uniq (key:=key) (h.asc.imp λq=>.inl q) (h'.asc.imp λq=>.inl q) λx=>by rw[h.mem,h'.mem]
theorem firsts_cmpA {key:Nat->Int} {n:Nat}:Firsts key n (cmpA key (srtK key (List.range n))):=by
 obtain⟨h1,h2⟩:=cmpA_spec (srtK_of (key:=key) (List.nodup_range (n:=n))).1;refine⟨h1,λy=>?_⟩
 rw[h2 y];simp only[srtK_mem,List.mem_range]
 exact⟨λ⟨a,b⟩=>⟨a,λz hz he=>by have:=b z Om he;omega⟩,λ⟨a,b⟩=>⟨a,λz hz he=>Nat.le_of_not_lt λq=>b z q he⟩⟩
theorem cmpL_len {key:Nat->Int}:∀ {r:List Nat} {x:Nat},(cmpL key x r).length<=r.length
 |[],_=>Nat.le_refl _
 |s::r,x=>by
  unfold cmpL;have:=cmpL_len (key:=key) (r:=r) (x:=s);cases key s==key x<;>simp only[cond_true,cond_false,List.length_cons]<;>omega
theorem firsts_len {key:Nat->Int} {n:Nat} {O:List Nat} (h:Firsts key n O):O.length<=n:=by
 rw[h.uniq firsts_cmpA];have:(srtK key (List.range n)).length=n:=by rw[srtK_len,List.length_range]
 cases hL:srtK key (List.range n) with
 |nil=>rw[hL] at this;simp at this;simp[cmpA]
 |cons x r=>
  rw[hL] at this;have h2:=cmpL_len (key:=key) (r:=r) (x:=x);simp only[cmpA,List.length_cons] at this⊢;omega
def RS (B:Nat) (r:List D):Prop:=∃ (c0:BA),r=[.str c0]/\c0.size<=B/\True
theorem RS.open {B:Nat} {r:List D} (h:RS B r):∃ (c0:BA),r=[.str c0]/\c0.size<=B/\True:=h
theorem RS.mono {B B':Nat} (hb:B<=B') {r:List D} (h:RS B r):RS B' r:=by
 obtain⟨c0,rfl,k0,_⟩:=h;exact⟨_,rfl,(Nat.le_trans k0 hb),trivial⟩
theorem RS.wide {xs:LD} (h:Zc RS lim xs):Zc RS 2097152 xs:=⟨Nat.le_trans h.1 De,λr hr=>(h.2 r hr).mono De⟩
theorem RS.len {B:Nat} {r:List D} (h:RS B r):r.length=1:=by
 obtain⟨c0,rfl,_⟩:=h.open;rfl
theorem RS.flat {B:Nat} {xs:LD} (h:∀ r∈xs,RS B r):ZcV 1 xs:=λr hr=>by
 obtain⟨c0,rfl,_⟩:=(h r hr).open;exact⟨rfl,by simp[Zak]⟩
theorem RS.wt {B:Nat} {xs:LD} (h:∀ r∈xs,RS B r):Zg xs=1*xs.length:=wt_flat (R:=RS B) (λr h=>by obtain⟨c0,rfl,_⟩:=h;rfl) xs h
theorem RS.deep {B:Nat} {xs:LD} (h:∀ r∈xs,RS B r):Za xs=xs.map (·.map C.d):=deep_flat (R:=RS B) (λr h=>by obtain⟨c0,rfl,_⟩:=h;rfl) xs h
theorem RS.gets {B:Nat} {xs:LD} (h:∀ r∈xs,RS B r) {v:Int} (h0:0<=v) (h1:v<xs.length):gR xs v=[.str (gS xs v 0)]/\(gS xs v 0).size<=B/\True:=by
 obtain⟨c0,e,k0,_⟩:=(h (gR xs v) (Zan h0 h1)).open;unfold gS;rw[e];exact⟨rfl,k0,trivial⟩
theorem RS.rows {B:Nat} {xs:LD} (h:∀ r∈xs,RS B r) {v:Int} (h0:0<=v) (h1:v<xs.length) {β:Type} (F:List D->Option β):Zam xs v F=F [.str (gS xs v 0)]:=by
 rw[<- (RS.gets h h0 h1).1];exact ZW h0 h1 F
theorem RS.get {B:Nat} {xs:LD} (h:Zc RS B xs) {v:Int} (h0:0<=v) (h1:v<xs.length):gR xs v=[.str (gS xs v 0)]/\(gS xs v 0).size<=B/\True:=RS.gets h.2 h0 h1
theorem RS.row {B:Nat} {xs:LD} (h:Zc RS B xs) {v:Int} (h0:0<=v) (h1:v<xs.length) {β:Type} (F:List D->Option β):Zam xs v F=F [.str (gS xs v 0)]:=RS.rows h.2 h0 h1 F
theorem YI.T (h0:0<=a1) (h1:a1<=1048576) (ga0:Zc RS maxLen a0):Tm Zr (λk=>YI.t k a0 a1) (λr=>r<0\/0<=r/\r<=a1/\Zc RS lim a0/\((Zg a0:Nat):Int)<=64*(a1-r)/\True):=by
 unfold YI.t YI.g;have hm:=Zh;have hlim:lim=1048576:=rfl;have hlen:=ga0.1;try rw[Zb (x:=a1-(a0.length:Int)) Om Om]
 refine Tm.ite (λh1=>?_) (λh1=>?_)
 ·try simp only[bz] at h1
  exact Tm.ret (by first|(left;omega)|(right;refine⟨?_,?_,?_,?_,trivial⟩<;>first|assumption|omega))
 ·try simp only[bz] at h1
  refine Tm.loop (okk:=Zr) (p:=λk=>k) (λi hi=>hi) (b:=λk=>YI.l0 k a0 (λz0=>some z0)) (λv=>match v with|(u0,i)=>(((a0.length:Int))-i).toNat) (λv=>match v with|(u0,i)=>0<=u0/\u0<=a1/\0<=i/\i<=(a0.length:Int)/\(∀ r∈a0.take i.toNat,RS lim r)/\((Zg (a0.take i.toNat):Nat):Int)<=64*(a1-a0.length-u0+i)) ?_ ?_ ?_
  ·rintro⟨u0,i⟩ hI;try simp only[] at hI⊢
   have:big=2^64:=rfl;have:=ga0.1;omega
  ·exact⟨Om,Om,Om,by simp,by simp,by simp[Zg]⟩
  ·rintro⟨u0,i⟩ hI L hL;try simp only[] at hI
   obtain⟨u0a,u0b,i0,i1,hr,hwt⟩:=hI;simp only[YI.l0,atR,rdQ,Q.ask]
   refine Tm.ite (λh2=>?_) (λh2=>?_)
   ·try simp only[bz] at h2
    refine Tm.atRow Au Au (λx3 hx4 hm5=>?_);obtain⟨c6,rfl,g7,_⟩:=(ga0.2 x3 hm5).open;refine Tm.uncons ?_;refine Tm.dStr ?_;refine Tm.atEnd ?_;try rw[Zb (x:=u0-(c6.size:Int)) Om Om]
    refine Tm.ite (λh8=>?_) (λh8=>?_)
    ·try simp only[bz] at h8
     exact Tm.ret (by first|(left;omega)|(rw[List.take_of_length_le Om] at hwt;exact .inr ⟨Om,Om,⟨by simp only[lim];omega,Zaw Om hr⟩,Om,trivial⟩))
    ·try simp only[bz] at h8
     try rw[Zb (x:=i+1) Om Om]
     have hwx:=ZaE i0 hx4;simp only[Z7,wtD] at hwx;refine hL ((u0-(c6.size:Int)),(i+1)) ⟨Om,Om,Om,Om,Zbp i0 hx4 hr ⟨_,rfl,by first|assumption|omega,trivial⟩,Om⟩ Sm
   ·try simp only[bz] at h2
    exact Tm.ret (by first|(left;omega)|(rw[List.take_of_length_le Om] at hwt;exact .inr ⟨Om,Om,⟨by simp only[lim];omega,Zaw Om hr⟩,Om,trivial⟩))
theorem YbS.T {aA:BA} (h0:0<=a1) (h1:a1<=1048576) (ga0_1:aA.size<=maxLen) (ga0_2:Zc RS maxLen aD):Tm Zr (λk=>YbS.t k aB aA aD a1) (λr=>r<0\/0<=r/\r<=a1/\aA.size<=lim/\Zc RS lim aD/\((Zg aD:Nat):Int)<=64*(a1-r)/\True):=by
 unfold YbS.t YbS.g;have hm:=Zh;have hlim:lim=1048576:=rfl;try rw[Zb (x:=a1-(aA.size:Int)) Om Om]
 refine Tm.ite (λh1=>?_) (λh1=>?_)
 ·try simp only[bz] at h1
  exact Tm.ret (by first|(left;omega)|(right;refine⟨?_,?_,?_,?_,?_,trivial⟩<;>first|assumption|omega))
 ·try simp only[bz] at h1
  refine bd1_t (λi hi=>hi) (YI.T Au Au Au) (λy3 hy2=>?_);rcases hy2 with hy2|⟨p6,p7,q4,q5,_⟩
  ·exact Tm.ite (λ_=>Tm.ret (by left;omega)) (λh=>by simp at h;omega)
  refine Tm.ite (λh8=>?_) (λh8=>?_)
  ·try simp only[bz] at h8
   exact Tm.ret (by first|(left;omega)|(right;refine⟨?_,?_,?_,?_,?_,trivial⟩<;>first|assumption|omega))
  ·try simp only[bz] at h8
   exact Tm.ret (by first|(left;omega)|(right;refine⟨?_,?_,?_,?_,?_,trivial⟩<;>first|assumption|omega))
def Ybl (B:Nat) (r:List D):Prop:=∃ (c0:Int) (c1:BA) (c2:LD),r=[.int .i64 c0,.str c1,.sl c2]/\(Lit.int .i64 c0).wf=true/\c1.size<=B/\Zc RS B c2/\True
theorem Ybl.open {B:Nat} {r:List D} (h:Ybl B r):∃ (c0:Int) (c1:BA) (c2:LD),r=[.int .i64 c0,.str c1,.sl c2]/\(Lit.int .i64 c0).wf=true/\c1.size<=B/\Zc RS B c2/\True:=h
theorem Ybl.mono {B B':Nat} (hb:B<=B') {r:List D} (h:Ybl B r):Ybl B' r:=by
 obtain⟨c0,c1,c2,rfl,k0,k1,k2,_⟩:=h;exact⟨_,_,_,rfl,k0,(Nat.le_trans k1 hb),⟨Nat.le_trans k2.1 hb,λr hr=>(k2.2 r hr).mono hb⟩,trivial⟩
theorem Ybl.wide {xs:LD} (h:Zc Ybl lim xs):Zc Ybl 2097152 xs:=⟨Nat.le_trans h.1 De,λr hr=>(h.2 r hr).mono De⟩
theorem Ybl.len {B:Nat} {r:List D} (h:Ybl B r):r.length=3:=by
 obtain⟨c0,c1,c2,rfl,_⟩:=h.open;rfl
theorem Ybl.gets {B:Nat} {xs:LD} (h:∀ r∈xs,Ybl B r) {v:Int} (h0:0<=v) (h1:v<xs.length):gR xs v=[.int .i64 (gI xs v 0),.str (gS xs v 1),.sl (gL xs v 2)]/\(Lit.int .i64 (gI xs v 0)).wf=true/\(gS xs v 1).size<=B/\Zc RS B (gL xs v 2)/\True:=by
 obtain⟨c0,c1,c2,e,k0,k1,k2,_⟩:=(h (gR xs v) (Zan h0 h1)).open;unfold gI gL gS;rw[e];exact⟨rfl,k0,k1,k2,trivial⟩
theorem Ybl.rows {B:Nat} {xs:LD} (h:∀ r∈xs,Ybl B r) {v:Int} (h0:0<=v) (h1:v<xs.length) {β:Type} (F:List D->Option β):Zam xs v F=F [.int .i64 (gI xs v 0),.str (gS xs v 1),.sl (gL xs v 2)]:=by
 rw[<- (Ybl.gets h h0 h1).1];exact ZW h0 h1 F
theorem Ybl.get {B:Nat} {xs:LD} (h:Zc Ybl B xs) {v:Int} (h0:0<=v) (h1:v<xs.length):gR xs v=[.int .i64 (gI xs v 0),.str (gS xs v 1),.sl (gL xs v 2)]/\(Lit.int .i64 (gI xs v 0)).wf=true/\(gS xs v 1).size<=B/\Zc RS B (gL xs v 2)/\True:=Ybl.gets h.2 h0 h1
theorem Ybl.row {B:Nat} {xs:LD} (h:Zc Ybl B xs) {v:Int} (h0:0<=v) (h1:v<xs.length) {β:Type} (F:List D->Option β):Zam xs v F=F [.int .i64 (gI xs v 0),.str (gS xs v 1),.sl (gL xs v 2)]:=Ybl.rows h.2 h0 h1 F
theorem YaG.T (h0:0<=a1) (h1:a1<=1048576) (ga0:Zc Ybl maxLen a0):Tm Zr (λk=>YaG.t k a0 a1) (λr=>r<0\/0<=r/\r<=a1/\Zc Ybl lim a0/\((Zg a0:Nat):Int)<=64*(a1-r)/\True):=by
 unfold YaG.t YaG.g;have hm:=Zh;have hlim:lim=1048576:=rfl;have hlen:=ga0.1;try rw[Zb (x:=a1-(a0.length:Int)) Om Om]
 refine Tm.ite (λh1=>?_) (λh1=>?_)
 ·try simp only[bz] at h1
  exact Tm.ret (by first|(left;omega)|(right;refine⟨?_,?_,?_,?_,trivial⟩<;>first|assumption|omega))
 ·try simp only[bz] at h1
  refine Tm.loop (okk:=Zr) (p:=λk=>k) (λi hi=>hi) (b:=λk=>YaG.l0 k a0 (λz0=>some z0)) (λv=>match v with|(u0,i)=>(((a0.length:Int))-i).toNat) (λv=>match v with|(u0,i)=>0<=u0/\u0<=a1/\0<=i/\i<=(a0.length:Int)/\(∀ r∈a0.take i.toNat,Ybl lim r)/\((Zg (a0.take i.toNat):Nat):Int)<=64*(a1-a0.length-u0+i)) ?_ ?_ ?_
  ·rintro⟨u0,i⟩ hI;try simp only[] at hI⊢
   have:big=2^64:=rfl;have:=ga0.1;omega
  ·exact⟨Om,Om,Om,by simp,by simp,by simp[Zg]⟩
  ·rintro⟨u0,i⟩ hI L hL;try simp only[] at hI
   obtain⟨u0a,u0b,i0,i1,hr,hwt⟩:=hI;simp only[YaG.l0,atR,rdQ,Q.ask]
   refine Tm.ite (λh2=>?_) (λh2=>?_)
   ·try simp only[bz] at h2
    refine Tm.atRow Au Au (λx3 hx4 hm5=>?_);obtain⟨c6,c7,c8,rfl,g9,g10,g11,_⟩:=(ga0.2 x3 hm5).open;refine Tm.uncons ?_;refine Tm.dInt ?_;refine Tm.uncons ?_;refine Tm.dStr ?_;refine Tm.uncons ?_;refine Tm.dSl ?_;refine Tm.atEnd ?_;refine bd1_p (t:=λk=>YbS.t k _ _ _ _) (λi hi=>(And.left hi)) (YbS.T Au Au Au Au) (λy13 hy12=>?_);rcases hy12 with hy12|⟨p17,p18,q14,q15,q16,_⟩
    ·exact Tm.ite (λ_=>Tm.ret (by left;omega)) (λh=>by simp at h;omega)
    refine Tm.ite (λh19=>?_) (λh19=>?_)
    ·try simp only[bz] at h19
     exact Tm.ret (by first|(left;omega)|(rw[List.take_of_length_le Om] at hwt;exact .inr ⟨Om,Om,⟨by simp only[lim];omega,Zaw Om hr⟩,Om,trivial⟩))
    ·try simp only[bz] at h19
     try rw[Zb (x:=i+1) Om Om]
     have hwx:=ZaE i0 hx4;simp only[Z7,wtD] at hwx;refine hL (y13,(i+1)) ⟨Om,Om,Om,Om,Zbp i0 hx4 hr ⟨_,_,_,rfl,by first|assumption|omega,by first|assumption|omega,by first|assumption|omega,trivial⟩,Om⟩ Sm
   ·try simp only[bz] at h2
    exact Tm.ret (by first|(left;omega)|(rw[List.take_of_length_le Om] at hwt;exact .inr ⟨Om,Om,⟨by simp only[lim];omega,Zaw Om hr⟩,Om,trivial⟩))
theorem YbA.T {aB:BA} (h0:0<=a1) (h1:a1<=1048576) (ga0_0:aB.size<=maxLen):Tm Zr (λk=>YbA.t k aB aA a1) (λr=>r<0\/0<=r/\r<=a1/\aB.size<=lim/\True):=by
 unfold YbA.t YbA.g;have hm:=Zh;have hlim:lim=1048576:=rfl;try rw[Zb (x:=a1-(aB.size:Int)) Om Om]
 refine Tm.ite (λh1=>?_) (λh1=>?_)
 ·try simp only[bz] at h1
  exact Tm.ret (by first|(left;omega)|(right;refine⟨?_,?_,?_,trivial⟩<;>first|assumption|omega))
 ·try simp only[bz] at h1
  exact Tm.ret (by first|(left;omega)|(right;refine⟨?_,?_,?_,trivial⟩<;>first|assumption|omega))
def RSI (B:Nat) (r:List D):Prop:=∃ (c0:BA) (c1:Int),r=[.str c0,.int .i64 c1]/\c0.size<=B/\(Lit.int .i64 c1).wf=true/\True
theorem RSI.open {B:Nat} {r:List D} (h:RSI B r):∃ (c0:BA) (c1:Int),r=[.str c0,.int .i64 c1]/\c0.size<=B/\(Lit.int .i64 c1).wf=true/\True:=h
theorem RSI.mono {B B':Nat} (hb:B<=B') {r:List D} (h:RSI B r):RSI B' r:=by
 obtain⟨c0,c1,rfl,k0,k1,_⟩:=h;exact⟨_,_,rfl,(Nat.le_trans k0 hb),k1,trivial⟩
theorem RSI.wide {xs:LD} (h:Zc RSI lim xs):Zc RSI 2097152 xs:=⟨Nat.le_trans h.1 De,λr hr=>(h.2 r hr).mono De⟩
theorem RSI.len {B:Nat} {r:List D} (h:RSI B r):r.length=2:=by
 obtain⟨c0,c1,rfl,_⟩:=h.open;rfl
theorem RSI.flat {B:Nat} {xs:LD} (h:∀ r∈xs,RSI B r):ZcV 2 xs:=λr hr=>by
 obtain⟨c0,c1,rfl,_⟩:=(h r hr).open;exact⟨rfl,by simp[Zak]⟩
theorem RSI.wt {B:Nat} {xs:LD} (h:∀ r∈xs,RSI B r):Zg xs=2*xs.length:=wt_flat (R:=RSI B) (λr h=>by obtain⟨c0,c1,rfl,_⟩:=h;rfl) xs h
theorem RSI.deep {B:Nat} {xs:LD} (h:∀ r∈xs,RSI B r):Za xs=xs.map (·.map C.d):=deep_flat (R:=RSI B) (λr h=>by obtain⟨c0,c1,rfl,_⟩:=h;rfl) xs h
theorem RSI.gets {B:Nat} {xs:LD} (h:∀ r∈xs,RSI B r) {v:Int} (h0:0<=v) (h1:v<xs.length):gR xs v=[.str (gS xs v 0),.int .i64 (gI xs v 1)]/\(gS xs v 0).size<=B/\(Lit.int .i64 (gI xs v 1)).wf=true/\True:=by
 obtain⟨c0,c1,e,k0,k1,_⟩:=(h (gR xs v) (Zan h0 h1)).open;unfold gI gS;rw[e];exact⟨rfl,k0,k1,trivial⟩
theorem RSI.rows {B:Nat} {xs:LD} (h:∀ r∈xs,RSI B r) {v:Int} (h0:0<=v) (h1:v<xs.length) {β:Type} (F:List D->Option β):Zam xs v F=F [.str (gS xs v 0),.int .i64 (gI xs v 1)]:=by
 rw[<- (RSI.gets h h0 h1).1];exact ZW h0 h1 F
theorem RSI.get {B:Nat} {xs:LD} (h:Zc RSI B xs) {v:Int} (h0:0<=v) (h1:v<xs.length):gR xs v=[.str (gS xs v 0),.int .i64 (gI xs v 1)]/\(gS xs v 0).size<=B/\(Lit.int .i64 (gI xs v 1)).wf=true/\True:=RSI.gets h.2 h0 h1
theorem RSI.row {B:Nat} {xs:LD} (h:Zc RSI B xs) {v:Int} (h0:0<=v) (h1:v<xs.length) {β:Type} (F:List D->Option β):Zam xs v F=F [.str (gS xs v 0),.int .i64 (gI xs v 1)]:=RSI.rows h.2 h0 h1 F
theorem Yar.T (h0:0<=a1) (h1:a1<=1048576) (ga0:Zc RSI maxLen a0):Tm Zr (λk=>Yar.t k a0 a1) (λr=>r<0\/0<=r/\r<=a1/\Zc RSI lim a0/\((Zg a0:Nat):Int)<=64*(a1-r)/\True):=by
 unfold Yar.t Yar.g;have hm:=Zh;have hlim:lim=1048576:=rfl;have hlen:=ga0.1;try rw[Zb (x:=a1-(a0.length:Int)) Om Om]
 refine Tm.ite (λh1=>?_) (λh1=>?_)
 ·try simp only[bz] at h1
  exact Tm.ret (by first|(left;omega)|(right;refine⟨?_,?_,?_,?_,trivial⟩<;>first|assumption|omega))
 ·try simp only[bz] at h1
  refine Tm.loop (okk:=Zr) (p:=λk=>k) (λi hi=>hi) (b:=λk=>Yar.l0 k a0 (λz0=>some z0)) (λv=>match v with|(u0,i)=>(((a0.length:Int))-i).toNat) (λv=>match v with|(u0,i)=>0<=u0/\u0<=a1/\0<=i/\i<=(a0.length:Int)/\(∀ r∈a0.take i.toNat,RSI lim r)/\((Zg (a0.take i.toNat):Nat):Int)<=64*(a1-a0.length-u0+i)) ?_ ?_ ?_
  ·rintro⟨u0,i⟩ hI;try simp only[] at hI⊢
   have:big=2^64:=rfl;have:=ga0.1;omega
  ·exact⟨Om,Om,Om,by simp,by simp,by simp[Zg]⟩
  ·rintro⟨u0,i⟩ hI L hL;try simp only[] at hI
   obtain⟨u0a,u0b,i0,i1,hr,hwt⟩:=hI;simp only[Yar.l0,atR,rdQ,Q.ask]
   refine Tm.ite (λh2=>?_) (λh2=>?_)
   ·try simp only[bz] at h2
    refine Tm.atRow Au Au (λx3 hx4 hm5=>?_);obtain⟨c6,c7,rfl,g8,g9,_⟩:=(ga0.2 x3 hm5).open;refine Tm.uncons ?_;refine Tm.dStr ?_;refine Tm.uncons ?_;refine Tm.dInt ?_;refine Tm.atEnd ?_;refine bd1_p (t:=λk=>YbA.t k _ _ _) (λi hi=>(And.left hi)) (YbA.T Au Au Au) (λy11 hy10=>?_);rcases hy10 with hy10|⟨p13,p14,q12,_⟩
    ·exact Tm.ite (λ_=>Tm.ret (by left;omega)) (λh=>by simp at h;omega)
    refine Tm.ite (λh15=>?_) (λh15=>?_)
    ·try simp only[bz] at h15
     exact Tm.ret (by first|(left;omega)|(rw[List.take_of_length_le Om] at hwt;exact .inr ⟨Om,Om,⟨by simp only[lim];omega,Zaw Om hr⟩,Om,trivial⟩))
    ·try simp only[bz] at h15
     try rw[Zb (x:=i+1) Om Om]
     have hwx:=ZaE i0 hx4;simp only[Z7,wtD] at hwx;refine hL (y11,(i+1)) ⟨Om,Om,Om,Om,Zbp i0 hx4 hr ⟨_,_,rfl,by first|assumption|omega,by first|assumption|omega,trivial⟩,Om⟩ Sm
   ·try simp only[bz] at h2
    exact Tm.ret (by first|(left;omega)|(rw[List.take_of_length_le Om] at hwt;exact .inr ⟨Om,Om,⟨by simp only[lim];omega,Zaw Om hr⟩,Om,trivial⟩))
theorem Yb3.T (h0:0<=a1) (h1:a1<=1048576) (ga0_1:Zc Ybl maxLen aA) (ga0_2:Zc RS maxLen aD) (ga0_3:Zc RSI maxLen aE):Tm Zr (λk=>Yb3.t k aB aA aD aE a1) (λr=>r<0\/0<=r/\r<=a1/\Zc Ybl lim aA/\Zc RS lim aD/\Zc RSI lim aE/\((Zg aA+Zg aD+Zg aE:Nat):Int)<=64*(a1-r)/\True):=by
 unfold Yb3.t Yb3.g;have hm:=Zh;have hlim:lim=1048576:=rfl;refine bd1_t (λi hi=>hi) (YaG.T Au Au Au) (λy2 hy1=>?_);rcases hy1 with hy1|⟨p5,p6,q3,q4,_⟩
 ·exact Tm.ite (λ_=>Tm.ret (by left;omega)) (λh=>by simp at h;omega)
 refine Tm.ite (λh7=>?_) (λh7=>?_)
 ·try simp only[bz] at h7
  exact Tm.ret (by first|(left;omega)|(right;refine⟨?_,?_,?_,?_,?_,?_,trivial⟩<;>first|assumption|omega))
 ·try simp only[bz] at h7
  refine bd1_t (λi hi=>hi) (YI.T Au Au Au) (λy9 hy8=>?_);rcases hy8 with hy8|⟨p12,p13,q10,q11,_⟩
  ·exact Tm.ite (λ_=>Tm.ret (by left;omega)) (λh=>by simp at h;omega)
  refine Tm.ite (λh14=>?_) (λh14=>?_)
  ·try simp only[bz] at h14
   exact Tm.ret (by first|(left;omega)|(right;refine⟨?_,?_,?_,?_,?_,?_,trivial⟩<;>first|assumption|omega))
  ·try simp only[bz] at h14
   refine bd1_t (λi hi=>hi) (Yar.T Au Au Au) (λy16 hy15=>?_);rcases hy15 with hy15|⟨p19,p20,q17,q18,_⟩
   ·exact Tm.ite (λ_=>Tm.ret (by left;omega)) (λh=>by simp at h;omega)
   refine Tm.ite (λh21=>?_) (λh21=>?_)
   ·try simp only[bz] at h21
    exact Tm.ret (by first|(left;omega)|(right;refine⟨?_,?_,?_,?_,?_,?_,trivial⟩<;>first|assumption|omega))
   ·try simp only[bz] at h21
    exact Tm.ret (by first|(left;omega)|(right;refine⟨?_,?_,?_,?_,?_,?_,trivial⟩<;>first|assumption|omega))
theorem YF.tm {ι α:Type} {ok:ι->Prop} {ψ:α->Prop} {p:ι->Nat} {B:Nat} (hp:∀ i,ok i->B<=p i) {a0 a1 φ} (h:Tm (λk=>B<=k) (λk=>YF.t k a0 a1) φ) {G:ι->Int->Option α} (hG:∀ z0,φ z0->Tm ok (λi=>G i z0) ψ):Tm ok (λi=>YF.f (p i) a0 a1 (G i)) ψ:=Zn (t:=λk=>YF.t k a0 a1) hp h hG
inductive Yx (B:Nat):Nat->List D->Prop
 |mk {h:Nat} (c0:Int) (c1:BA) (c2:Int) (c3:LD) (c4:LD) (k0:(Lit.int .i64 c0).wf=true) (k1:c1.size<=B) (k2:(Lit.int .i64 c2).wf=true) (k3:Zc RS B c3) (k4:c4.length<=B) (m4:∀ r∈c4,Yx B h r):Yx B (h+1) [.int .i64 c0,.str c1,.int .i64 c2,.sl c3,.sl c4]
def Yt (B:Nat) (r:List D):Prop:=∃ h,(B<=1099511627776->h<=1099511627776)/\Yx B h r
theorem Yt.open {B:Nat} {r:List D} (h:Yt B r):∃ (c0:Int) (c1:BA) (c2:Int) (c3:LD) (c4:LD),r=[.int .i64 c0,.str c1,.int .i64 c2,.sl c3,.sl c4]/\(Lit.int .i64 c0).wf=true/\c1.size<=B/\(Lit.int .i64 c2).wf=true/\Zc RS B c3/\Zc Yt B c4/\True:=by
 obtain⟨h,hh,h1⟩:=h;cases h1 with
 |mk c0 c1 c2 c3 c4 k0 k1 k2 k3 k4 m4=>exact⟨c0,c1,c2,c3,c4,rfl,k0,k1,k2,k3,⟨k4,λr hr=>⟨_,λhb=>by have:=hh hb;omega,m4 r hr⟩⟩,trivial⟩
theorem Yx.up {B B':Nat} (hb:B<=B'):∀ {h:Nat} {r:List D},Yx B h r->Yx B' h r
 |_+1,_,.mk c0 c1 c2 c3 c4 k0 k1 k2 k3 k4 m4=>.mk c0 c1 c2 c3 c4 k0 (Nat.le_trans k1 hb) k2 ⟨Nat.le_trans k3.1 hb,λr hr=>(k3.2 r hr).mono hb⟩ (Nat.le_trans k4 hb) (λr hr=>Yx.up hb (m4 r hr))
theorem Yt.mono {B B':Nat} (hb:B<=B') {r:List D} (h:Yt B r):Yt B' r:=by
 obtain⟨h,hh,h1⟩:=h;exact⟨h,λh2=>hh (Nat.le_trans hb h2),h1.up hb⟩
theorem Yx.mono {B:Nat}:∀ {h h':Nat} {r:List D},h<=h'->Yx B h r->Yx B h' r
 |_,0,_,hl,.mk ..=>by omega
 |_+1,_+1,_,hl,.mk c0 c1 c2 c3 c4 k0 k1 k2 k3 k4 m4=>.mk c0 c1 c2 c3 c4 k0 k1 k2 k3 k4 (λr hr=>Yx.mono Om (m4 r hr))
theorem Yt.wide {xs:LD} (h:Zc Yt lim xs):Zc Yt 2097152 xs:=⟨Nat.le_trans h.1 De,λr hr=>(h.2 r hr).mono De⟩
theorem Yt.len {B:Nat} {r:List D} (h:Yt B r):r.length=5:=by
 obtain⟨c0,c1,c2,c3,c4,rfl,_⟩:=h.open;rfl
theorem Yt.gets {B:Nat} {xs:LD} (h:∀ r∈xs,Yt B r) {v:Int} (h0:0<=v) (h1:v<xs.length):gR xs v=[.int .i64 (gI xs v 0),.str (gS xs v 1),.int .i64 (gI xs v 2),.sl (gL xs v 3),.sl (gL xs v 4)]/\(Lit.int .i64 (gI xs v 0)).wf=true/\(gS xs v 1).size<=B/\(Lit.int .i64 (gI xs v 2)).wf=true/\Zc RS B (gL xs v 3)/\Zc Yt B (gL xs v 4)/\True:=by
 obtain⟨c0,c1,c2,c3,c4,e,k0,k1,k2,k3,k4,_⟩:=(h (gR xs v) (Zan h0 h1)).open;unfold gI gL gS;rw[e];exact⟨rfl,k0,k1,k2,k3,k4,trivial⟩
theorem Yt.rows {B:Nat} {xs:LD} (h:∀ r∈xs,Yt B r) {v:Int} (h0:0<=v) (h1:v<xs.length) {β:Type} (F:List D->Option β):Zam xs v F=F [.int .i64 (gI xs v 0),.str (gS xs v 1),.int .i64 (gI xs v 2),.sl (gL xs v 3),.sl (gL xs v 4)]:=by
 rw[<- (Yt.gets h h0 h1).1];exact ZW h0 h1 F
theorem Yt.get {B:Nat} {xs:LD} (h:Zc Yt B xs) {v:Int} (h0:0<=v) (h1:v<xs.length):gR xs v=[.int .i64 (gI xs v 0),.str (gS xs v 1),.int .i64 (gI xs v 2),.sl (gL xs v 3),.sl (gL xs v 4)]/\(Lit.int .i64 (gI xs v 0)).wf=true/\(gS xs v 1).size<=B/\(Lit.int .i64 (gI xs v 2)).wf=true/\Zc RS B (gL xs v 3)/\Zc Yt B (gL xs v 4)/\True:=Yt.gets h.2 h0 h1
theorem Yt.row {B:Nat} {xs:LD} (h:Zc Yt B xs) {v:Int} (h0:0<=v) (h1:v<xs.length) {β:Type} (F:List D->Option β):Zam xs v F=F [.int .i64 (gI xs v 0),.str (gS xs v 1),.int .i64 (gI xs v 2),.sl (gL xs v 3),.sl (gL xs v 4)]:=Yt.rows h.2 h0 h1 F
theorem YW.tm {ι α:Type} {ok:ι->Prop} {ψ:α->Prop} {p:ι->Nat} {B:Nat} (hp:∀ i,ok i->B<=p i) {aB aA aD aE aG a1 φ} (h:Tm (λk=>B<=k) (λk=>YW.t k aB aA aD aE aG a1) φ) {G:ι->Int->Option α} (hG:∀ z0,φ z0->Tm ok (λi=>G i z0) ψ):Tm ok (λi=>YW.f (p i) aB aA aD aE aG a1 (G i)) ψ:=Zn (t:=λk=>YW.t k aB aA aD aE aG a1) hp h hG
theorem szVal (n:Nat):(∀ (left:Int) (a:LD),0<=left->left<=n->left<=1048576->Zc Yt maxLen a->Tm (λk=>big+2*n+1<=k) (λk=>YF.t k a left) (λr=>r<0\/0<=r/\r<=left/\a.length<=lim/\(∀ x∈a,Yx lim (left-r).toNat x)/\((Zg a:Nat):Int)<=64*(left-r)))/\
  (∀ (left c0:Int) (c1:BA) (c2:Int) (c3 c4:LD),0<=left->left<=n->left<=1048576->c1.size<=maxLen->Zc RS maxLen c3->Zc Yt maxLen c4->Tm (λk=>big+2*n+2<=k) (λk=>YW.t k c0 c1 c2 c3 c4 left) (λr=>r<0\/0<=r/\r<=left/\c1.size<=lim/\Zc RS lim c3/\c4.length<=lim/\(∀ x∈c4,Yx lim (left-r).toNat x)/\((Zg c3+Zg c4:Nat):Int)<=64*(left-r))):=by
 have hm:=Zh;have hlim:lim=1048576:=rfl;have hb:big=2^64:=rfl;induction n using Nat.strongRecOn with
 |ind n ih=>
 have S:∀ (left:Int) (a:LD),0<=left->left<=n->left<=1048576->Zc Yt maxLen a->Tm (λk=>big+2*n+1<=k) (λk=>YF.t k a left) (λr=>r<0\/0<=r/\r<=left/\a.length<=lim/\(∀ x∈a,Yx lim (left-r).toNat x)/\((Zg a:Nat):Int)<=64*(left-r)):=by
  intro left a h0 h1 h2 g;have hlen:=g.1;refine Tm.succ (g:=λk=>YF.g k a left (λz0=>some z0)) (λk=>YF.t_succ k a left) ?_;unfold YF.g YF.body;rw[Zb (x:=left-a.length) Om Om];refine Tm.ite (λh3=>Tm.ret (.inl Om)) (λh3=>?_);simp only[decide_eq_false_iff_not,Int.not_lt] at h3;refine Tm.loop (okk:=λk=>big+2*n<=k) (p:=λk=>k) (λi hi=>by omega) (b:=λk=>YF.l0 k (YF.f k) (YW.f k) a (λz0=>some z0)) (λv=>match v with|(u0,i)=>(((a.length:Int))-i).toNat) (λv=>match v with|(u0,i)=>0<=u0/\u0<=left-a.length/\0<=i/\i<=(a.length:Int)/\(∀ r∈a.take i.toNat,Yx lim (left-u0).toNat r)/\((Zg (a.take i.toNat):Nat):Int)<=64*(left-a.length-u0+i)) ?_ ?_ ?_
  ·rintro⟨u0,i⟩ hI;simp only[] at hI⊢;omega
  ·exact⟨Om,Om,Om,Om,by simp,by simp[Zg]⟩
  ·rintro⟨u0,i⟩ hI L hL;simp only[] at hI;obtain⟨u0a,u0b,i0,i1,hr,hwt⟩:=hI;simp only[YF.l0,atR,rdQ,Q.ask]
   refine Tm.ite (λh4=>?_) (λh4=>?_)
   ·simp only[decide_eq_true_eq] at h4;refine Tm.atRow Om Om (λx5 hx6 hm7=>?_);obtain⟨c0,c1,c2,c3,c4,rfl,w0,g1,w2,g3,g4,_⟩:=(g.2 x5 hm7).open;refine Tm.uncons (Tm.dInt (Tm.uncons (Tm.dStr (Tm.uncons (Tm.dInt (Tm.uncons (Tm.dSl (Tm.uncons (Tm.dSl (Tm.atEnd ?_))))))))));refine YW.tm (B:=big+2*(n-1)+2) (λi hi=>by have:=hi.1;omega) ((ih (n-1) Om).2 u0 c0 c1 c2 c3 c4 u0a Om Om g1 g3 g4) (λy hy=>?_);rcases hy with hy|⟨y0,y1,q1,q3,q4,q5,qw⟩
    ·exact Tm.ite (λ_=>Tm.ret (.inl Om)) (λh=>by simp at h;omega)
    refine Tm.ite (λh8=>by simp at h8;omega) (λh8=>?_);rw[Zb (x:=i+1) Om Om];have hwx:=ZaE i0 hx6;simp only[Z7,wtD] at hwx;refine hL (y,i+1) ⟨Om,Om,Om,Om,Zbp i0 hx6 (λr hr'=>(hr r hr').mono Om) ?_,Om⟩ Sm;exact Yx.mono (h:=(u0-y).toNat+1) Om (.mk _ _ _ _ _ w0 q1 w2 q3 q4 q5)
   ·simp only[decide_eq_false_iff_not,Int.not_lt] at h4;rw[List.take_of_length_le Om] at hwt;exact Tm.ret (.inr ⟨Om,Om,Om,λx hx=>(Zaw Om hr x hx).mono Om,Om⟩)
 refine⟨S,?_⟩
 intro left c0 c1 c2 c3 c4 h0 h1 h2 g1 g3 g4;refine Tm.succ (g:=λk=>YW.g k c0 c1 c2 c3 c4 left (λz0=>some z0)) (λk=>YW.t_succ k c0 c1 c2 c3 c4 left) ?_;unfold YW.g YW.body;rw[Zb (x:=left-c1.size) Om Om];refine Tm.ite (λh3=>Tm.ret (.inl Om)) (λh3=>?_);simp only[decide_eq_false_iff_not,Int.not_lt] at h3;refine bd1_t (λi hi=>by omega) (YI.T Om Om g3) (λy hy=>?_);rcases hy with hy|⟨y0,y1,q3,qw,_⟩
 ·exact Tm.ite (λ_=>Tm.ret (.inl Om)) (λh=>by simp at h;omega)
 refine Tm.ite (λh8=>by simp at h8;omega) (λh8=>?_);refine YF.tm (B:=big+2*n+1) (λi hi=>hi) (S y c4 y0 Om Om g4) (λy' hy'=>?_);rcases hy' with hy'|⟨y0',y1',q4,q5,qw'⟩
 ·exact Tm.ite (λ_=>Tm.ret (.inl Om)) (λh=>by simp at h;omega)
 refine Tm.ite (λh8=>by simp at h8;omega) (λh8=>?_);exact Tm.ret (.inr ⟨Om,Om,Om,q3,q4,λx hx=>(q5 x hx).mono Om,Om⟩)
theorem YW.T {aA:BA} {a1:Int} (h0:0<=a1) (h1:a1<=1048576) (g1:aA.size<=maxLen) (g3:Zc RS maxLen aE) (g4:Zc Yt maxLen aG):Tm (Zp 1) (λk=>YW.t k aB aA aD aE aG a1) (λr=>r<0\/0<=r/\r<=a1/\aA.size<=lim/\Zc RS lim aE/\Zc Yt lim aG/\((Zg aE+Zg aG:Nat):Int)<=64*(a1-r)/\True):=
 (((szVal a1.toNat).2 a1 aB aA aD aE aG h0 Om h1 g1 g3 g4).up (big_lv1 (n:=2*a1.toNat+2) Om)).mono λr hr=>by
  rcases hr with hr|⟨r0,r1,r2,r3,r4,r5,r6⟩
  ·exact .inl hr
  ·exact .inr ⟨r0,r1,r2,r3,⟨r4,λx hx=>⟨_,λ_=>by omega,r5 x hx⟩⟩,r6,trivial⟩
theorem Ycp.T {aE:BA} (h0:0<=a1) (h1:a1<=1048576) (ga0_1:Zc RS maxLen aA) (ga0_3:aE.size<=maxLen) (ga0_5:Zc RS maxLen aJ) (ga0_6:Zc Yt maxLen aK):Tm (Zp 1) (λk=>Ycp.t k aB aA aD aE aG aJ aK a1) (λr=>r<0\/0<=r/\r<=a1/\Zc RS lim aA/\aE.size<=lim/\Zc RS lim aJ/\Zc Yt lim aK/\((Zg aA+Zg aJ+Zg aK:Nat):Int)<=64*(a1-r)/\True):=by
 unfold Ycp.t Ycp.g;have hm:=Zh;have hlim:lim=1048576:=rfl;refine bd1_t (λi hi=>up0 hi) (YI.T Au Au Au) (λy2 hy1=>?_);rcases hy1 with hy1|⟨p5,p6,q3,q4,_⟩
 ·exact Tm.ite (λ_=>Tm.ret (by left;omega)) (λh=>by simp at h;omega)
 refine Tm.ite (λh7=>?_) (λh7=>?_)
 ·try simp only[bz] at h7
  exact Tm.ret (by first|(left;omega)|(right;refine⟨?_,?_,?_,?_,?_,?_,?_,trivial⟩<;>first|assumption|omega))
 ·try simp only[bz] at h7
  refine YW.tm (λi hi=>hi) (YW.T Au Au Au Au Au) (λy9 hy8=>?_);rcases hy8 with hy8|⟨p14,p15,q10,q11,q12,q13,_⟩
  ·exact Tm.ite (λ_=>Tm.ret (by left;omega)) (λh=>by simp at h;omega)
  refine Tm.ite (λh16=>?_) (λh16=>?_)
  ·try simp only[bz] at h16
   exact Tm.ret (by first|(left;omega)|(right;refine⟨?_,?_,?_,?_,?_,?_,?_,trivial⟩<;>first|assumption|omega))
  ·try simp only[bz] at h16
   exact Tm.ret (by first|(left;omega)|(right;refine⟨?_,?_,?_,?_,?_,?_,?_,trivial⟩<;>first|assumption|omega))
def Yn (B:Nat) (r:List D):Prop:=∃ (c0:Int) (c1:LD) (c2:Int) (c3:BA) (c4:Int) (c5:LD) (c6:LD),r=[.int .i64 c0,.sl c1,.int .i64 c2,.str c3,.int .i64 c4,.sl c5,.sl c6]/\(Lit.int .i64 c0).wf=true/\Zc RS B c1/\(Lit.int .i64 c2).wf=true/\c3.size<=B/\(Lit.int .i64 c4).wf=true/\Zc RS B c5/\Zc Yt B c6/\True
theorem Yn.open {B:Nat} {r:List D} (h:Yn B r):∃ (c0:Int) (c1:LD) (c2:Int) (c3:BA) (c4:Int) (c5:LD) (c6:LD),r=[.int .i64 c0,.sl c1,.int .i64 c2,.str c3,.int .i64 c4,.sl c5,.sl c6]/\(Lit.int .i64 c0).wf=true/\Zc RS B c1/\(Lit.int .i64 c2).wf=true/\c3.size<=B/\(Lit.int .i64 c4).wf=true/\Zc RS B c5/\Zc Yt B c6/\True:=h
theorem Yn.mono {B B':Nat} (hb:B<=B') {r:List D} (h:Yn B r):Yn B' r:=by
 obtain⟨c0,c1,c2,c3,c4,c5,c6,rfl,k0,k1,k2,k3,k4,k5,k6,_⟩:=h;exact⟨_,_,_,_,_,_,_,rfl,k0,⟨Nat.le_trans k1.1 hb,λr hr=>(k1.2 r hr).mono hb⟩,k2,(Nat.le_trans k3 hb),k4,⟨Nat.le_trans k5.1 hb,λr hr=>(k5.2 r hr).mono hb⟩,⟨Nat.le_trans k6.1 hb,λr hr=>(k6.2 r hr).mono hb⟩,trivial⟩
theorem Yn.wide {xs:LD} (h:Zc Yn lim xs):Zc Yn 2097152 xs:=⟨Nat.le_trans h.1 De,λr hr=>(h.2 r hr).mono De⟩
theorem Yn.len {B:Nat} {r:List D} (h:Yn B r):r.length=7:=by
 obtain⟨c0,c1,c2,c3,c4,c5,c6,rfl,_⟩:=h.open;rfl
theorem Yn.gets {B:Nat} {xs:LD} (h:∀ r∈xs,Yn B r) {v:Int} (h0:0<=v) (h1:v<xs.length):gR xs v=[.int .i64 (gI xs v 0),.sl (gL xs v 1),.int .i64 (gI xs v 2),.str (gS xs v 3),.int .i64 (gI xs v 4),.sl (gL xs v 5),.sl (gL xs v 6)]/\(Lit.int .i64 (gI xs v 0)).wf=true/\Zc RS B (gL xs v 1)/\(Lit.int .i64 (gI xs v 2)).wf=true/\(gS xs v 3).size<=B/\(Lit.int .i64 (gI xs v 4)).wf=true/\Zc RS B (gL xs v 5)/\Zc Yt B (gL xs v 6)/\True:=by
 obtain⟨c0,c1,c2,c3,c4,c5,c6,e,k0,k1,k2,k3,k4,k5,k6,_⟩:=(h (gR xs v) (Zan h0 h1)).open;unfold gI gL gS;rw[e];exact⟨rfl,k0,k1,k2,k3,k4,k5,k6,trivial⟩
theorem Yn.rows {B:Nat} {xs:LD} (h:∀ r∈xs,Yn B r) {v:Int} (h0:0<=v) (h1:v<xs.length) {β:Type} (F:List D->Option β):Zam xs v F=F [.int .i64 (gI xs v 0),.sl (gL xs v 1),.int .i64 (gI xs v 2),.str (gS xs v 3),.int .i64 (gI xs v 4),.sl (gL xs v 5),.sl (gL xs v 6)]:=by
 rw[<- (Yn.gets h h0 h1).1];exact ZW h0 h1 F
theorem Yn.get {B:Nat} {xs:LD} (h:Zc Yn B xs) {v:Int} (h0:0<=v) (h1:v<xs.length):gR xs v=[.int .i64 (gI xs v 0),.sl (gL xs v 1),.int .i64 (gI xs v 2),.str (gS xs v 3),.int .i64 (gI xs v 4),.sl (gL xs v 5),.sl (gL xs v 6)]/\(Lit.int .i64 (gI xs v 0)).wf=true/\Zc RS B (gL xs v 1)/\(Lit.int .i64 (gI xs v 2)).wf=true/\(gS xs v 3).size<=B/\(Lit.int .i64 (gI xs v 4)).wf=true/\Zc RS B (gL xs v 5)/\Zc Yt B (gL xs v 6)/\True:=Yn.gets h.2 h0 h1
theorem Yn.row {B:Nat} {xs:LD} (h:Zc Yn B xs) {v:Int} (h0:0<=v) (h1:v<xs.length) {β:Type} (F:List D->Option β):Zam xs v F=F [.int .i64 (gI xs v 0),.sl (gL xs v 1),.int .i64 (gI xs v 2),.str (gS xs v 3),.int .i64 (gI xs v 4),.sl (gL xs v 5),.sl (gL xs v 6)]:=Yn.rows h.2 h0 h1 F
theorem Ybj.T (h0:0<=a1) (h1:a1<=1048576) (ga0:Zc Yn maxLen a0):Tm (Zp 1) (λk=>Ybj.t k a0 a1) (λr=>r<0\/0<=r/\r<=a1/\Zc Yn lim a0/\((Zg a0:Nat):Int)<=64*(a1-r)/\True):=by
 unfold Ybj.t Ybj.g;have hm:=Zh;have hlim:lim=1048576:=rfl;have hlen:=ga0.1;try rw[Zb (x:=a1-(a0.length:Int)) Om Om]
 refine Tm.ite (λh1=>?_) (λh1=>?_)
 ·try simp only[bz] at h1
  exact Tm.ret (by first|(left;omega)|(right;refine⟨?_,?_,?_,?_,trivial⟩<;>first|assumption|omega))
 ·try simp only[bz] at h1
  refine Tm.loop (okk:=(Zp 1)) (p:=λk=>k) (λi hi=>up0 hi) (b:=λk=>Ybj.l0 k a0 (λz0=>some z0)) (λv=>match v with|(u0,i)=>(((a0.length:Int))-i).toNat) (λv=>match v with|(u0,i)=>0<=u0/\u0<=a1/\0<=i/\i<=(a0.length:Int)/\(∀ r∈a0.take i.toNat,Yn lim r)/\((Zg (a0.take i.toNat):Nat):Int)<=64*(a1-a0.length-u0+i)) ?_ ?_ ?_
  ·rintro⟨u0,i⟩ hI;try simp only[] at hI⊢
   have:big=2^64:=rfl;have:=ga0.1;omega
  ·exact⟨Om,Om,Om,by simp,by simp,by simp[Zg]⟩
  ·rintro⟨u0,i⟩ hI L hL;try simp only[] at hI
   obtain⟨u0a,u0b,i0,i1,hr,hwt⟩:=hI;simp only[Ybj.l0,atR,rdQ,Q.ask]
   refine Tm.ite (λh2=>?_) (λh2=>?_)
   ·try simp only[bz] at h2
    refine Tm.atRow Au Au (λx3 hx4 hm5=>?_);obtain⟨c6,c7,c8,c9,c10,c11,c12,rfl,g13,g14,g15,g16,g17,g18,g19,_⟩:=(ga0.2 x3 hm5).open;refine Tm.uncons ?_;refine Tm.dInt ?_;refine Tm.uncons ?_;refine Tm.dSl ?_;refine Tm.uncons ?_;refine Tm.dInt ?_;refine Tm.uncons ?_;refine Tm.dStr ?_;refine Tm.uncons ?_;refine Tm.dInt ?_;refine Tm.uncons ?_;refine Tm.dSl ?_;refine Tm.uncons ?_;refine Tm.dSl ?_;refine Tm.atEnd ?_;refine bd1_p (t:=λk=>Ycp.t k _ _ _ _ _ _ _ _) (λi hi=>(And.left hi)) (Ycp.T Au Au Au Au Au Au) (λy21 hy20=>?_);rcases hy20 with hy20|⟨p27,p28,q22,q23,q24,q25,q26,_⟩
    ·exact Tm.ite (λ_=>Tm.ret (by left;omega)) (λh=>by simp at h;omega)
    refine Tm.ite (λh29=>?_) (λh29=>?_)
    ·try simp only[bz] at h29
     exact Tm.ret (by first|(left;omega)|(rw[List.take_of_length_le Om] at hwt;exact .inr ⟨Om,Om,⟨by simp only[lim];omega,Zaw Om hr⟩,Om,trivial⟩))
    ·try simp only[bz] at h29
     try rw[Zb (x:=i+1) Om Om]
     have hwx:=ZaE i0 hx4;simp only[Z7,wtD] at hwx;refine hL (y21,(i+1)) ⟨Om,Om,Om,Om,Zbp i0 hx4 hr ⟨_,_,_,_,_,_,_,rfl,by first|assumption|omega,by first|assumption|omega,by first|assumption|omega,by first|assumption|omega,by first|assumption|omega,by first|assumption|omega,by first|assumption|omega,trivial⟩,Om⟩ Sm
   ·try simp only[bz] at h2
    exact Tm.ret (by first|(left;omega)|(rw[List.take_of_length_le Om] at hwt;exact .inr ⟨Om,Om,⟨by simp only[lim];omega,Zaw Om hr⟩,Om,trivial⟩))
theorem YbU.T {aB:BA} (h0:0<=a1) (h1:a1<=1048576) (ga0_0:aB.size<=maxLen) (ga0_1:Zc Yn maxLen aA):Tm (Zp 1) (λk=>YbU.t k aB aA a1) (λr=>r<0\/0<=r/\r<=a1/\aB.size<=lim/\Zc Yn lim aA/\((Zg aA:Nat):Int)<=64*(a1-r)/\True):=by
 unfold YbU.t YbU.g;have hm:=Zh;have hlim:lim=1048576:=rfl;try rw[Zb (x:=a1-(aB.size:Int)) Om Om]
 refine Tm.ite (λh1=>?_) (λh1=>?_)
 ·try simp only[bz] at h1
  exact Tm.ret (by first|(left;omega)|(right;refine⟨?_,?_,?_,?_,?_,trivial⟩<;>first|assumption|omega))
 ·try simp only[bz] at h1
  refine bd1_t (λi hi=>hi) (Ybj.T Au Au Au) (λy3 hy2=>?_);rcases hy2 with hy2|⟨p6,p7,q4,q5,_⟩
  ·exact Tm.ite (λ_=>Tm.ret (by left;omega)) (λh=>by simp at h;omega)
  refine Tm.ite (λh8=>?_) (λh8=>?_)
  ·try simp only[bz] at h8
   exact Tm.ret (by first|(left;omega)|(right;refine⟨?_,?_,?_,?_,?_,trivial⟩<;>first|assumption|omega))
  ·try simp only[bz] at h8
   exact Tm.ret (by first|(left;omega)|(right;refine⟨?_,?_,?_,?_,?_,trivial⟩<;>first|assumption|omega))
def Yd (B:Nat) (r:List D):Prop:=∃ (c0:BA) (c1:LD),r=[.str c0,.sl c1]/\c0.size<=B/\Zc Yn B c1/\True
theorem Yd.open {B:Nat} {r:List D} (h:Yd B r):∃ (c0:BA) (c1:LD),r=[.str c0,.sl c1]/\c0.size<=B/\Zc Yn B c1/\True:=h
theorem Yd.mono {B B':Nat} (hb:B<=B') {r:List D} (h:Yd B r):Yd B' r:=by
 obtain⟨c0,c1,rfl,k0,k1,_⟩:=h;exact⟨_,_,rfl,(Nat.le_trans k0 hb),⟨Nat.le_trans k1.1 hb,λr hr=>(k1.2 r hr).mono hb⟩,trivial⟩
theorem Yd.wide {xs:LD} (h:Zc Yd lim xs):Zc Yd 2097152 xs:=⟨Nat.le_trans h.1 De,λr hr=>(h.2 r hr).mono De⟩
theorem Yd.len {B:Nat} {r:List D} (h:Yd B r):r.length=2:=by
 obtain⟨c0,c1,rfl,_⟩:=h.open;rfl
theorem Yd.gets {B:Nat} {xs:LD} (h:∀ r∈xs,Yd B r) {v:Int} (h0:0<=v) (h1:v<xs.length):gR xs v=[.str (gS xs v 0),.sl (gL xs v 1)]/\(gS xs v 0).size<=B/\Zc Yn B (gL xs v 1)/\True:=by
 obtain⟨c0,c1,e,k0,k1,_⟩:=(h (gR xs v) (Zan h0 h1)).open;unfold gL gS;rw[e];exact⟨rfl,k0,k1,trivial⟩
theorem Yd.rows {B:Nat} {xs:LD} (h:∀ r∈xs,Yd B r) {v:Int} (h0:0<=v) (h1:v<xs.length) {β:Type} (F:List D->Option β):Zam xs v F=F [.str (gS xs v 0),.sl (gL xs v 1)]:=by
 rw[<- (Yd.gets h h0 h1).1];exact ZW h0 h1 F
theorem Yd.get {B:Nat} {xs:LD} (h:Zc Yd B xs) {v:Int} (h0:0<=v) (h1:v<xs.length):gR xs v=[.str (gS xs v 0),.sl (gL xs v 1)]/\(gS xs v 0).size<=B/\Zc Yn B (gL xs v 1)/\True:=Yd.gets h.2 h0 h1
theorem Yd.row {B:Nat} {xs:LD} (h:Zc Yd B xs) {v:Int} (h0:0<=v) (h1:v<xs.length) {β:Type} (F:List D->Option β):Zam xs v F=F [.str (gS xs v 0),.sl (gL xs v 1)]:=Yd.rows h.2 h0 h1 F
theorem YaI.T (h0:0<=a1) (h1:a1<=1048576) (ga0:Zc Yd maxLen a0):Tm (Zp 1) (λk=>YaI.t k a0 a1) (λr=>r<0\/0<=r/\r<=a1/\Zc Yd lim a0/\((Zg a0:Nat):Int)<=64*(a1-r)/\True):=by
 unfold YaI.t YaI.g;have hm:=Zh;have hlim:lim=1048576:=rfl;have hlen:=ga0.1;try rw[Zb (x:=a1-(a0.length:Int)) Om Om]
 refine Tm.ite (λh1=>?_) (λh1=>?_)
 ·try simp only[bz] at h1
  exact Tm.ret (by first|(left;omega)|(right;refine⟨?_,?_,?_,?_,trivial⟩<;>first|assumption|omega))
 ·try simp only[bz] at h1
  refine Tm.loop (okk:=(Zp 1)) (p:=λk=>k) (λi hi=>up0 hi) (b:=λk=>YaI.l0 k a0 (λz0=>some z0)) (λv=>match v with|(u0,i)=>(((a0.length:Int))-i).toNat) (λv=>match v with|(u0,i)=>0<=u0/\u0<=a1/\0<=i/\i<=(a0.length:Int)/\(∀ r∈a0.take i.toNat,Yd lim r)/\((Zg (a0.take i.toNat):Nat):Int)<=64*(a1-a0.length-u0+i)) ?_ ?_ ?_
  ·rintro⟨u0,i⟩ hI;try simp only[] at hI⊢
   have:big=2^64:=rfl;have:=ga0.1;omega
  ·exact⟨Om,Om,Om,by simp,by simp,by simp[Zg]⟩
  ·rintro⟨u0,i⟩ hI L hL;try simp only[] at hI
   obtain⟨u0a,u0b,i0,i1,hr,hwt⟩:=hI;simp only[YaI.l0,atR,rdQ,Q.ask]
   refine Tm.ite (λh2=>?_) (λh2=>?_)
   ·try simp only[bz] at h2
    refine Tm.atRow Au Au (λx3 hx4 hm5=>?_);obtain⟨c6,c7,rfl,g8,g9,_⟩:=(ga0.2 x3 hm5).open;refine Tm.uncons ?_;refine Tm.dStr ?_;refine Tm.uncons ?_;refine Tm.dSl ?_;refine Tm.atEnd ?_;refine bd1_p (t:=λk=>YbU.t k _ _ _) (λi hi=>(And.left hi)) (YbU.T Au Au Au Au) (λy11 hy10=>?_);rcases hy10 with hy10|⟨p15,p16,q12,q13,q14,_⟩
    ·exact Tm.ite (λ_=>Tm.ret (by left;omega)) (λh=>by simp at h;omega)
    refine Tm.ite (λh17=>?_) (λh17=>?_)
    ·try simp only[bz] at h17
     exact Tm.ret (by first|(left;omega)|(rw[List.take_of_length_le Om] at hwt;exact .inr ⟨Om,Om,⟨by simp only[lim];omega,Zaw Om hr⟩,Om,trivial⟩))
    ·try simp only[bz] at h17
     try rw[Zb (x:=i+1) Om Om]
     have hwx:=ZaE i0 hx4;simp only[Z7,wtD] at hwx;refine hL (y11,(i+1)) ⟨Om,Om,Om,Om,Zbp i0 hx4 hr ⟨_,_,rfl,by first|assumption|omega,by first|assumption|omega,trivial⟩,Om⟩ Sm
   ·try simp only[bz] at h2
    exact Tm.ret (by first|(left;omega)|(rw[List.take_of_length_le Om] at hwt;exact .inr ⟨Om,Om,⟨by simp only[lim];omega,Zaw Om hr⟩,Om,trivial⟩))
theorem Yca.T {aA aY:BA} {bF:Bool} (h0:0<=a1) (h1:a1<=1048576) (ga0_1:aA.size<=maxLen) (ga0_3:Zc Ybl maxLen aE) (ga0_4:Zc RS maxLen aG) (ga0_5:Zc RSI maxLen aJ) (ga0_7:aY.size<=maxLen) (ga0_9:Zc RS maxLen bA) (ga0_10:Zc Yt maxLen bB) (ga0_11:Zc Yd maxLen bD):Tm (Zp 1) (λk=>Yca.t k aB aA aD aE aG aJ aK aY bE bA bB bD bF a1) (λr=>r<0\/0<=r/\r<=a1/\aA.size<=lim/\Zc Ybl lim aE/\Zc RS lim aG/\Zc RSI lim aJ/\aY.size<=lim/\Zc RS lim bA/\Zc Yt lim bB/\Zc Yd lim bD/\((Zg aE+Zg aG+Zg aJ+Zg bA+Zg bB+Zg bD:Nat):Int)<=64*(a1-r)/\True):=by
 unfold Yca.t Yca.g;have hm:=Zh;have hlim:lim=1048576:=rfl;try rw[Zb (x:=a1-(aA.size:Int)) Om Om]
 refine Tm.ite (λh1=>?_) (λh1=>?_)
 ·try simp only[bz] at h1
  exact Tm.ret (by first|(left;omega)|(right;refine⟨?_,?_,?_,?_,?_,?_,?_,?_,?_,?_,?_,trivial⟩<;>first|assumption|omega))
 ·try simp only[bz] at h1
  refine bd1_t (λi hi=>up0 hi) (Yb3.T Au Au Au Au Au) (λy3 hy2=>?_);rcases hy2 with hy2|⟨p8,p9,q4,q5,q6,q7,_⟩
  ·exact Tm.ite (λ_=>Tm.ret (by left;omega)) (λh=>by simp at h;omega)
  refine Tm.ite (λh10=>?_) (λh10=>?_)
  ·try simp only[bz] at h10
   exact Tm.ret (by first|(left;omega)|(right;refine⟨?_,?_,?_,?_,?_,?_,?_,?_,?_,?_,?_,trivial⟩<;>first|assumption|omega))
  ·try simp only[bz] at h10
   refine YW.tm (λi hi=>hi) (YW.T Au Au Au Au Au) (λy12 hy11=>?_);rcases hy11 with hy11|⟨p17,p18,q13,q14,q15,q16,_⟩
   ·exact Tm.ite (λ_=>Tm.ret (by left;omega)) (λh=>by simp at h;omega)
   refine Tm.ite (λh19=>?_) (λh19=>?_)
   ·try simp only[bz] at h19
    exact Tm.ret (by first|(left;omega)|(right;refine⟨?_,?_,?_,?_,?_,?_,?_,?_,?_,?_,?_,trivial⟩<;>first|assumption|omega))
   ·try simp only[bz] at h19
    refine bd1_t (λi hi=>hi) (YaI.T Au Au Au) (λy21 hy20=>?_);rcases hy20 with hy20|⟨p24,p25,q22,q23,_⟩
    ·exact Tm.ite (λ_=>Tm.ret (by left;omega)) (λh=>by simp at h;omega)
    refine Tm.ite (λh26=>?_) (λh26=>?_)
    ·try simp only[bz] at h26
     exact Tm.ret (by first|(left;omega)|(right;refine⟨?_,?_,?_,?_,?_,?_,?_,?_,?_,?_,?_,trivial⟩<;>first|assumption|omega))
    ·try simp only[bz] at h26
     exact Tm.ret (by first|(left;omega)|(right;refine⟨?_,?_,?_,?_,?_,?_,?_,?_,?_,?_,?_,trivial⟩<;>first|assumption|omega))
def Ya (B:Nat) (r:List D):Prop:=∃ (c0:Int) (c1:BA) (c2:Int) (c3:LD) (c4:LD) (c5:LD) (c6:Int) (c7:BA) (c8:Int) (c9:LD) (c10:LD) (c11:LD) (c12:Bool),r=[.int .i64 c0,.str c1,.int .i64 c2,.sl c3,.sl c4,.sl c5,.int .i64 c6,.str c7,.int .i64 c8,.sl c9,.sl c10,.sl c11,.bool c12]/\(Lit.int .i64 c0).wf=true/\c1.size<=B/\(Lit.int .i64 c2).wf=true/\Zc Ybl B c3/\Zc RS B c4/\Zc RSI B c5/\(Lit.int .i64 c6).wf=true/\c7.size<=B/\(Lit.int .i64 c8).wf=true/\Zc RS B c9/\Zc Yt B c10/\Zc Yd B c11/\True
theorem Ya.open {B:Nat} {r:List D} (h:Ya B r):∃ (c0:Int) (c1:BA) (c2:Int) (c3:LD) (c4:LD) (c5:LD) (c6:Int) (c7:BA) (c8:Int) (c9:LD) (c10:LD) (c11:LD) (c12:Bool),r=[.int .i64 c0,.str c1,.int .i64 c2,.sl c3,.sl c4,.sl c5,.int .i64 c6,.str c7,.int .i64 c8,.sl c9,.sl c10,.sl c11,.bool c12]/\(Lit.int .i64 c0).wf=true/\c1.size<=B/\(Lit.int .i64 c2).wf=true/\Zc Ybl B c3/\Zc RS B c4/\Zc RSI B c5/\(Lit.int .i64 c6).wf=true/\c7.size<=B/\(Lit.int .i64 c8).wf=true/\Zc RS B c9/\Zc Yt B c10/\Zc Yd B c11/\True:=h
theorem Ya.mono {B B':Nat} (hb:B<=B') {r:List D} (h:Ya B r):Ya B' r:=by
 obtain⟨c0,c1,c2,c3,c4,c5,c6,c7,c8,c9,c10,c11,c12,rfl,k0,k1,k2,k3,k4,k5,k6,k7,k8,k9,k10,k11,_⟩:=h;exact⟨_,_,_,_,_,_,_,_,_,_,_,_,_,rfl,k0,(Nat.le_trans k1 hb),k2,⟨Nat.le_trans k3.1 hb,λr hr=>(k3.2 r hr).mono hb⟩,⟨Nat.le_trans k4.1 hb,λr hr=>(k4.2 r hr).mono hb⟩,⟨Nat.le_trans k5.1 hb,λr hr=>(k5.2 r hr).mono hb⟩,k6,(Nat.le_trans k7 hb),k8,⟨Nat.le_trans k9.1 hb,λr hr=>(k9.2 r hr).mono hb⟩,⟨Nat.le_trans k10.1 hb,λr hr=>(k10.2 r hr).mono hb⟩,⟨Nat.le_trans k11.1 hb,λr hr=>(k11.2 r hr).mono hb⟩,trivial⟩
theorem Ya.wide {xs:LD} (h:Zc Ya lim xs):Zc Ya 2097152 xs:=⟨Nat.le_trans h.1 De,λr hr=>(h.2 r hr).mono De⟩
theorem Ya.len {B:Nat} {r:List D} (h:Ya B r):r.length=13:=by
 obtain⟨c0,c1,c2,c3,c4,c5,c6,c7,c8,c9,c10,c11,c12,rfl,_⟩:=h.open;rfl
theorem Ya.gets {B:Nat} {xs:LD} (h:∀ r∈xs,Ya B r) {v:Int} (h0:0<=v) (h1:v<xs.length):gR xs v=[.int .i64 (gI xs v 0),.str (gS xs v 1),.int .i64 (gI xs v 2),.sl (gL xs v 3),.sl (gL xs v 4),.sl (gL xs v 5),.int .i64 (gI xs v 6),.str (gS xs v 7),.int .i64 (gI xs v 8),.sl (gL xs v 9),.sl (gL xs v 10),.sl (gL xs v 11),.bool (gB xs v 12)]/\(Lit.int .i64 (gI xs v 0)).wf=true/\(gS xs v 1).size<=B/\(Lit.int .i64 (gI xs v 2)).wf=true/\Zc Ybl B (gL xs v 3)/\Zc RS B (gL xs v 4)/\Zc RSI B (gL xs v 5)/\(Lit.int .i64 (gI xs v 6)).wf=true/\(gS xs v 7).size<=B/\(Lit.int .i64 (gI xs v 8)).wf=true/\Zc RS B (gL xs v 9)/\Zc Yt B (gL xs v 10)/\Zc Yd B (gL xs v 11)/\True:=by
 obtain⟨c0,c1,c2,c3,c4,c5,c6,c7,c8,c9,c10,c11,c12,e,k0,k1,k2,k3,k4,k5,k6,k7,k8,k9,k10,k11,_⟩:=(h (gR xs v) (Zan h0 h1)).open;unfold gB gI gL gS;rw[e];exact⟨rfl,k0,k1,k2,k3,k4,k5,k6,k7,k8,k9,k10,k11,trivial⟩
theorem Ya.rows {B:Nat} {xs:LD} (h:∀ r∈xs,Ya B r) {v:Int} (h0:0<=v) (h1:v<xs.length) {β:Type} (F:List D->Option β):Zam xs v F=F [.int .i64 (gI xs v 0),.str (gS xs v 1),.int .i64 (gI xs v 2),.sl (gL xs v 3),.sl (gL xs v 4),.sl (gL xs v 5),.int .i64 (gI xs v 6),.str (gS xs v 7),.int .i64 (gI xs v 8),.sl (gL xs v 9),.sl (gL xs v 10),.sl (gL xs v 11),.bool (gB xs v 12)]:=by
 rw[<- (Ya.gets h h0 h1).1];exact ZW h0 h1 F
theorem Ya.get {B:Nat} {xs:LD} (h:Zc Ya B xs) {v:Int} (h0:0<=v) (h1:v<xs.length):gR xs v=[.int .i64 (gI xs v 0),.str (gS xs v 1),.int .i64 (gI xs v 2),.sl (gL xs v 3),.sl (gL xs v 4),.sl (gL xs v 5),.int .i64 (gI xs v 6),.str (gS xs v 7),.int .i64 (gI xs v 8),.sl (gL xs v 9),.sl (gL xs v 10),.sl (gL xs v 11),.bool (gB xs v 12)]/\(Lit.int .i64 (gI xs v 0)).wf=true/\(gS xs v 1).size<=B/\(Lit.int .i64 (gI xs v 2)).wf=true/\Zc Ybl B (gL xs v 3)/\Zc RS B (gL xs v 4)/\Zc RSI B (gL xs v 5)/\(Lit.int .i64 (gI xs v 6)).wf=true/\(gS xs v 7).size<=B/\(Lit.int .i64 (gI xs v 8)).wf=true/\Zc RS B (gL xs v 9)/\Zc Yt B (gL xs v 10)/\Zc Yd B (gL xs v 11)/\True:=Ya.gets h.2 h0 h1
theorem Ya.row {B:Nat} {xs:LD} (h:Zc Ya B xs) {v:Int} (h0:0<=v) (h1:v<xs.length) {β:Type} (F:List D->Option β):Zam xs v F=F [.int .i64 (gI xs v 0),.str (gS xs v 1),.int .i64 (gI xs v 2),.sl (gL xs v 3),.sl (gL xs v 4),.sl (gL xs v 5),.int .i64 (gI xs v 6),.str (gS xs v 7),.int .i64 (gI xs v 8),.sl (gL xs v 9),.sl (gL xs v 10),.sl (gL xs v 11),.bool (gB xs v 12)]:=Ya.rows h.2 h0 h1 F
theorem Ya0.T (h0:0<=a1) (h1:a1<=1048576) (ga0:Zc Ya maxLen a0):Tm (Zp 1) (λk=>Ya0.t k a0 a1) (λr=>r<0\/0<=r/\r<=a1/\Zc Ya lim a0/\((Zg a0:Nat):Int)<=64*(a1-r)/\True):=by
 unfold Ya0.t Ya0.g;have hm:=Zh;have hlim:lim=1048576:=rfl;have hlen:=ga0.1;try rw[Zb (x:=a1-(a0.length:Int)) Om Om]
 refine Tm.ite (λh1=>?_) (λh1=>?_)
 ·try simp only[bz] at h1
  exact Tm.ret (by first|(left;omega)|(right;refine⟨?_,?_,?_,?_,trivial⟩<;>first|assumption|omega))
 ·try simp only[bz] at h1
  refine Tm.loop (okk:=(Zp 1)) (p:=λk=>k) (λi hi=>up0 hi) (b:=λk=>Ya0.l0 k a0 (λz0=>some z0)) (λv=>match v with|(u0,i)=>(((a0.length:Int))-i).toNat) (λv=>match v with|(u0,i)=>0<=u0/\u0<=a1/\0<=i/\i<=(a0.length:Int)/\(∀ r∈a0.take i.toNat,Ya lim r)/\((Zg (a0.take i.toNat):Nat):Int)<=64*(a1-a0.length-u0+i)) ?_ ?_ ?_
  ·rintro⟨u0,i⟩ hI;try simp only[] at hI⊢
   have:big=2^64:=rfl;have:=ga0.1;omega
  ·exact⟨Om,Om,Om,by simp,by simp,by simp[Zg]⟩
  ·rintro⟨u0,i⟩ hI L hL;try simp only[] at hI
   obtain⟨u0a,u0b,i0,i1,hr,hwt⟩:=hI;simp only[Ya0.l0,atR,rdQ,Q.ask]
   refine Tm.ite (λh2=>?_) (λh2=>?_)
   ·try simp only[bz] at h2
    refine Tm.atRow Au Au (λx3 hx4 hm5=>?_);obtain⟨c6,c7,c8,c9,c10,c11,c12,c13,c14,c15,c16,c17,c18,rfl,g19,g20,g21,g22,g23,g24,g25,g26,g27,g28,g29,g30,_⟩:=(ga0.2 x3 hm5).open;refine Tm.uncons ?_;refine Tm.dInt ?_;refine Tm.uncons ?_;refine Tm.dStr ?_;refine Tm.uncons ?_;refine Tm.dInt ?_;refine Tm.uncons ?_;refine Tm.dSl ?_;refine Tm.uncons ?_;refine Tm.dSl ?_;refine Tm.uncons ?_;refine Tm.dSl ?_;refine Tm.uncons ?_;refine Tm.dInt ?_;refine Tm.uncons ?_;refine Tm.dStr ?_;refine Tm.uncons ?_;refine Tm.dInt ?_;refine Tm.uncons ?_;refine Tm.dSl ?_;refine Tm.uncons ?_;refine Tm.dSl ?_;refine Tm.uncons ?_;refine Tm.dSl ?_;refine Tm.uncons ?_;refine Tm.dBool ?_;refine Tm.atEnd ?_;refine bd1_p (t:=λk=>Yca.t k _ _ _ _ _ _ _ _ _ _ _ _ _ _) (λi hi=>(And.left hi)) (Yca.T Au Au Au Au Au Au Au Au Au Au) (λy32 hy31=>?_);rcases hy31 with hy31|⟨p42,p43,q33,q34,q35,q36,q37,q38,q39,q40,q41,_⟩
    ·exact Tm.ite (λ_=>Tm.ret (by left;omega)) (λh=>by simp at h;omega)
    refine Tm.ite (λh44=>?_) (λh44=>?_)
    ·try simp only[bz] at h44
     exact Tm.ret (by first|(left;omega)|(rw[List.take_of_length_le Om] at hwt;exact .inr ⟨Om,Om,⟨by simp only[lim];omega,Zaw Om hr⟩,Om,trivial⟩))
    ·try simp only[bz] at h44
     try rw[Zb (x:=i+1) Om Om]
     have hwx:=ZaE i0 hx4;simp only[Z7,wtD] at hwx;refine hL (y32,(i+1)) ⟨Om,Om,Om,Om,Zbp i0 hx4 hr ⟨_,_,_,_,_,_,_,_,_,_,_,_,_,rfl,by first|assumption|omega,by first|assumption|omega,by first|assumption|omega,by first|assumption|omega,by first|assumption|omega,by first|assumption|omega,by first|assumption|omega,by first|assumption|omega,by first|assumption|omega,by first|assumption|omega,by first|assumption|omega,by first|assumption|omega,trivial⟩,Om⟩ Sm
   ·try simp only[bz] at h2
    exact Tm.ret (by first|(left;omega)|(rw[List.take_of_length_le Om] at hwt;exact .inr ⟨Om,Om,⟨by simp only[lim];omega,Zaw Om hr⟩,Om,trivial⟩))
theorem YbB.T {aB aA:BA} (h0:0<=a1) (h1:a1<=1048576) (ga0_0:aB.size<=maxLen) (ga0_1:aA.size<=maxLen):Tm Zr (λk=>YbB.t k aB aA a1) (λr=>r<0\/0<=r/\r<=a1/\aB.size<=lim/\aA.size<=lim/\True):=by
 unfold YbB.t YbB.g;have hm:=Zh;have hlim:lim=1048576:=rfl;try rw[Zb (x:=a1-(aB.size:Int)) Om Om]
 refine Tm.ite (λh1=>?_) (λh1=>?_)
 ·try simp only[bz] at h1
  exact Tm.ret (by first|(left;omega)|(right;refine⟨?_,?_,?_,?_,trivial⟩<;>first|assumption|omega))
 ·try simp only[bz] at h1
  try rw[Zb (x:=((a1-(aB.size:Int)))-(aA.size:Int)) Om Om]
  refine Tm.ite (λh2=>?_) (λh2=>?_)
  ·try simp only[bz] at h2
   exact Tm.ret (by first|(left;omega)|(right;refine⟨?_,?_,?_,?_,trivial⟩<;>first|assumption|omega))
  ·try simp only[bz] at h2
   exact Tm.ret (by first|(left;omega)|(right;refine⟨?_,?_,?_,?_,trivial⟩<;>first|assumption|omega))
def RSS (B:Nat) (r:List D):Prop:=∃ (c0:BA) (c1:BA),r=[.str c0,.str c1]/\c0.size<=B/\c1.size<=B/\True
theorem RSS.open {B:Nat} {r:List D} (h:RSS B r):∃ (c0:BA) (c1:BA),r=[.str c0,.str c1]/\c0.size<=B/\c1.size<=B/\True:=h
theorem RSS.mono {B B':Nat} (hb:B<=B') {r:List D} (h:RSS B r):RSS B' r:=by
 obtain⟨c0,c1,rfl,k0,k1,_⟩:=h;exact⟨_,_,rfl,(Nat.le_trans k0 hb),(Nat.le_trans k1 hb),trivial⟩
theorem RSS.wide {xs:LD} (h:Zc RSS lim xs):Zc RSS 2097152 xs:=⟨Nat.le_trans h.1 De,λr hr=>(h.2 r hr).mono De⟩
theorem RSS.len {B:Nat} {r:List D} (h:RSS B r):r.length=2:=by
 obtain⟨c0,c1,rfl,_⟩:=h.open;rfl
theorem RSS.flat {B:Nat} {xs:LD} (h:∀ r∈xs,RSS B r):ZcV 2 xs:=λr hr=>by
 obtain⟨c0,c1,rfl,_⟩:=(h r hr).open;exact⟨rfl,by simp[Zak]⟩
theorem RSS.wt {B:Nat} {xs:LD} (h:∀ r∈xs,RSS B r):Zg xs=2*xs.length:=wt_flat (R:=RSS B) (λr h=>by obtain⟨c0,c1,rfl,_⟩:=h;rfl) xs h
theorem RSS.deep {B:Nat} {xs:LD} (h:∀ r∈xs,RSS B r):Za xs=xs.map (·.map C.d):=deep_flat (R:=RSS B) (λr h=>by obtain⟨c0,c1,rfl,_⟩:=h;rfl) xs h
theorem RSS.gets {B:Nat} {xs:LD} (h:∀ r∈xs,RSS B r) {v:Int} (h0:0<=v) (h1:v<xs.length):gR xs v=[.str (gS xs v 0),.str (gS xs v 1)]/\(gS xs v 0).size<=B/\(gS xs v 1).size<=B/\True:=by
 obtain⟨c0,c1,e,k0,k1,_⟩:=(h (gR xs v) (Zan h0 h1)).open;unfold gS;rw[e];exact⟨rfl,k0,k1,trivial⟩
theorem RSS.rows {B:Nat} {xs:LD} (h:∀ r∈xs,RSS B r) {v:Int} (h0:0<=v) (h1:v<xs.length) {β:Type} (F:List D->Option β):Zam xs v F=F [.str (gS xs v 0),.str (gS xs v 1)]:=by
 rw[<- (RSS.gets h h0 h1).1];exact ZW h0 h1 F
theorem RSS.get {B:Nat} {xs:LD} (h:Zc RSS B xs) {v:Int} (h0:0<=v) (h1:v<xs.length):gR xs v=[.str (gS xs v 0),.str (gS xs v 1)]/\(gS xs v 0).size<=B/\(gS xs v 1).size<=B/\True:=RSS.gets h.2 h0 h1
theorem RSS.row {B:Nat} {xs:LD} (h:Zc RSS B xs) {v:Int} (h0:0<=v) (h1:v<xs.length) {β:Type} (F:List D->Option β):Zam xs v F=F [.str (gS xs v 0),.str (gS xs v 1)]:=RSS.rows h.2 h0 h1 F
theorem Yas.T (h0:0<=a1) (h1:a1<=1048576) (ga0:Zc RSS maxLen a0):Tm Zr (λk=>Yas.t k a0 a1) (λr=>r<0\/0<=r/\r<=a1/\Zc RSS lim a0/\((Zg a0:Nat):Int)<=64*(a1-r)/\True):=by
 unfold Yas.t Yas.g;have hm:=Zh;have hlim:lim=1048576:=rfl;have hlen:=ga0.1;try rw[Zb (x:=a1-(a0.length:Int)) Om Om]
 refine Tm.ite (λh1=>?_) (λh1=>?_)
 ·try simp only[bz] at h1
  exact Tm.ret (by first|(left;omega)|(right;refine⟨?_,?_,?_,?_,trivial⟩<;>first|assumption|omega))
 ·try simp only[bz] at h1
  refine Tm.loop (okk:=Zr) (p:=λk=>k) (λi hi=>hi) (b:=λk=>Yas.l0 k a0 (λz0=>some z0)) (λv=>match v with|(u0,i)=>(((a0.length:Int))-i).toNat) (λv=>match v with|(u0,i)=>0<=u0/\u0<=a1/\0<=i/\i<=(a0.length:Int)/\(∀ r∈a0.take i.toNat,RSS lim r)/\((Zg (a0.take i.toNat):Nat):Int)<=64*(a1-a0.length-u0+i)) ?_ ?_ ?_
  ·rintro⟨u0,i⟩ hI;try simp only[] at hI⊢
   have:big=2^64:=rfl;have:=ga0.1;omega
  ·exact⟨Om,Om,Om,by simp,by simp,by simp[Zg]⟩
  ·rintro⟨u0,i⟩ hI L hL;try simp only[] at hI
   obtain⟨u0a,u0b,i0,i1,hr,hwt⟩:=hI;simp only[Yas.l0,atR,rdQ,Q.ask]
   refine Tm.ite (λh2=>?_) (λh2=>?_)
   ·try simp only[bz] at h2
    refine Tm.atRow Au Au (λx3 hx4 hm5=>?_);obtain⟨c6,c7,rfl,g8,g9,_⟩:=(ga0.2 x3 hm5).open;refine Tm.uncons ?_;refine Tm.dStr ?_;refine Tm.uncons ?_;refine Tm.dStr ?_;refine Tm.atEnd ?_;refine bd1_p (t:=λk=>YbB.t k _ _ _) (λi hi=>(And.left hi)) (YbB.T Au Au Au Au) (λy11 hy10=>?_);rcases hy10 with hy10|⟨p14,p15,q12,q13,_⟩
    ·exact Tm.ite (λ_=>Tm.ret (by left;omega)) (λh=>by simp at h;omega)
    refine Tm.ite (λh16=>?_) (λh16=>?_)
    ·try simp only[bz] at h16
     exact Tm.ret (by first|(left;omega)|(rw[List.take_of_length_le Om] at hwt;exact .inr ⟨Om,Om,⟨by simp only[lim];omega,Zaw Om hr⟩,Om,trivial⟩))
    ·try simp only[bz] at h16
     try rw[Zb (x:=i+1) Om Om]
     have hwx:=ZaE i0 hx4;simp only[Z7,wtD] at hwx;refine hL (y11,(i+1)) ⟨Om,Om,Om,Om,Zbp i0 hx4 hr ⟨_,_,rfl,by first|assumption|omega,by first|assumption|omega,trivial⟩,Om⟩ Sm
   ·try simp only[bz] at h2
    exact Tm.ret (by first|(left;omega)|(rw[List.take_of_length_le Om] at hwt;exact .inr ⟨Om,Om,⟨by simp only[lim];omega,Zaw Om hr⟩,Om,trivial⟩))
theorem Ybv.T {aB:BA} (h0:0<=a1) (h1:a1<=1048576) (ga0_0:aB.size<=maxLen) (ga0_1:Zc RSS maxLen aA) (ga0_2:Zc RS maxLen aD):Tm Zr (λk=>Ybv.t k aB aA aD aE a1) (λr=>r<0\/0<=r/\r<=a1/\aB.size<=lim/\Zc RSS lim aA/\Zc RS lim aD/\((Zg aA+Zg aD:Nat):Int)<=64*(a1-r)/\True):=by
 unfold Ybv.t Ybv.g;have hm:=Zh;have hlim:lim=1048576:=rfl;try rw[Zb (x:=a1-(aB.size:Int)) Om Om]
 refine Tm.ite (λh1=>?_) (λh1=>?_)
 ·try simp only[bz] at h1
  exact Tm.ret (by first|(left;omega)|(right;refine⟨?_,?_,?_,?_,?_,?_,trivial⟩<;>first|assumption|omega))
 ·try simp only[bz] at h1
  refine bd1_t (λi hi=>hi) (Yas.T Au Au Au) (λy3 hy2=>?_);rcases hy2 with hy2|⟨p6,p7,q4,q5,_⟩
  ·exact Tm.ite (λ_=>Tm.ret (by left;omega)) (λh=>by simp at h;omega)
  refine Tm.ite (λh8=>?_) (λh8=>?_)
  ·try simp only[bz] at h8
   exact Tm.ret (by first|(left;omega)|(right;refine⟨?_,?_,?_,?_,?_,?_,trivial⟩<;>first|assumption|omega))
  ·try simp only[bz] at h8
   refine bd1_t (λi hi=>hi) (YI.T Au Au Au) (λy10 hy9=>?_);rcases hy9 with hy9|⟨p13,p14,q11,q12,_⟩
   ·exact Tm.ite (λ_=>Tm.ret (by left;omega)) (λh=>by simp at h;omega)
   refine Tm.ite (λh15=>?_) (λh15=>?_)
   ·try simp only[bz] at h15
    exact Tm.ret (by first|(left;omega)|(right;refine⟨?_,?_,?_,?_,?_,?_,trivial⟩<;>first|assumption|omega))
   ·try simp only[bz] at h15
    exact Tm.ret (by first|(left;omega)|(right;refine⟨?_,?_,?_,?_,?_,?_,trivial⟩<;>first|assumption|omega))
theorem YbT.T {aB:BA} (h0:0<=a1) (h1:a1<=1048576) (ga0_0:aB.size<=maxLen) (ga0_1:Zc RSS maxLen aA) (ga0_2:Zc RS maxLen aD):Tm Zr (λk=>YbT.t k aB aA aD aE aG aJ a1) (λr=>r<0\/0<=r/\r<=a1/\aB.size<=lim/\Zc RSS lim aA/\Zc RS lim aD/\((Zg aA+Zg aD:Nat):Int)<=64*(a1-r)/\True):=by
 unfold YbT.t YbT.g;have hm:=Zh;have hlim:lim=1048576:=rfl;refine bd1_t (λi hi=>hi) (Ybv.T Au Au Au Au Au) (λy2 hy1=>?_);rcases hy1 with hy1|⟨p7,p8,q3,q4,q5,q6,_⟩
 ·exact Tm.ite (λ_=>Tm.ret (by left;omega)) (λh=>by simp at h;omega)
 refine Tm.ite (λh9=>?_) (λh9=>?_)
 ·try simp only[bz] at h9
  exact Tm.ret (by first|(left;omega)|(right;refine⟨?_,?_,?_,?_,?_,?_,trivial⟩<;>first|assumption|omega))
 ·try simp only[bz] at h9
  exact Tm.ret (by first|(left;omega)|(right;refine⟨?_,?_,?_,?_,?_,?_,trivial⟩<;>first|assumption|omega))
def YQ (B:Nat) (r:List D):Prop:=∃ (c0:BA) (c1:LD) (c2:LD) (c3:Int) (c4:Int) (c5:Int),r=[.str c0,.sl c1,.sl c2,.int .i64 c3,.int .i64 c4,.int .i64 c5]/\c0.size<=B/\Zc RSS B c1/\Zc RS B c2/\(Lit.int .i64 c3).wf=true/\(Lit.int .i64 c4).wf=true/\(Lit.int .i64 c5).wf=true/\True
theorem YQ.open {B:Nat} {r:List D} (h:YQ B r):∃ (c0:BA) (c1:LD) (c2:LD) (c3:Int) (c4:Int) (c5:Int),r=[.str c0,.sl c1,.sl c2,.int .i64 c3,.int .i64 c4,.int .i64 c5]/\c0.size<=B/\Zc RSS B c1/\Zc RS B c2/\(Lit.int .i64 c3).wf=true/\(Lit.int .i64 c4).wf=true/\(Lit.int .i64 c5).wf=true/\True:=h
theorem YQ.mono {B B':Nat} (hb:B<=B') {r:List D} (h:YQ B r):YQ B' r:=by
 obtain⟨c0,c1,c2,c3,c4,c5,rfl,k0,k1,k2,k3,k4,k5,_⟩:=h;exact⟨_,_,_,_,_,_,rfl,(Nat.le_trans k0 hb),⟨Nat.le_trans k1.1 hb,λr hr=>(k1.2 r hr).mono hb⟩,⟨Nat.le_trans k2.1 hb,λr hr=>(k2.2 r hr).mono hb⟩,k3,k4,k5,trivial⟩
theorem YQ.wide {xs:LD} (h:Zc YQ lim xs):Zc YQ 2097152 xs:=⟨Nat.le_trans h.1 De,λr hr=>(h.2 r hr).mono De⟩
theorem YQ.len {B:Nat} {r:List D} (h:YQ B r):r.length=6:=by
 obtain⟨c0,c1,c2,c3,c4,c5,rfl,_⟩:=h.open;rfl
theorem YQ.gets {B:Nat} {xs:LD} (h:∀ r∈xs,YQ B r) {v:Int} (h0:0<=v) (h1:v<xs.length):gR xs v=[.str (gS xs v 0),.sl (gL xs v 1),.sl (gL xs v 2),.int .i64 (gI xs v 3),.int .i64 (gI xs v 4),.int .i64 (gI xs v 5)]/\(gS xs v 0).size<=B/\Zc RSS B (gL xs v 1)/\Zc RS B (gL xs v 2)/\(Lit.int .i64 (gI xs v 3)).wf=true/\(Lit.int .i64 (gI xs v 4)).wf=true/\(Lit.int .i64 (gI xs v 5)).wf=true/\True:=by
 obtain⟨c0,c1,c2,c3,c4,c5,e,k0,k1,k2,k3,k4,k5,_⟩:=(h (gR xs v) (Zan h0 h1)).open;unfold gI gL gS;rw[e];exact⟨rfl,k0,k1,k2,k3,k4,k5,trivial⟩
theorem YQ.rows {B:Nat} {xs:LD} (h:∀ r∈xs,YQ B r) {v:Int} (h0:0<=v) (h1:v<xs.length) {β:Type} (F:List D->Option β):Zam xs v F=F [.str (gS xs v 0),.sl (gL xs v 1),.sl (gL xs v 2),.int .i64 (gI xs v 3),.int .i64 (gI xs v 4),.int .i64 (gI xs v 5)]:=by
 rw[<- (YQ.gets h h0 h1).1];exact ZW h0 h1 F
theorem YQ.get {B:Nat} {xs:LD} (h:Zc YQ B xs) {v:Int} (h0:0<=v) (h1:v<xs.length):gR xs v=[.str (gS xs v 0),.sl (gL xs v 1),.sl (gL xs v 2),.int .i64 (gI xs v 3),.int .i64 (gI xs v 4),.int .i64 (gI xs v 5)]/\(gS xs v 0).size<=B/\Zc RSS B (gL xs v 1)/\Zc RS B (gL xs v 2)/\(Lit.int .i64 (gI xs v 3)).wf=true/\(Lit.int .i64 (gI xs v 4)).wf=true/\(Lit.int .i64 (gI xs v 5)).wf=true/\True:=YQ.gets h.2 h0 h1
theorem YQ.row {B:Nat} {xs:LD} (h:Zc YQ B xs) {v:Int} (h0:0<=v) (h1:v<xs.length) {β:Type} (F:List D->Option β):Zam xs v F=F [.str (gS xs v 0),.sl (gL xs v 1),.sl (gL xs v 2),.int .i64 (gI xs v 3),.int .i64 (gI xs v 4),.int .i64 (gI xs v 5)]:=YQ.rows h.2 h0 h1 F
theorem YaH.T (h0:0<=a1) (h1:a1<=1048576) (ga0:Zc YQ maxLen a0):Tm Zr (λk=>YaH.t k a0 a1) (λr=>r<0\/0<=r/\r<=a1/\Zc YQ lim a0/\((Zg a0:Nat):Int)<=64*(a1-r)/\True):=by
 unfold YaH.t YaH.g;have hm:=Zh;have hlim:lim=1048576:=rfl;have hlen:=ga0.1;try rw[Zb (x:=a1-(a0.length:Int)) Om Om]
 refine Tm.ite (λh1=>?_) (λh1=>?_)
 ·try simp only[bz] at h1
  exact Tm.ret (by first|(left;omega)|(right;refine⟨?_,?_,?_,?_,trivial⟩<;>first|assumption|omega))
 ·try simp only[bz] at h1
  refine Tm.loop (okk:=Zr) (p:=λk=>k) (λi hi=>hi) (b:=λk=>YaH.l0 k a0 (λz0=>some z0)) (λv=>match v with|(u0,i)=>(((a0.length:Int))-i).toNat) (λv=>match v with|(u0,i)=>0<=u0/\u0<=a1/\0<=i/\i<=(a0.length:Int)/\(∀ r∈a0.take i.toNat,YQ lim r)/\((Zg (a0.take i.toNat):Nat):Int)<=64*(a1-a0.length-u0+i)) ?_ ?_ ?_
  ·rintro⟨u0,i⟩ hI;try simp only[] at hI⊢
   have:big=2^64:=rfl;have:=ga0.1;omega
  ·exact⟨Om,Om,Om,by simp,by simp,by simp[Zg]⟩
  ·rintro⟨u0,i⟩ hI L hL;try simp only[] at hI
   obtain⟨u0a,u0b,i0,i1,hr,hwt⟩:=hI;simp only[YaH.l0,atR,rdQ,Q.ask]
   refine Tm.ite (λh2=>?_) (λh2=>?_)
   ·try simp only[bz] at h2
    refine Tm.atRow Au Au (λx3 hx4 hm5=>?_);obtain⟨c6,c7,c8,c9,c10,c11,rfl,g12,g13,g14,g15,g16,g17,_⟩:=(ga0.2 x3 hm5).open;refine Tm.uncons ?_;refine Tm.dStr ?_;refine Tm.uncons ?_;refine Tm.dSl ?_;refine Tm.uncons ?_;refine Tm.dSl ?_;refine Tm.uncons ?_;refine Tm.dInt ?_;refine Tm.uncons ?_;refine Tm.dInt ?_;refine Tm.uncons ?_;refine Tm.dInt ?_;refine Tm.atEnd ?_;refine bd1_p (t:=λk=>YbT.t k _ _ _ _ _ _ _) (λi hi=>(And.left hi)) (YbT.T Au Au Au Au Au) (λy19 hy18=>?_);rcases hy18 with hy18|⟨p24,p25,q20,q21,q22,q23,_⟩
    ·exact Tm.ite (λ_=>Tm.ret (by left;omega)) (λh=>by simp at h;omega)
    refine Tm.ite (λh26=>?_) (λh26=>?_)
    ·try simp only[bz] at h26
     exact Tm.ret (by first|(left;omega)|(rw[List.take_of_length_le Om] at hwt;exact .inr ⟨Om,Om,⟨by simp only[lim];omega,Zaw Om hr⟩,Om,trivial⟩))
    ·try simp only[bz] at h26
     try rw[Zb (x:=i+1) Om Om]
     have hwx:=ZaE i0 hx4;simp only[Z7,wtD] at hwx;refine hL (y19,(i+1)) ⟨Om,Om,Om,Om,Zbp i0 hx4 hr ⟨_,_,_,_,_,_,rfl,by first|assumption|omega,by first|assumption|omega,by first|assumption|omega,by first|assumption|omega,by first|assumption|omega,by first|assumption|omega,trivial⟩,Om⟩ Sm
   ·try simp only[bz] at h2
    exact Tm.ret (by first|(left;omega)|(rw[List.take_of_length_le Om] at hwt;exact .inr ⟨Om,Om,⟨by simp only[lim];omega,Zaw Om hr⟩,Om,trivial⟩))
theorem YbV.T {aA:BA} (h0:0<=a1) (h1:a1<=1048576) (ga0_1:aA.size<=maxLen):Tm Zr (λk=>YbV.t k aB aA aD aE aG a1) (λr=>r<0\/0<=r/\r<=a1/\aA.size<=lim/\True):=by
 unfold YbV.t YbV.g;have hm:=Zh;have hlim:lim=1048576:=rfl;try rw[Zb (x:=a1-(aA.size:Int)) Om Om]
 refine Tm.ite (λh1=>?_) (λh1=>?_)
 ·try simp only[bz] at h1
  exact Tm.ret (by first|(left;omega)|(right;refine⟨?_,?_,?_,trivial⟩<;>first|assumption|omega))
 ·try simp only[bz] at h1
  exact Tm.ret (by first|(left;omega)|(right;refine⟨?_,?_,?_,trivial⟩<;>first|assumption|omega))
def Yba (B:Nat) (r:List D):Prop:=∃ (c0:Int) (c1:BA) (c2:Int) (c3:Int) (c4:Int),r=[.int .i64 c0,.str c1,.int .i64 c2,.int .i64 c3,.int .i64 c4]/\(Lit.int .i64 c0).wf=true/\c1.size<=B/\(Lit.int .i64 c2).wf=true/\(Lit.int .i64 c3).wf=true/\(Lit.int .i64 c4).wf=true/\True
theorem Yba.open {B:Nat} {r:List D} (h:Yba B r):∃ (c0:Int) (c1:BA) (c2:Int) (c3:Int) (c4:Int),r=[.int .i64 c0,.str c1,.int .i64 c2,.int .i64 c3,.int .i64 c4]/\(Lit.int .i64 c0).wf=true/\c1.size<=B/\(Lit.int .i64 c2).wf=true/\(Lit.int .i64 c3).wf=true/\(Lit.int .i64 c4).wf=true/\True:=h
theorem Yba.mono {B B':Nat} (hb:B<=B') {r:List D} (h:Yba B r):Yba B' r:=by
 obtain⟨c0,c1,c2,c3,c4,rfl,k0,k1,k2,k3,k4,_⟩:=h;exact⟨_,_,_,_,_,rfl,k0,(Nat.le_trans k1 hb),k2,k3,k4,trivial⟩
theorem Yba.wide {xs:LD} (h:Zc Yba lim xs):Zc Yba 2097152 xs:=⟨Nat.le_trans h.1 De,λr hr=>(h.2 r hr).mono De⟩
theorem Yba.len {B:Nat} {r:List D} (h:Yba B r):r.length=5:=by
 obtain⟨c0,c1,c2,c3,c4,rfl,_⟩:=h.open;rfl
theorem Yba.flat {B:Nat} {xs:LD} (h:∀ r∈xs,Yba B r):ZcV 5 xs:=λr hr=>by
 obtain⟨c0,c1,c2,c3,c4,rfl,_⟩:=(h r hr).open;exact⟨rfl,by simp[Zak]⟩
theorem Yba.wt {B:Nat} {xs:LD} (h:∀ r∈xs,Yba B r):Zg xs=5*xs.length:=wt_flat (R:=Yba B) (λr h=>by obtain⟨c0,c1,c2,c3,c4,rfl,_⟩:=h;rfl) xs h
theorem Yba.deep {B:Nat} {xs:LD} (h:∀ r∈xs,Yba B r):Za xs=xs.map (·.map C.d):=deep_flat (R:=Yba B) (λr h=>by obtain⟨c0,c1,c2,c3,c4,rfl,_⟩:=h;rfl) xs h
theorem Yba.gets {B:Nat} {xs:LD} (h:∀ r∈xs,Yba B r) {v:Int} (h0:0<=v) (h1:v<xs.length):gR xs v=[.int .i64 (gI xs v 0),.str (gS xs v 1),.int .i64 (gI xs v 2),.int .i64 (gI xs v 3),.int .i64 (gI xs v 4)]/\(Lit.int .i64 (gI xs v 0)).wf=true/\(gS xs v 1).size<=B/\(Lit.int .i64 (gI xs v 2)).wf=true/\(Lit.int .i64 (gI xs v 3)).wf=true/\(Lit.int .i64 (gI xs v 4)).wf=true/\True:=by
 obtain⟨c0,c1,c2,c3,c4,e,k0,k1,k2,k3,k4,_⟩:=(h (gR xs v) (Zan h0 h1)).open;unfold gI gS;rw[e];exact⟨rfl,k0,k1,k2,k3,k4,trivial⟩
theorem Yba.rows {B:Nat} {xs:LD} (h:∀ r∈xs,Yba B r) {v:Int} (h0:0<=v) (h1:v<xs.length) {β:Type} (F:List D->Option β):Zam xs v F=F [.int .i64 (gI xs v 0),.str (gS xs v 1),.int .i64 (gI xs v 2),.int .i64 (gI xs v 3),.int .i64 (gI xs v 4)]:=by
 rw[<- (Yba.gets h h0 h1).1];exact ZW h0 h1 F
theorem Yba.get {B:Nat} {xs:LD} (h:Zc Yba B xs) {v:Int} (h0:0<=v) (h1:v<xs.length):gR xs v=[.int .i64 (gI xs v 0),.str (gS xs v 1),.int .i64 (gI xs v 2),.int .i64 (gI xs v 3),.int .i64 (gI xs v 4)]/\(Lit.int .i64 (gI xs v 0)).wf=true/\(gS xs v 1).size<=B/\(Lit.int .i64 (gI xs v 2)).wf=true/\(Lit.int .i64 (gI xs v 3)).wf=true/\(Lit.int .i64 (gI xs v 4)).wf=true/\True:=Yba.gets h.2 h0 h1
theorem Yba.row {B:Nat} {xs:LD} (h:Zc Yba B xs) {v:Int} (h0:0<=v) (h1:v<xs.length) {β:Type} (F:List D->Option β):Zam xs v F=F [.int .i64 (gI xs v 0),.str (gS xs v 1),.int .i64 (gI xs v 2),.int .i64 (gI xs v 3),.int .i64 (gI xs v 4)]:=Yba.rows h.2 h0 h1 F
theorem YaJ.T (h0:0<=a1) (h1:a1<=1048576) (ga0:Zc Yba maxLen a0):Tm Zr (λk=>YaJ.t k a0 a1) (λr=>r<0\/0<=r/\r<=a1/\Zc Yba lim a0/\((Zg a0:Nat):Int)<=64*(a1-r)/\True):=by
 unfold YaJ.t YaJ.g;have hm:=Zh;have hlim:lim=1048576:=rfl;have hlen:=ga0.1;try rw[Zb (x:=a1-(a0.length:Int)) Om Om]
 refine Tm.ite (λh1=>?_) (λh1=>?_)
 ·try simp only[bz] at h1
  exact Tm.ret (by first|(left;omega)|(right;refine⟨?_,?_,?_,?_,trivial⟩<;>first|assumption|omega))
 ·try simp only[bz] at h1
  refine Tm.loop (okk:=Zr) (p:=λk=>k) (λi hi=>hi) (b:=λk=>YaJ.l0 k a0 (λz0=>some z0)) (λv=>match v with|(u0,i)=>(((a0.length:Int))-i).toNat) (λv=>match v with|(u0,i)=>0<=u0/\u0<=a1/\0<=i/\i<=(a0.length:Int)/\(∀ r∈a0.take i.toNat,Yba lim r)/\((Zg (a0.take i.toNat):Nat):Int)<=64*(a1-a0.length-u0+i)) ?_ ?_ ?_
  ·rintro⟨u0,i⟩ hI;try simp only[] at hI⊢
   have:big=2^64:=rfl;have:=ga0.1;omega
  ·exact⟨Om,Om,Om,by simp,by simp,by simp[Zg]⟩
  ·rintro⟨u0,i⟩ hI L hL;try simp only[] at hI
   obtain⟨u0a,u0b,i0,i1,hr,hwt⟩:=hI;simp only[YaJ.l0,atR,rdQ,Q.ask]
   refine Tm.ite (λh2=>?_) (λh2=>?_)
   ·try simp only[bz] at h2
    refine Tm.atRow Au Au (λx3 hx4 hm5=>?_);obtain⟨c6,c7,c8,c9,c10,rfl,g11,g12,g13,g14,g15,_⟩:=(ga0.2 x3 hm5).open;refine Tm.uncons ?_;refine Tm.dInt ?_;refine Tm.uncons ?_;refine Tm.dStr ?_;refine Tm.uncons ?_;refine Tm.dInt ?_;refine Tm.uncons ?_;refine Tm.dInt ?_;refine Tm.uncons ?_;refine Tm.dInt ?_;refine Tm.atEnd ?_;refine bd1_p (t:=λk=>YbV.t k _ _ _ _ _ _) (λi hi=>(And.left hi)) (YbV.T Au Au Au) (λy17 hy16=>?_);rcases hy16 with hy16|⟨p19,p20,q18,_⟩
    ·exact Tm.ite (λ_=>Tm.ret (by left;omega)) (λh=>by simp at h;omega)
    refine Tm.ite (λh21=>?_) (λh21=>?_)
    ·try simp only[bz] at h21
     exact Tm.ret (by first|(left;omega)|(rw[List.take_of_length_le Om] at hwt;exact .inr ⟨Om,Om,⟨by simp only[lim];omega,Zaw Om hr⟩,Om,trivial⟩))
    ·try simp only[bz] at h21
     try rw[Zb (x:=i+1) Om Om]
     have hwx:=ZaE i0 hx4;simp only[Z7,wtD] at hwx;refine hL (y17,(i+1)) ⟨Om,Om,Om,Om,Zbp i0 hx4 hr ⟨_,_,_,_,_,rfl,by first|assumption|omega,by first|assumption|omega,by first|assumption|omega,by first|assumption|omega,by first|assumption|omega,trivial⟩,Om⟩ Sm
   ·try simp only[bz] at h2
    exact Tm.ret (by first|(left;omega)|(rw[List.take_of_length_le Om] at hwt;exact .inr ⟨Om,Om,⟨by simp only[lim];omega,Zaw Om hr⟩,Om,trivial⟩))
theorem Yce.T (h0:0<=a1) (h1:a1<=1048576) (ga0_3:Zc Ya maxLen aE) (ga0_4:Zc YQ maxLen aG) (ga0_5:Zc Yba maxLen aJ) (ga0_6:Zc RS maxLen aK):Tm (Zp 1) (λk=>Yce.t k aB aA aD aE aG aJ aK a1) (λr=>r<0\/0<=r/\r<=a1/\Zc Ya lim aE/\Zc YQ lim aG/\Zc Yba lim aJ/\Zc RS lim aK/\((Zg aE+Zg aG+Zg aJ+Zg aK:Nat):Int)<=64*(a1-r)/\True):=by
 unfold Yce.t Yce.g;have hm:=Zh;have hlim:lim=1048576:=rfl;refine bd1_t (λi hi=>hi) (Ya0.T Au Au Au) (λy2 hy1=>?_);rcases hy1 with hy1|⟨p5,p6,q3,q4,_⟩
 ·exact Tm.ite (λ_=>Tm.ret (by left;omega)) (λh=>by simp at h;omega)
 refine Tm.ite (λh7=>?_) (λh7=>?_)
 ·try simp only[bz] at h7
  exact Tm.ret (by first|(left;omega)|(right;refine⟨?_,?_,?_,?_,?_,?_,?_,trivial⟩<;>first|assumption|omega))
 ·try simp only[bz] at h7
  refine bd1_t (λi hi=>up0 hi) (YaH.T Au Au Au) (λy9 hy8=>?_);rcases hy8 with hy8|⟨p12,p13,q10,q11,_⟩
  ·exact Tm.ite (λ_=>Tm.ret (by left;omega)) (λh=>by simp at h;omega)
  refine Tm.ite (λh14=>?_) (λh14=>?_)
  ·try simp only[bz] at h14
   exact Tm.ret (by first|(left;omega)|(right;refine⟨?_,?_,?_,?_,?_,?_,?_,trivial⟩<;>first|assumption|omega))
  ·try simp only[bz] at h14
   refine bd1_t (λi hi=>up0 hi) (YaJ.T Au Au Au) (λy16 hy15=>?_);rcases hy15 with hy15|⟨p19,p20,q17,q18,_⟩
   ·exact Tm.ite (λ_=>Tm.ret (by left;omega)) (λh=>by simp at h;omega)
   refine Tm.ite (λh21=>?_) (λh21=>?_)
   ·try simp only[bz] at h21
    exact Tm.ret (by first|(left;omega)|(right;refine⟨?_,?_,?_,?_,?_,?_,?_,trivial⟩<;>first|assumption|omega))
   ·try simp only[bz] at h21
    refine bd1_t (λi hi=>up0 hi) (YI.T Au Au Au) (λy23 hy22=>?_);rcases hy22 with hy22|⟨p26,p27,q24,q25,_⟩
    ·exact Tm.ite (λ_=>Tm.ret (by left;omega)) (λh=>by simp at h;omega)
    refine Tm.ite (λh28=>?_) (λh28=>?_)
    ·try simp only[bz] at h28
     exact Tm.ret (by first|(left;omega)|(right;refine⟨?_,?_,?_,?_,?_,?_,?_,trivial⟩<;>first|assumption|omega))
    ·try simp only[bz] at h28
     exact Tm.ret (by first|(left;omega)|(right;refine⟨?_,?_,?_,?_,?_,?_,?_,trivial⟩<;>first|assumption|omega))
theorem YH.T (ga0:Zc RS lim a0):Tm Zr (λk=>YH.t k a0) (λz=>z=Za a0/\True):=by
 unfold YH.t YH.g;have hm:=Zh;have hlim:lim=1048576:=rfl;have hlen:=ga0.1;refine Tm.guard Gd ?_;refine Tm.loop (okk:=Zr) (p:=λk=>k) (λi hi=>hi) (b:=λk=>YH.l0 k a0 (λz0=>some z0)) (λv=>match v with|(i,u1)=>(((a0.length:Int))-i).toNat) (λv=>match v with|(i,u1)=>0<=i/\i<=(a0.length:Int)/\Zar a0 ([.d (.str (⟨#[]⟩:BA))]:List C) i u1) ?_ ?_ ?_
 ·rintro⟨i,u1⟩ hI;try simp only[] at hI⊢
  have:big=2^64:=rfl;have:=ga0.1;simp only[lim] at this;omega
 ·exact⟨Om,by simp,Zar.start _ _⟩
 ·rintro⟨i,u1⟩ hI L hL;try simp only[] at hI
  obtain⟨i0,i1,hF⟩:=hI;have hFl:=hF.len i1;simp only[YH.l0,atR,rdQ,Q.ask]
  refine Tm.ite (λh1=>?_) (λh1=>?_)
  ·try simp only[bz] at h1
   refine Tm.atRow Au Au (λx2 hx3 hm4=>?_);obtain⟨c5,rfl,g6,_⟩:=(ga0.2 x2 hm4).open;refine Tm.uncons ?_;refine Tm.dStr ?_;refine Tm.atEnd ?_;refine Tm.guard Gd ?_;refine Tm.guard Gd ?_;try rw[Zb (x:=i+1) Om Om]
   refine hL (_,_) ⟨Om,Om,hF.next i0 hx3 rfl (by simp[Zu,Zag])⟩ Sm
  ·try simp only[bz] at h1
   exact Tm.ret (by exact⟨hF.all Om,trivial⟩)
theorem YbO.T {aA:BA} (ga0_1:aA.size<=lim) (ga0_2:Zc RS lim aD):Tm Zr (λk=>YbO.t k aB aA aD) (λz=>z.1=aB/\z.2.1=aA/\z.2.2=Za aD/\True):=by
 unfold YbO.t YbO.g;have hm:=Zh;have hlim:lim=1048576:=rfl;refine bd1_t (λi hi=>hi) (YH.T Au) (λy2 hy1=>?_);try simp only[] at hy1
 obtain⟨rfl,_⟩:=hy1;try simp only[Zq]
 exact Tm.ret (by exact⟨by first|rfl|assumption,by first|rfl|assumption,by first|rfl|assumption,trivial⟩)
theorem Yav.T (ga0:Zc Ybl lim a0):Tm Zr (λk=>Yav.t k a0) (λz=>z=Za a0/\True):=by
 unfold Yav.t Yav.g Yav.m;have hm:=Zh;have hlim:lim=1048576:=rfl;have hlen:=ga0.1;refine Tm.guard Gd ?_;refine Tm.loop (okk:=Zr) (p:=λk=>k) (λi hi=>hi) (b:=λk=>Yav.l0 k a0 (λz0=>some z0)) (λv=>match v with|(i,u1)=>(((a0.length:Int))-i).toNat) (λv=>match v with|(i,u1)=>0<=i/\i<=(a0.length:Int)/\Zar a0 ([.d (.int .i64 0),.d (.str (⟨#[]⟩:BA)),.own ([]:LC)]:List C) i u1) ?_ ?_ ?_
 ·rintro⟨i,u1⟩ hI;try simp only[] at hI⊢
  have:big=2^64:=rfl;have:=ga0.1;simp only[lim] at this;omega
 ·exact⟨Om,by simp,Zar.start _ _⟩
 ·rintro⟨i,u1⟩ hI L hL;try simp only[] at hI
  obtain⟨i0,i1,hF⟩:=hI;have hFl:=hF.len i1;simp only[Yav.l0,atR,rdQ,Q.ask]
  refine Tm.ite (λh1=>?_) (λh1=>?_)
  ·try simp only[bz] at h1
   refine Tm.atRow Au Au (λx2 hx3 hm4=>?_);obtain⟨c5,c6,c7,rfl,g8,g9,g10,_⟩:=(ga0.2 x2 hm4).open;refine Tm.uncons ?_;refine Tm.dInt ?_;refine Tm.uncons ?_;refine Tm.dStr ?_;refine Tm.uncons ?_;refine Tm.dSl ?_;refine Tm.atEnd ?_;refine bd3_p (t:=λk=>YbO.t k _ _ _) (λi hi=>(And.left hi)) (YbO.T Au Au) (λy12 y13 y14 hy11=>?_);try simp only[] at hy11
   obtain⟨rfl,rfl,rfl,_⟩:=hy11;try simp only[Zq]
   refine Tm.guard Gd ?_;refine Tm.guard Gd ?_;try rw[Zb (x:=i+1) Om Om]
   refine hL (_,_) ⟨Om,Om,hF.next i0 hx3 rfl (by simp[Zu,Zag])⟩ Sm
  ·try simp only[bz] at h1
   exact Tm.ret (by exact⟨hF.all Om,trivial⟩)
theorem Yby.T {aB:BA} (ga0_0:aB.size<=lim):Tm Zr (λk=>Yby.t k aB aA) (λz=>z.1=aB/\z.2=aA/\True):=by
 unfold Yby.t Yby.g;have hm:=Zh;have hlim:lim=1048576:=rfl;exact Tm.ret (by exact⟨by first|rfl|assumption,by first|rfl|assumption,trivial⟩)
theorem Yaj.T (ga0:Zc RSI lim a0):Tm Zr (λk=>Yaj.t k a0) (λz=>z=Za a0/\True):=by
 unfold Yaj.t Yaj.g Yaj.m;have hm:=Zh;have hlim:lim=1048576:=rfl;have hlen:=ga0.1;refine Tm.guard Gd ?_;refine Tm.loop (okk:=Zr) (p:=λk=>k) (λi hi=>hi) (b:=λk=>Yaj.l0 k a0 (λz0=>some z0)) (λv=>match v with|(i,u1)=>(((a0.length:Int))-i).toNat) (λv=>match v with|(i,u1)=>0<=i/\i<=(a0.length:Int)/\Zar a0 ([.d (.str (⟨#[]⟩:BA)),.d (.int .i64 0)]:List C) i u1) ?_ ?_ ?_
 ·rintro⟨i,u1⟩ hI;try simp only[] at hI⊢
  have:big=2^64:=rfl;have:=ga0.1;simp only[lim] at this;omega
 ·exact⟨Om,by simp,Zar.start _ _⟩
 ·rintro⟨i,u1⟩ hI L hL;try simp only[] at hI
  obtain⟨i0,i1,hF⟩:=hI;have hFl:=hF.len i1;simp only[Yaj.l0,atR,rdQ,Q.ask]
  refine Tm.ite (λh1=>?_) (λh1=>?_)
  ·try simp only[bz] at h1
   refine Tm.atRow Au Au (λx2 hx3 hm4=>?_);obtain⟨c5,c6,rfl,g7,g8,_⟩:=(ga0.2 x2 hm4).open;refine Tm.uncons ?_;refine Tm.dStr ?_;refine Tm.uncons ?_;refine Tm.dInt ?_;refine Tm.atEnd ?_;refine bd2_p (t:=λk=>Yby.t k _ _) (λi hi=>(And.left hi)) (Yby.T Au) (λy10 y11 hy9=>?_);try simp only[] at hy9
   obtain⟨rfl,rfl,_⟩:=hy9;try simp only[Zq]
   refine Tm.guard Gd ?_;refine Tm.guard Gd ?_;try rw[Zb (x:=i+1) Om Om]
   refine hL (_,_) ⟨Om,Om,hF.next i0 hx3 rfl (by simp[Zu,Zag])⟩ Sm
  ·try simp only[bz] at h1
   exact Tm.ret (by exact⟨hF.all Om,trivial⟩)
theorem Yb2.T (ga0_1:Zc Ybl lim aA) (ga0_2:Zc RS lim aD) (ga0_3:Zc RSI lim aE):Tm Zr (λk=>Yb2.t k aB aA aD aE) (λz=>z.1=aB/\z.2.1=Za aA/\z.2.2.1=Za aD/\z.2.2.2=Za aE/\True):=by
 unfold Yb2.t Yb2.g;have hm:=Zh;have hlim:lim=1048576:=rfl;refine bd1_t (λi hi=>hi) (Yav.T Au) (λy2 hy1=>?_);try simp only[] at hy1
 obtain⟨rfl,_⟩:=hy1;try simp only[Zq]
 refine bd1_t (λi hi=>hi) (YH.T Au) (λy4 hy3=>?_);try simp only[] at hy3
 obtain⟨rfl,_⟩:=hy3;try simp only[Zq]
 refine bd1_t (λi hi=>hi) (Yaj.T Au) (λy6 hy5=>?_);try simp only[] at hy5
 obtain⟨rfl,_⟩:=hy5;try simp only[Zq]
 exact Tm.ret (by exact⟨by first|rfl|assumption,by first|rfl|assumption,by first|rfl|assumption,by first|rfl|assumption,trivial⟩)
theorem YA.tm {ι α:Type} {ok:ι->Prop} {ψ:α->Prop} {p:ι->Nat} {B:Nat} (hp:∀ i,ok i->B<=p i) {a0 φ} (h:Tm (λk=>B<=k) (λk=>YA.t k a0) φ) {G:ι->LC->Option α} (hG:∀ z0,φ z0->Tm ok (λi=>G i z0) ψ):Tm ok (λi=>YA.f (p i) a0 (G i)) ψ:=Zn (t:=λk=>YA.t k a0) hp h hG
theorem YV.tm {ι α:Type} {ok:ι->Prop} {ψ:α->Prop} {p:ι->Nat} {B:Nat} (hp:∀ i,ok i->B<=p i) {aB aA aD aE aG φ} (h:Tm (λk=>B<=k) (λk=>YV.t k aB aA aD aE aG) φ) {G:ι->Int->BA->Int->LC->LC->Option α} (hG:∀ z0 z1 z2 z3 z4,φ (z0,z1,z2,z3,z4)->Tm ok (λi=>G i z0 z1 z2 z3 z4) ψ):Tm ok (λi=>YV.f (p i) aB aA aD aE aG (G i)) ψ:=bd5_tm (t:=λk=>YV.t k aB aA aD aE aG) hp h hG
theorem toVal (n:Nat):(∀ (a:LD),a.length<=lim->(∀ x∈a,Yx lim n x)->Tm (λk=>big+2*n+1<=k) (λk=>YA.t k a) (λz=>z=Za a))/\
  (∀ (c0:Int) (c1:BA) (c2:Int) (c3 c4:LD),c1.size<=lim->Zc RS lim c3->c4.length<=lim->(∀ x∈c4,Yx lim n x)->Tm (λk=>big+2*n+2<=k) (λk=>YV.t k c0 c1 c2 c3 c4) (λz=>z.1=c0/\z.2.1=c1/\z.2.2.1=c2/\z.2.2.2.1=Za c3/\z.2.2.2.2=Za c4)):=by
 have hm:Zx=2^36:=rfl;have hlim:lim=1048576:=rfl;have hb:big=2^64:=rfl;induction n using Nat.strongRecOn with
 |ind n ih=>
 have S:∀ (a:LD),a.length<=lim->(∀ x∈a,Yx lim n x)->Tm (λk=>big+2*n+1<=k) (λk=>YA.t k a) (λz=>z=Za a):=by
  intro a hlen g;refine Tm.succ (g:=λk=>YA.g k a (λz0=>some z0)) (λk=>YA.t_succ k a) ?_;unfold YA.g YA.body YA.m;refine Tm.guard ⟨Om,Om,Om,Om⟩ ?_;refine Tm.loop (okk:=λk=>big+2*n<=k) (p:=λk=>k) (λi hi=>by omega) (b:=λk=>YA.l0 k (YA.f k) (YV.f k) a (λz0=>some z0)) (λv=>match v with|(i,u1)=>(((a.length:Int))-i).toNat) (λv=>match v with|(i,u1)=>0<=i/\i<=(a.length:Int)/\Zar a ([.d (.int .i64 0),.d (.str (⟨#[]⟩:BA)),.d (.int .i64 0),.own ([]:LC),.own ([]:LC)]:List C) i u1) ?_ ?_ ?_
  ·rintro⟨i,u1⟩ hI;simp only[] at hI⊢;omega
  ·exact⟨Om,by simp,Zar.start _ _⟩
  ·rintro⟨i,u1⟩ hI L hL;simp only[] at hI;obtain⟨i0,i1,hF⟩:=hI;have hFl:=hF.len i1;simp only[YA.l0,atR,rdQ,Q.ask]
   refine Tm.ite (λh4=>?_) (λh4=>?_)
   ·simp only[decide_eq_true_eq] at h4;refine Tm.atRow Om Om (λx5 hx6 hm7=>?_);obtain⟨n',hn',c0,c1,c2,c3,c4,rfl,w0,g1,w2,g3,l4,g4⟩:∃ n',n=n'+1/\∃ c0 c1 c2 c3 c4,x5=[.int .i64 c0,.str c1,.int .i64 c2,.sl c3,.sl c4]/\(Lit.int .i64 c0).wf=true/\c1.size<=lim/\(Lit.int .i64 c2).wf=true/\Zc RS lim c3/\c4.length<=lim/\∀ x∈c4,Yx lim n' x:=by
     have:=g x5 hm7;cases this with
     |mk c0 c1 c2 c3 c4 w0 g1 w2 g3 l4 g4=>exact⟨_,rfl,_,_,_,_,_,rfl,w0,g1,w2,g3,l4,g4⟩
    refine Tm.uncons (Tm.dInt (Tm.uncons (Tm.dStr (Tm.uncons (Tm.dInt (Tm.uncons (Tm.dSl (Tm.uncons (Tm.dSl (Tm.atEnd ?_))))))))));refine YV.tm (B:=big+2*n'+2) (λi hi=>by have:=hi.1;omega) ((ih n' Om).2 c0 c1 c2 c3 c4 g1 g3 l4 g4) (λy0 y1 y2 y3 y4 hy=>?_);simp only[] at hy;obtain⟨rfl,rfl,rfl,e3,e4⟩:=hy;refine Tm.guard Om (Tm.guard Om ?_);rw[Zb (x:=i+1) Om Om];exact hL (_,_) ⟨Om,Om,hF.next i0 hx6 rfl (by simp[Zu,Zag,e3,e4])⟩ Sm
   ·simp only[decide_eq_false_iff_not,Int.not_lt] at h4;exact Tm.ret (hF.all Om)
 refine⟨S,?_⟩
 intro c0 c1 c2 c3 c4 g1 g3 l4 g4;refine Tm.succ (g:=λk=>YV.g k c0 c1 c2 c3 c4 (λz0 z1 z2 z3 z4=>some (z0,z1,z2,z3,z4))) (λk=>YV.t_succ k c0 c1 c2 c3 c4) ?_;unfold YV.g YV.body;refine bd1_t (λi hi=>by omega) (YH.T g3) (λy hy=>?_);refine YA.tm (B:=big+2*n+1) (λi hi=>hi) (S c4 l4 g4) (λy' hy'=>?_);exact Tm.ret ⟨rfl,rfl,rfl,hy.1,hy'⟩
theorem YV.T {aA:BA} (g1:aA.size<=lim) (g3:Zc RS lim aE) (g4:Zc Yt lim aG):Tm (Zp 1) (λk=>YV.t k aB aA aD aE aG) (λz=>z.1=aB/\z.2.1=aA/\z.2.2.1=aD/\z.2.2.2.1=Za aE/\z.2.2.2.2=Za aG/\True):=by
 have hlim:lim=1048576:=rfl;have g':∀ x∈aG,Yx lim 1099511627776 x:=λx hx=>by
  obtain⟨h,hh,hx⟩:=g4.2 x hx;exact hx.mono (hh De)
 exact(((toVal 1099511627776).2 aB aA aD aE aG g1 g3 g4.1 g').up (big_lv1 (n:=2*1099511627776+2) Om)).mono λr hr=>⟨hr.1,hr.2.1,hr.2.2.1,hr.2.2.2.1,hr.2.2.2.2,trivial⟩
theorem Yco.T {aE:BA} (ga0_1:Zc RS lim aA) (ga0_3:aE.size<=lim) (ga0_5:Zc RS lim aJ) (ga0_6:Zc Yt lim aK):Tm (Zp 1) (λk=>Yco.t k aB aA aD aE aG aJ aK) (λz=>z.1=aB/\z.2.1=Za aA/\z.2.2.1=aD/\z.2.2.2.1=aE/\z.2.2.2.2.1=aG/\z.2.2.2.2.2.1=Za aJ/\z.2.2.2.2.2.2=Za aK/\True):=by
 unfold Yco.t Yco.g;have hm:=Zh;have hlim:lim=1048576:=rfl;refine bd1_t (λi hi=>up0 hi) (YH.T Au) (λy2 hy1=>?_);try simp only[] at hy1
 obtain⟨rfl,_⟩:=hy1;try simp only[Zq]
 refine YV.tm (λi hi=>hi) (YV.T Au Au Au) (λy4 y5 y6 y7 y8 hy3=>?_);try simp only[] at hy3
 obtain⟨rfl,rfl,rfl,rfl,rfl,_⟩:=hy3;try simp only[Zq]
 exact Tm.ret (by exact⟨by first|rfl|assumption,by first|rfl|assumption,by first|rfl|assumption,by first|rfl|assumption,by first|rfl|assumption,by first|rfl|assumption,by first|rfl|assumption,trivial⟩)
theorem Ya9.T (ga0:Zc Yn lim a0):Tm (Zp 1) (λk=>Ya9.t k a0) (λz=>z=Za a0/\True):=by
 unfold Ya9.t Ya9.g Ya9.m;have hm:=Zh;have hlim:lim=1048576:=rfl;have hlen:=ga0.1;refine Tm.guard Gd ?_;refine Tm.loop (okk:=(Zp 1)) (p:=λk=>k) (λi hi=>up0 hi) (b:=λk=>Ya9.l0 k a0 (λz0=>some z0)) (λv=>match v with|(i,u1)=>(((a0.length:Int))-i).toNat) (λv=>match v with|(i,u1)=>0<=i/\i<=(a0.length:Int)/\Zar a0 ([.d (.int .i64 0),.own ([]:LC),.d (.int .i64 0),.d (.str (⟨#[]⟩:BA)),.d (.int .i64 0),.own ([]:LC),.own ([]:LC)]:List C) i u1) ?_ ?_ ?_
 ·rintro⟨i,u1⟩ hI;try simp only[] at hI⊢
  have:big=2^64:=rfl;have:=ga0.1;simp only[lim] at this;omega
 ·exact⟨Om,by simp,Zar.start _ _⟩
 ·rintro⟨i,u1⟩ hI L hL;try simp only[] at hI
  obtain⟨i0,i1,hF⟩:=hI;have hFl:=hF.len i1;simp only[Ya9.l0,atR,rdQ,Q.ask]
  refine Tm.ite (λh1=>?_) (λh1=>?_)
  ·try simp only[bz] at h1
   refine Tm.atRow Au Au (λx2 hx3 hm4=>?_);obtain⟨c5,c6,c7,c8,c9,c10,c11,rfl,g12,g13,g14,g15,g16,g17,g18,_⟩:=(ga0.2 x2 hm4).open;refine Tm.uncons ?_;refine Tm.dInt ?_;refine Tm.uncons ?_;refine Tm.dSl ?_;refine Tm.uncons ?_;refine Tm.dInt ?_;refine Tm.uncons ?_;refine Tm.dStr ?_;refine Tm.uncons ?_;refine Tm.dInt ?_;refine Tm.uncons ?_;refine Tm.dSl ?_;refine Tm.uncons ?_;refine Tm.dSl ?_;refine Tm.atEnd ?_;refine bd7_p (t:=λk=>Yco.t k _ _ _ _ _ _ _) (λi hi=>(And.left hi)) (Yco.T Au Au Au Au) (λy20 y21 y22 y23 y24 y25 y26 hy19=>?_);try simp only[] at hy19
   obtain⟨rfl,rfl,rfl,rfl,rfl,rfl,rfl,_⟩:=hy19;try simp only[Zq]
   refine Tm.guard Gd ?_;refine Tm.guard Gd ?_;try rw[Zb (x:=i+1) Om Om]
   refine hL (_,_) ⟨Om,Om,hF.next i0 hx3 rfl (by simp[Zu,Zag])⟩ Sm
  ·try simp only[bz] at h1
   exact Tm.ret (by exact⟨hF.all Om,trivial⟩)
theorem YbQ.T {aB:BA} (ga0_0:aB.size<=lim) (ga0_1:Zc Yn lim aA):Tm (Zp 1) (λk=>YbQ.t k aB aA) (λz=>z.1=aB/\z.2=Za aA/\True):=by
 unfold YbQ.t YbQ.g;have hm:=Zh;have hlim:lim=1048576:=rfl;refine bd1_t (λi hi=>hi) (Ya9.T Au) (λy2 hy1=>?_);try simp only[] at hy1
 obtain⟨rfl,_⟩:=hy1;try simp only[Zq]
 exact Tm.ret (by exact⟨by first|rfl|assumption,by first|rfl|assumption,trivial⟩)
theorem Yax.T (ga0:Zc Yd lim a0):Tm (Zp 1) (λk=>Yax.t k a0) (λz=>z=Za a0/\True):=by
 unfold Yax.t Yax.g Yax.m;have hm:=Zh;have hlim:lim=1048576:=rfl;have hlen:=ga0.1;refine Tm.guard Gd ?_;refine Tm.loop (okk:=(Zp 1)) (p:=λk=>k) (λi hi=>up0 hi) (b:=λk=>Yax.l0 k a0 (λz0=>some z0)) (λv=>match v with|(i,u1)=>(((a0.length:Int))-i).toNat) (λv=>match v with|(i,u1)=>0<=i/\i<=(a0.length:Int)/\Zar a0 ([.d (.str (⟨#[]⟩:BA)),.own ([]:LC)]:List C) i u1) ?_ ?_ ?_
 ·rintro⟨i,u1⟩ hI;try simp only[] at hI⊢
  have:big=2^64:=rfl;have:=ga0.1;simp only[lim] at this;omega
 ·exact⟨Om,by simp,Zar.start _ _⟩
 ·rintro⟨i,u1⟩ hI L hL;try simp only[] at hI
  obtain⟨i0,i1,hF⟩:=hI;have hFl:=hF.len i1;simp only[Yax.l0,atR,rdQ,Q.ask]
  refine Tm.ite (λh1=>?_) (λh1=>?_)
  ·try simp only[bz] at h1
   refine Tm.atRow Au Au (λx2 hx3 hm4=>?_);obtain⟨c5,c6,rfl,g7,g8,_⟩:=(ga0.2 x2 hm4).open;refine Tm.uncons ?_;refine Tm.dStr ?_;refine Tm.uncons ?_;refine Tm.dSl ?_;refine Tm.atEnd ?_;refine bd2_p (t:=λk=>YbQ.t k _ _) (λi hi=>(And.left hi)) (YbQ.T Au Au) (λy10 y11 hy9=>?_);try simp only[] at hy9
   obtain⟨rfl,rfl,_⟩:=hy9;try simp only[Zq]
   refine Tm.guard Gd ?_;refine Tm.guard Gd ?_;try rw[Zb (x:=i+1) Om Om]
   refine hL (_,_) ⟨Om,Om,hF.next i0 hx3 rfl (by simp[Zu,Zag])⟩ Sm
  ·try simp only[bz] at h1
   exact Tm.ret (by exact⟨hF.all Om,trivial⟩)
theorem Yb9.T {aA aY:BA} {bF:Bool} (ga0_1:aA.size<=lim) (ga0_3:Zc Ybl lim aE) (ga0_4:Zc RS lim aG) (ga0_5:Zc RSI lim aJ) (ga0_7:aY.size<=lim) (ga0_9:Zc RS lim bA) (ga0_10:Zc Yt lim bB) (ga0_11:Zc Yd lim bD):Tm (Zp 1) (λk=>Yb9.t k aB aA aD aE aG aJ aK aY bE bA bB bD bF) (λz=>z.1=aB/\z.2.1=aA/\z.2.2.1=aD/\z.2.2.2.1=Za aE/\z.2.2.2.2.1=Za aG/\z.2.2.2.2.2.1=Za aJ/\z.2.2.2.2.2.2.1=aK/\z.2.2.2.2.2.2.2.1=aY/\z.2.2.2.2.2.2.2.2.1=bE/\z.2.2.2.2.2.2.2.2.2.1=Za bA/\z.2.2.2.2.2.2.2.2.2.2.1=Za bB/\z.2.2.2.2.2.2.2.2.2.2.2.1=Za bD/\z.2.2.2.2.2.2.2.2.2.2.2.2=bF/\True):=by
 unfold Yb9.t Yb9.g;have hm:=Zh;have hlim:lim=1048576:=rfl;refine bd4_t (λi hi=>up0 hi) (Yb2.T Au Au Au) (λy2 y3 y4 y5 hy1=>?_);try simp only[] at hy1
 obtain⟨rfl,rfl,rfl,rfl,_⟩:=hy1;try simp only[Zq]
 refine YV.tm (λi hi=>hi) (YV.T Au Au Au) (λy7 y8 y9 y10 y11 hy6=>?_);try simp only[] at hy6
 obtain⟨rfl,rfl,rfl,rfl,rfl,_⟩:=hy6;try simp only[Zq]
 refine bd1_t (λi hi=>hi) (Yax.T Au) (λy13 hy12=>?_);try simp only[] at hy12
 obtain⟨rfl,_⟩:=hy12;try simp only[Zq]
 exact Tm.ret (by exact⟨by first|rfl|assumption,by first|rfl|assumption,by first|rfl|assumption,by first|rfl|assumption,by first|rfl|assumption,by first|rfl|assumption,by first|rfl|assumption,by first|rfl|assumption,by first|rfl|assumption,by first|rfl|assumption,by first|rfl|assumption,by first|rfl|assumption,by first|rfl|assumption,trivial⟩)
theorem YaO.T (ga0:Zc Ya lim a0):Tm (Zp 1) (λk=>YaO.t k a0) (λz=>z=Za a0/\True):=by
 unfold YaO.t YaO.g YaO.m;have hm:=Zh;have hlim:lim=1048576:=rfl;have hlen:=ga0.1;refine Tm.guard Gd ?_;refine Tm.loop (okk:=(Zp 1)) (p:=λk=>k) (λi hi=>up0 hi) (b:=λk=>YaO.l0 k a0 (λz0=>some z0)) (λv=>match v with|(i,u1)=>(((a0.length:Int))-i).toNat) (λv=>match v with|(i,u1)=>0<=i/\i<=(a0.length:Int)/\Zar a0 ([.d (.int .i64 0),.d (.str (⟨#[]⟩:BA)),.d (.int .i64 0),.own ([]:LC),.own ([]:LC),.own ([]:LC),.d (.int .i64 0),.d (.str (⟨#[]⟩:BA)),.d (.int .i64 0),.own ([]:LC),.own ([]:LC),.own ([]:LC),.d (.bool false)]:List C) i u1) ?_ ?_ ?_
 ·rintro⟨i,u1⟩ hI;try simp only[] at hI⊢
  have:big=2^64:=rfl;have:=ga0.1;simp only[lim] at this;omega
 ·exact⟨Om,by simp,Zar.start _ _⟩
 ·rintro⟨i,u1⟩ hI L hL;try simp only[] at hI
  obtain⟨i0,i1,hF⟩:=hI;have hFl:=hF.len i1;simp only[YaO.l0,atR,rdQ,Q.ask]
  refine Tm.ite (λh1=>?_) (λh1=>?_)
  ·try simp only[bz] at h1
   refine Tm.atRow Au Au (λx2 hx3 hm4=>?_);obtain⟨c5,c6,c7,c8,c9,c10,c11,c12,c13,c14,c15,c16,c17,rfl,g18,g19,g20,g21,g22,g23,g24,g25,g26,g27,g28,g29,_⟩:=(ga0.2 x2 hm4).open;refine Tm.uncons ?_;refine Tm.dInt ?_;refine Tm.uncons ?_;refine Tm.dStr ?_;refine Tm.uncons ?_;refine Tm.dInt ?_;refine Tm.uncons ?_;refine Tm.dSl ?_;refine Tm.uncons ?_;refine Tm.dSl ?_;refine Tm.uncons ?_;refine Tm.dSl ?_;refine Tm.uncons ?_;refine Tm.dInt ?_;refine Tm.uncons ?_;refine Tm.dStr ?_;refine Tm.uncons ?_;refine Tm.dInt ?_;refine Tm.uncons ?_;refine Tm.dSl ?_;refine Tm.uncons ?_;refine Tm.dSl ?_;refine Tm.uncons ?_;refine Tm.dSl ?_;refine Tm.uncons ?_;refine Tm.dBool ?_;refine Tm.atEnd ?_;refine bd13_p (t:=λk=>Yb9.t k _ _ _ _ _ _ _ _ _ _ _ _ _) (λi hi=>(And.left hi)) (Yb9.T Au Au Au Au Au Au Au Au) (λy31 y32 y33 y34 y35 y36 y37 y38 y39 y40 y41 y42 y43 hy30=>?_);try simp only[] at hy30
   obtain⟨rfl,rfl,rfl,rfl,rfl,rfl,rfl,rfl,rfl,rfl,rfl,rfl,rfl,_⟩:=hy30;try simp only[Zq]
   refine Tm.guard Gd ?_;refine Tm.guard Gd ?_;try rw[Zb (x:=i+1) Om Om]
   refine hL (_,_) ⟨Om,Om,hF.next i0 hx3 rfl (by simp[Zu,Zag])⟩ Sm
  ·try simp only[bz] at h1
   exact Tm.ret (by exact⟨hF.all Om,trivial⟩)
theorem Ybz.T {aB aA:BA} (ga0_0:aB.size<=lim) (ga0_1:aA.size<=lim):Tm Zr (λk=>Ybz.t k aB aA) (λz=>z.1=aB/\z.2=aA/\True):=by
 unfold Ybz.t Ybz.g;have hm:=Zh;have hlim:lim=1048576:=rfl;exact Tm.ret (by exact⟨by first|rfl|assumption,by first|rfl|assumption,trivial⟩)
theorem Yak.T (ga0:Zc RSS lim a0):Tm Zr (λk=>Yak.t k a0) (λz=>z=Za a0/\True):=by
 unfold Yak.t Yak.g Yak.m;have hm:=Zh;have hlim:lim=1048576:=rfl;have hlen:=ga0.1;refine Tm.guard Gd ?_;refine Tm.loop (okk:=Zr) (p:=λk=>k) (λi hi=>hi) (b:=λk=>Yak.l0 k a0 (λz0=>some z0)) (λv=>match v with|(i,u1)=>(((a0.length:Int))-i).toNat) (λv=>match v with|(i,u1)=>0<=i/\i<=(a0.length:Int)/\Zar a0 ([.d (.str (⟨#[]⟩:BA)),.d (.str (⟨#[]⟩:BA))]:List C) i u1) ?_ ?_ ?_
 ·rintro⟨i,u1⟩ hI;try simp only[] at hI⊢
  have:big=2^64:=rfl;have:=ga0.1;simp only[lim] at this;omega
 ·exact⟨Om,by simp,Zar.start _ _⟩
 ·rintro⟨i,u1⟩ hI L hL;try simp only[] at hI
  obtain⟨i0,i1,hF⟩:=hI;have hFl:=hF.len i1;simp only[Yak.l0,atR,rdQ,Q.ask]
  refine Tm.ite (λh1=>?_) (λh1=>?_)
  ·try simp only[bz] at h1
   refine Tm.atRow Au Au (λx2 hx3 hm4=>?_);obtain⟨c5,c6,rfl,g7,g8,_⟩:=(ga0.2 x2 hm4).open;refine Tm.uncons ?_;refine Tm.dStr ?_;refine Tm.uncons ?_;refine Tm.dStr ?_;refine Tm.atEnd ?_;refine bd2_p (t:=λk=>Ybz.t k _ _) (λi hi=>(And.left hi)) (Ybz.T Au Au) (λy10 y11 hy9=>?_);try simp only[] at hy9
   obtain⟨rfl,rfl,_⟩:=hy9;try simp only[Zq]
   refine Tm.guard Gd ?_;refine Tm.guard Gd ?_;try rw[Zb (x:=i+1) Om Om]
   refine hL (_,_) ⟨Om,Om,hF.next i0 hx3 rfl (by simp[Zu,Zag])⟩ Sm
  ·try simp only[bz] at h1
   exact Tm.ret (by exact⟨hF.all Om,trivial⟩)
theorem Ybu.T {aB:BA} (ga0_0:aB.size<=lim) (ga0_1:Zc RSS lim aA) (ga0_2:Zc RS lim aD):Tm Zr (λk=>Ybu.t k aB aA aD aE) (λz=>z.1=aB/\z.2.1=Za aA/\z.2.2.1=Za aD/\z.2.2.2=aE/\True):=by
 unfold Ybu.t Ybu.g;have hm:=Zh;have hlim:lim=1048576:=rfl;refine bd1_t (λi hi=>hi) (Yak.T Au) (λy2 hy1=>?_);try simp only[] at hy1
 obtain⟨rfl,_⟩:=hy1;try simp only[Zq]
 refine bd1_t (λi hi=>hi) (YH.T Au) (λy4 hy3=>?_);try simp only[] at hy3
 obtain⟨rfl,_⟩:=hy3;try simp only[Zq]
 exact Tm.ret (by exact⟨by first|rfl|assumption,by first|rfl|assumption,by first|rfl|assumption,by first|rfl|assumption,trivial⟩)
theorem YbP.T {aB:BA} (ga0_0:aB.size<=lim) (ga0_1:Zc RSS lim aA) (ga0_2:Zc RS lim aD):Tm Zr (λk=>YbP.t k aB aA aD aE aG aJ) (λz=>z.1=aB/\z.2.1=Za aA/\z.2.2.1=Za aD/\z.2.2.2.1=aE/\z.2.2.2.2.1=aG/\z.2.2.2.2.2=aJ/\True):=by
 unfold YbP.t YbP.g;have hm:=Zh;have hlim:lim=1048576:=rfl;refine bd4_t (λi hi=>hi) (Ybu.T Au Au Au) (λy2 y3 y4 y5 hy1=>?_);try simp only[] at hy1
 obtain⟨rfl,rfl,rfl,rfl,_⟩:=hy1;try simp only[Zq]
 exact Tm.ret (by exact⟨by first|rfl|assumption,by first|rfl|assumption,by first|rfl|assumption,by first|rfl|assumption,by first|rfl|assumption,by first|rfl|assumption,trivial⟩)
theorem Yaw.T (ga0:Zc YQ lim a0):Tm Zr (λk=>Yaw.t k a0) (λz=>z=Za a0/\True):=by
 unfold Yaw.t Yaw.g Yaw.m;have hm:=Zh;have hlim:lim=1048576:=rfl;have hlen:=ga0.1;refine Tm.guard Gd ?_;refine Tm.loop (okk:=Zr) (p:=λk=>k) (λi hi=>hi) (b:=λk=>Yaw.l0 k a0 (λz0=>some z0)) (λv=>match v with|(i,u1)=>(((a0.length:Int))-i).toNat) (λv=>match v with|(i,u1)=>0<=i/\i<=(a0.length:Int)/\Zar a0 ([.d (.str (⟨#[]⟩:BA)),.own ([]:LC),.own ([]:LC),.d (.int .i64 0),.d (.int .i64 0),.d (.int .i64 0)]:List C) i u1) ?_ ?_ ?_
 ·rintro⟨i,u1⟩ hI;try simp only[] at hI⊢
  have:big=2^64:=rfl;have:=ga0.1;simp only[lim] at this;omega
 ·exact⟨Om,by simp,Zar.start _ _⟩
 ·rintro⟨i,u1⟩ hI L hL;try simp only[] at hI
  obtain⟨i0,i1,hF⟩:=hI;have hFl:=hF.len i1;simp only[Yaw.l0,atR,rdQ,Q.ask]
  refine Tm.ite (λh1=>?_) (λh1=>?_)
  ·try simp only[bz] at h1
   refine Tm.atRow Au Au (λx2 hx3 hm4=>?_);obtain⟨c5,c6,c7,c8,c9,c10,rfl,g11,g12,g13,g14,g15,g16,_⟩:=(ga0.2 x2 hm4).open;refine Tm.uncons ?_;refine Tm.dStr ?_;refine Tm.uncons ?_;refine Tm.dSl ?_;refine Tm.uncons ?_;refine Tm.dSl ?_;refine Tm.uncons ?_;refine Tm.dInt ?_;refine Tm.uncons ?_;refine Tm.dInt ?_;refine Tm.uncons ?_;refine Tm.dInt ?_;refine Tm.atEnd ?_;refine bd6_p (t:=λk=>YbP.t k _ _ _ _ _ _) (λi hi=>(And.left hi)) (YbP.T Au Au Au) (λy18 y19 y20 y21 y22 y23 hy17=>?_);try simp only[] at hy17
   obtain⟨rfl,rfl,rfl,rfl,rfl,rfl,_⟩:=hy17;try simp only[Zq]
   refine Tm.guard Gd ?_;refine Tm.guard Gd ?_;try rw[Zb (x:=i+1) Om Om]
   refine hL (_,_) ⟨Om,Om,hF.next i0 hx3 rfl (by simp[Zu,Zag])⟩ Sm
  ·try simp only[bz] at h1
   exact Tm.ret (by exact⟨hF.all Om,trivial⟩)
theorem YbR.T {aA:BA} (ga0_1:aA.size<=lim):Tm Zr (λk=>YbR.t k aB aA aD aE aG) (λz=>z.1=aB/\z.2.1=aA/\z.2.2.1=aD/\z.2.2.2.1=aE/\z.2.2.2.2=aG/\True):=by
 unfold YbR.t YbR.g;have hm:=Zh;have hlim:lim=1048576:=rfl;exact Tm.ret (by exact⟨by first|rfl|assumption,by first|rfl|assumption,by first|rfl|assumption,by first|rfl|assumption,by first|rfl|assumption,trivial⟩)
theorem Yay.T (ga0:Zc Yba lim a0):Tm Zr (λk=>Yay.t k a0) (λz=>z=Za a0/\True):=by
 unfold Yay.t Yay.g Yay.m;have hm:=Zh;have hlim:lim=1048576:=rfl;have hlen:=ga0.1;refine Tm.guard Gd ?_;refine Tm.loop (okk:=Zr) (p:=λk=>k) (λi hi=>hi) (b:=λk=>Yay.l0 k a0 (λz0=>some z0)) (λv=>match v with|(i,u1)=>(((a0.length:Int))-i).toNat) (λv=>match v with|(i,u1)=>0<=i/\i<=(a0.length:Int)/\Zar a0 ([.d (.int .i64 0),.d (.str (⟨#[]⟩:BA)),.d (.int .i64 0),.d (.int .i64 0),.d (.int .i64 0)]:List C) i u1) ?_ ?_ ?_
 ·rintro⟨i,u1⟩ hI;try simp only[] at hI⊢
  have:big=2^64:=rfl;have:=ga0.1;simp only[lim] at this;omega
 ·exact⟨Om,by simp,Zar.start _ _⟩
 ·rintro⟨i,u1⟩ hI L hL;try simp only[] at hI
  obtain⟨i0,i1,hF⟩:=hI;have hFl:=hF.len i1;simp only[Yay.l0,atR,rdQ,Q.ask]
  refine Tm.ite (λh1=>?_) (λh1=>?_)
  ·try simp only[bz] at h1
   refine Tm.atRow Au Au (λx2 hx3 hm4=>?_);obtain⟨c5,c6,c7,c8,c9,rfl,g10,g11,g12,g13,g14,_⟩:=(ga0.2 x2 hm4).open;refine Tm.uncons ?_;refine Tm.dInt ?_;refine Tm.uncons ?_;refine Tm.dStr ?_;refine Tm.uncons ?_;refine Tm.dInt ?_;refine Tm.uncons ?_;refine Tm.dInt ?_;refine Tm.uncons ?_;refine Tm.dInt ?_;refine Tm.atEnd ?_;refine bd5_p (t:=λk=>YbR.t k _ _ _ _ _) (λi hi=>(And.left hi)) (YbR.T Au) (λy16 y17 y18 y19 y20 hy15=>?_);try simp only[] at hy15
   obtain⟨rfl,rfl,rfl,rfl,rfl,_⟩:=hy15;try simp only[Zq]
   refine Tm.guard Gd ?_;refine Tm.guard Gd ?_;try rw[Zb (x:=i+1) Om Om]
   refine hL (_,_) ⟨Om,Om,hF.next i0 hx3 rfl (by simp[Zu,Zag])⟩ Sm
  ·try simp only[bz] at h1
   exact Tm.ret (by exact⟨hF.all Om,trivial⟩)
theorem Ybx.T (ga0_3:Zc Ya lim aE) (ga0_4:Zc YQ lim aG) (ga0_5:Zc Yba lim aJ) (ga0_6:Zc RS lim aK):Tm (Zp 1) (λk=>Ybx.t k aB aA aD aE aG aJ aK) (λz=>z.1=aB/\z.2.1=aA/\z.2.2.1=aD/\z.2.2.2.1=Za aE/\z.2.2.2.2.1=Za aG/\z.2.2.2.2.2.1=Za aJ/\z.2.2.2.2.2.2=Za aK/\True):=by
 unfold Ybx.t Ybx.g;have hm:=Zh;have hlim:lim=1048576:=rfl;refine bd1_t (λi hi=>hi) (YaO.T Au) (λy2 hy1=>?_);try simp only[] at hy1
 obtain⟨rfl,_⟩:=hy1;try simp only[Zq]
 refine bd1_t (λi hi=>up0 hi) (Yaw.T Au) (λy4 hy3=>?_);try simp only[] at hy3
 obtain⟨rfl,_⟩:=hy3;try simp only[Zq]
 refine bd1_t (λi hi=>up0 hi) (Yay.T Au) (λy6 hy5=>?_);try simp only[] at hy5
 obtain⟨rfl,_⟩:=hy5;try simp only[Zq]
 refine bd1_t (λi hi=>up0 hi) (YH.T Au) (λy8 hy7=>?_);try simp only[] at hy7
 obtain⟨rfl,_⟩:=hy7;try simp only[Zq]
 exact Tm.ret (by exact⟨by first|rfl|assumption,by first|rfl|assumption,by first|rfl|assumption,by first|rfl|assumption,by first|rfl|assumption,by first|rfl|assumption,by first|rfl|assumption,trivial⟩)
theorem YD.T:Tm Zr (λk=>YD.t k a0 a1 a2) (λr=>r=true->a1<=a0/\a0<=a2):=by
 unfold YD.t YD.g;have hm:=Zh;have hlim:lim=1048576:=rfl;refine Tm.ite (λh1=>?_) (λh1=>?_)
 ·try simp only[bz] at h1
  exact Tm.ret (by first|(intro h;simp at h;omega)|(intro h;cases h))
 ·try simp only[bz] at h1
  exact Tm.ret (by first|(intro h;simp at h;omega)|(intro h;cases h))
theorem l1In_f {β:Type} {a b c:Int} (K:Bool->Option β):bd1 (YD.t k a b c) K=K (decide (b<=a)&&decide (a<=c)):=by
 refine bd1_of ?_ K;unfold YD.t YD.g;by_cases h:b<=a<;>simp[h]
def inB (a b c:Int):Bool:=decide (b<=a)&&decide (a<=c)
theorem YcL {β:Type} {a b c:Int} (K:Bool->Option β):bd1 (YD.t k a b c) K=K (inB a b c):=l1In_f K
theorem Ye.T {a0:BA} (ga0:a0.size<=lim):Tm Zr (λk=>Ye.t k a0) (λ_=>True):=by
 unfold Ye.t Ye.g;have hm:=Zh;have hlim:lim=1048576:=rfl;refine Tm.loop (okk:=Zr) (p:=λk=>k) (λi hi=>hi) (b:=λk=>Ye.l0 k a0 (λz0=>some z0)) (λi=>(((a0.size:Int))-i).toNat) (λi=>0<=i/\i<=(a0.size:Int)) ?_ ?_ ?_
 ·rintro i hI;try simp only[] at hI⊢
  have:big=2^64:=rfl;omega
 ·((try simp only[]);omega)
 ·rintro i hI L hL;try simp only[] at hI
  obtain⟨i0,i1⟩:=hI;simp only[Ye.l0]
  refine Tm.ite (λh1=>?_) (λh1=>?_)
  ·try simp only[bz] at h1
   refine Tm.atStr Au Au (λb2 hb3=>?_);try rw[Zb (x:=(b2.toNat:Int)) Om Om]
   refine bd1_p (t:=λk=>YD.t k _ _ _) (λi hi=>(And.left hi)) (YD.T) (λy5 hy4=>?_);refine Tm.ite (λh6=>?_) (λh6=>?_)
   ·try simp only[bz] at h6
    refine Tm.atStr Au Au (λb7 hb8=>?_);try rw[Zb (x:=(b7.toNat:Int)) Om Om]
    refine bd1_p (t:=λk=>YD.t k _ _ _) (λi hi=>(And.left hi)) (YD.T) (λy10 hy9=>?_);refine Tm.ite (λh11=>?_) (λh11=>?_)
    ·try simp only[bz] at h11
     refine Tm.atStr Au Au (λb12 hb13=>?_);refine Tm.ite (λh14=>?_) (λh14=>?_)
     ·try simp only[bz] at h14
      exact Tm.ret (by trivial)
     ·try simp only[bz] at h14
      try rw[Zb (x:=i+1) Om Om]
      exact hL _ Sm Sm
    ·try simp only[bz] at h11
     have z15:=hy9 h11;try rw[Zb (x:=i+1) Om Om]
     exact hL _ Sm Sm
   ·try simp only[bz] at h6
    have z16:=hy4 h6;try rw[Zb (x:=i+1) Om Om]
    exact hL _ Sm Sm
  ·try simp only[bz] at h1
   refine bd1_p (t:=λk=>YD.t k _ _ _) (λi hi=>(And.left hi)) (YD.T) (λy18 hy17=>?_);refine Tm.ite (λh19=>?_) (λh19=>?_)
   ·try simp only[bz] at h19
    have z20:=hy17 h19;refine Tm.atStr Au Au (λb21 hb22=>?_);refine Tm.ite (λh23=>?_) (λh23=>?_)
    ·try simp only[bz] at h23
     try rw[Zb (x:=(a0.size:Int)-1) Om Om]
     refine Tm.atStr Au Au (λb24 hb25=>?_);exact Tm.ret (by trivial)
    ·try simp only[bz] at h23
     exact Tm.ret (by trivial)
   ·try simp only[bz] at h19
    exact Tm.ret (by trivial)
noncomputable def Ye.v (a0:BA):Bool:=(Ye.t big a0).getD default
theorem Ye.tv {a0:BA} (ga0:a0.size<=lim) (hk:Zr k):Ye.t k a0=some (Ye.v a0):=(Ye.T ga0).val hk
theorem Ye.fv {a0:BA} (ga0:a0.size<=lim) (hk:Zr k) {β:Type} (K:Bool->Option β):bd1 (Ye.t k a0) K=K (Ye.v a0):=bd1_of (Ye.tv ga0 hk) K
noncomputable def Ycy (xs:LD):Bool:=(List.range xs.length).all λi=>Ye.v (gS xs (i:Int) 0)&&(!decide ((i:Int)>0)||Za3 (gS xs ((i:Int)-1) 0) (gS xs (i:Int) 0))
theorem Ycu {a b:BA}:Za3 a b=true↔Op.bytesLess a.toList b.toList=true:=by
 unfold Za3;simp
theorem names_iff {xs:LD}:Ycy xs=true↔(∀ r∈xs,Ye.v (rS r 0)=true)/\xs.Pairwise λx y=>Za3 (rS x 0) (rS y 0)=true:=by
 have hg:∀ (i:Nat) (hi:i<xs.length),gS xs (i:Int) 0=rS xs[i] 0:=λi hi=>by
  rw[<- gR_lt hi];rfl
 unfold Ycy;rw[List.all_eq_true];constructor
 ·intro h;have h:∀ (i:Nat) (_:i<xs.length),Ye.v (gS xs (i:Int) 0)=true/\(!decide ((i:Int)>0)||Za3 (gS xs ((i:Int)-1) 0) (gS xs (i:Int) 0))=true:=λi hi=>by
   have:=h i (List.mem_range.mpr hi);rw[Bool.and_eq_true] at this;exact this
  refine⟨λr hr=>?_,List.pairwise_iff_getElem.mpr ?_⟩
  ·obtain⟨i,hi,rfl⟩:=List.mem_iff_getElem.mp hr;rw[<- hg i hi];exact(h i hi).1
  ·have step:∀ (i:Nat) (hi:i+1<xs.length),Za3 (rS xs[i] 0) (rS xs[i+1] 0)=true:=λi hi=>by
    have hq:=(h (i+1) hi).2;rw[Zl (show((i+1:Nat):Int)>0 by omega),Bool.not_true,Bool.false_or,show((i+1:Nat):Int)-1=(i:Int) by omega,hg i Om,hg (i+1) hi] at hq;exact hq
   intro i j hi hj hij;obtain⟨d,rfl⟩:∃ d,j=i+1+d:=⟨j-(i+1),Om⟩
   induction d with
   |zero=>exact step i hj
   |succ d ih=>exact Ycu.mpr (bl_trans (Ycu.mp (ih Om Om)) (Ycu.mp (step (i+1+d) Om)))
 ·rintro⟨h1,h2⟩ i hi;have hi:=List.mem_range.mp hi;rw[Bool.and_eq_true];refine⟨by rw[hg i hi];exact h1 _ (List.getElem_mem _),?_⟩
  by_cases h0:(i:Int)>0
  ·have:=List.pairwise_iff_getElem.mp h2 (i-1) i Om hi Om;rw[show(i:Int)-1=((i-1:Nat):Int) by omega,hg i hi,hg (i-1) Om,this];simp
  ·rw[Zm h0];rfl
theorem Yab.T (ga0:Zc RSS lim a0):Tm Zr (λk=>Yab.t k a0) (λ_=>True):=by
 unfold Yab.t Yab.g;have hm:=Zh;have hlim:lim=1048576:=rfl;have la0:=ga0.1;refine Tm.loop (okk:=Zr) (p:=λk=>k) (λi hi=>hi) (b:=λk=>Yab.l0 k a0 (λz0=>some z0)) (λi=>(((a0.length:Int))-i).toNat) (λi=>0<=i/\i<=(a0.length:Int)) ?_ ?_ ?_
 ·rintro i hI;try simp only[] at hI⊢
  have:big=2^64:=rfl;omega
 ·((try simp only[]);omega)
 ·rintro i hI L hL;try simp only[] at hI
  obtain⟨i0,i1⟩:=hI;simp only[Yab.l0,atR,rdQ,Q.ask]
  refine Tm.ite (λh1=>?_) (λh1=>?_)
  ·try simp only[bz] at h1
   refine Tm.atRow Au Au (λx2 hx3 hm4=>?_);obtain⟨c5,c6,rfl,g7,g8,_⟩:=(ga0.2 x2 hm4).open;refine Tm.uncons ?_;refine Tm.dStr ?_;refine Tm.uncons ?_;refine Tm.dStr ?_;refine Tm.atEnd ?_;refine bd1_p (t:=λk=>Ye.t k _) (λi hi=>(And.left hi)) (Ye.T Au) (λy10 hy9=>?_);refine Tm.ite (λh11=>?_) (λh11=>?_)
   ·try simp only[bz] at h11
    exact Tm.ret (by trivial)
   ·try simp only[bz] at h11
    refine Tm.atRow Au Au (λx12 hx13 hm14=>?_);rw[hx3] at hx13;injection hx13 with hx13;subst hx13;refine Tm.uncons ?_;refine Tm.dStr ?_;refine Tm.uncons ?_;refine Tm.dStr ?_;refine Tm.atEnd ?_;refine bd1_p (t:=λk=>Ye.t k _) (λi hi=>(And.left hi)) (Ye.T Au) (λy18 hy17=>?_);refine Tm.ite (λh19=>?_) (λh19=>?_)
    ·try simp only[bz] at h19
     exact Tm.ret (by trivial)
    ·try simp only[bz] at h19
     refine Tm.ite (λh20=>?_) (λh20=>?_)
     ·try simp only[bz] at h20
      try rw[Zb (x:=i-1) Om Om]
      refine Tm.atRow Au Au (λx21 hx22 hm23=>?_);obtain⟨c24,c25,rfl,g26,g27,_⟩:=(ga0.2 x21 hm23).open;refine Tm.uncons ?_;refine Tm.dStr ?_;refine Tm.uncons ?_;refine Tm.dStr ?_;refine Tm.atEnd ?_;refine Tm.atRow Au Au (λx28 hx29 hm30=>?_);rw[hx3] at hx29;injection hx29 with hx29;subst hx29;refine Tm.uncons ?_;refine Tm.dStr ?_;refine Tm.uncons ?_;refine Tm.dStr ?_;refine Tm.atEnd ?_;refine Tm.ite (λh33=>?_) (λh33=>?_)
      ·try simp only[bz] at h33
       exact Tm.ret (by trivial)
      ·try simp only[bz] at h33
       try rw[Zb (x:=i+1) Om Om]
       exact hL _ Sm Sm
     ·try simp only[bz] at h20
      try rw[Zb (x:=i+1) Om Om]
      exact hL _ Sm Sm
  ·try simp only[bz] at h1
   exact Tm.ret (by trivial)
theorem YX.T (ga0:Zc RS lim a0):Tm Zr (λk=>YX.t k a0 a1) (λ_=>True):=by
 unfold YX.t YX.g;have hm:=Zh;have hlim:lim=1048576:=rfl;have la0:=ga0.1;refine Tm.loop (okk:=Zr) (p:=λk=>k) (λi hi=>hi) (b:=λk=>YX.l0 k a0 a1 (λz0=>some z0)) (λi=>(((a0.length:Int))-i).toNat) (λi=>0<=i/\i<=(a0.length:Int)) ?_ ?_ ?_
 ·rintro i hI;try simp only[] at hI⊢
  have:big=2^64:=rfl;omega
 ·((try simp only[]);omega)
 ·rintro i hI L hL;try simp only[] at hI
  obtain⟨i0,i1⟩:=hI;simp only[YX.l0,atR,rdQ,Q.ask]
  refine Tm.ite (λh1=>?_) (λh1=>?_)
  ·try simp only[bz] at h1
   refine Tm.atRow Au Au (λx2 hx3 hm4=>?_);obtain⟨c5,rfl,g6,_⟩:=(ga0.2 x2 hm4).open;refine Tm.uncons ?_;refine Tm.dStr ?_;refine Tm.atEnd ?_;refine bd1_p (t:=λk=>Ye.t k _) (λi hi=>(And.left hi)) (Ye.T Au) (λy8 hy7=>?_);refine Tm.ite (λh9=>?_) (λh9=>?_)
   ·try simp only[bz] at h9
    exact Tm.ret (by trivial)
   ·try simp only[bz] at h9
    refine Tm.ite (λh10=>?_) (λh10=>?_)
    ·try simp only[bz] at h10
     try rw[Zb (x:=i-1) Om Om]
     refine Tm.atRow Au Au (λx11 hx12 hm13=>?_);obtain⟨c14,rfl,g15,_⟩:=(ga0.2 x11 hm13).open;refine Tm.uncons ?_;refine Tm.dStr ?_;refine Tm.atEnd ?_;refine Tm.atRow Au Au (λx16 hx17 hm18=>?_);rw[hx3] at hx17;injection hx17 with hx17;subst hx17;refine Tm.uncons ?_;refine Tm.dStr ?_;refine Tm.atEnd ?_;refine Tm.ite (λh20=>?_) (λh20=>?_)
     ·try simp only[bz] at h20
      exact Tm.ret (by trivial)
     ·try simp only[bz] at h20
      try rw[Zb (x:=i+1) Om Om]
      exact hL _ Sm Sm
    ·try simp only[bz] at h10
     try rw[Zb (x:=i+1) Om Om]
     exact hL _ Sm Sm
  ·try simp only[bz] at h1
   exact Tm.ret (by trivial)
theorem l10Names_v {a:LD} {n:Int} (g:Zc RS lim a) (hk:Zr k):YX.t k a n=some (Ycy a&&decide ((a.length:Int)<=n)):=by
 have hl:=g.1;have hlim:lim=1048576:=rfl;have hb:big=2^64:=rfl;unfold YX.t YX.g;rw[Zab (n:=a.length) (λi=>Ye.v (gS a (i:Int) 0)&&(!decide ((i:Int)>0)||Za3 (gS a ((i:Int)-1) 0) (gS a (i:Int) 0))) (r1:=some false) (r2:=some (decide ((a.length:Int)<=n))) (by unfold Zr at hk;omega)]
 ·unfold Ycy;generalize List.all _ _=x;cases x<;>rfl
 ·intro L i hi;have k0:=(RS.get g (v:=(i:Int)) Om Om).2.1;simp(disch:=omega) only[YX.l0,atR,rdQ,Q.ask,Zl (show(i:Int)<a.length by omega),cond_true,RS.row g,Zv,ZF,Zw,Ye.fv k0 hk,Zb]
  by_cases h0:(i:Int)>0
  ·simp(disch:=omega) only[Zl h0,cond_true,RS.row g,Zv,ZF,Zw]
   cases Ye.v (gS a (i:Int) 0)<;>cases Za3 (gS a ((i:Int)-1) 0) (gS a (i:Int) 0)<;>rfl
  ·simp only[Zm h0,cond_false]
   cases Ye.v (gS a (i:Int) 0)<;>rfl
 ·intro L;simp[YX.l0,atR,rdQ,Q.ask]
theorem Y5.T {aB:BA} (ga0_0:aB.size<=lim) (ga0_1:Zc RSS lim aA) (ga0_2:Zc RS lim aD):Tm Zr (λk=>Y5.t k aB aA aD aE) (λ_=>True):=by
 unfold Y5.t Y5.g;have hm:=Zh;have hlim:lim=1048576:=rfl;have la0_1:=ga0_1.1;have la0_2:=ga0_2.1;refine bd1_t (λi hi=>hi) (Ye.T Au) (λy2 hy1=>?_);refine Tm.ite (λh3=>?_) (λh3=>?_)
 ·try simp only[bz] at h3
  refine bd1_t (λi hi=>hi) (Yab.T Au) (λy5 hy4=>?_);refine Tm.ite (λh6=>?_) (λh6=>?_)
  ·try simp only[bz] at h6
   refine bd1_t (λi hi=>hi) (YX.T Au) (λy8 hy7=>?_);refine Tm.ite (λh9=>?_) (λh9=>?_)
   ·try simp only[bz] at h9
    refine bd1_t (λi hi=>hi) (YD.T) (λy11 hy10=>?_);exact Tm.ret (by trivial)
   ·try simp only[bz] at h9
    exact Tm.ret (by trivial)
  ·try simp only[bz] at h6
   exact Tm.ret (by trivial)
 ·try simp only[bz] at h3
  exact Tm.ret (by trivial)
noncomputable def Y5.v (aB:BA) (aA aD:LD) (aE:Int):Bool:=(Y5.t big aB aA aD aE).getD default
theorem Y5.tv {aB:BA} (ga0_0:aB.size<=lim) (ga0_1:Zc RSS lim aA) (ga0_2:Zc RS lim aD) (hk:Zr k):Y5.t k aB aA aD aE=some (Y5.v aB aA aD aE):=(Y5.T ga0_0 ga0_1 ga0_2).val hk
theorem Y5.fv {aB:BA} (ga0_0:aB.size<=lim) (ga0_1:Zc RSS lim aA) (ga0_2:Zc RS lim aD) (hk:Zr k) {β:Type} (K:Bool->Option β):bd1 (Y5.t k aB aA aD aE) K=K (Y5.v aB aA aD aE):=bd1_of (Y5.tv ga0_0 ga0_1 ga0_2 hk) K
theorem Yaq.T {aA:BA} (ga0_1:aA.size<=lim) (ga0_2:Zc RS lim aD):Tm Zr (λk=>Yaq.t k aB aA aD) (λ_=>True):=by
 unfold Yaq.t Yaq.g;have hm:=Zh;have hlim:lim=1048576:=rfl;have la0_2:=ga0_2.1;refine Tm.loop (okk:=Zr) (p:=λk=>k) (λi hi=>hi) (b:=λk=>Yaq.l0 k (aD.length:Int) aB aA aD (λz0=>some z0)) (λi=>(((aD.length:Int))-i).toNat) (λi=>0<=i/\i<=(aD.length:Int)) ?_ ?_ ?_
 ·rintro i hI;try simp only[] at hI⊢
  have:big=2^64:=rfl;omega
 ·((try simp only[]);omega)
 ·rintro i hI L hL;try simp only[] at hI
  obtain⟨i0,i1⟩:=hI;simp only[Yaq.l0,atR,rdQ,Q.ask]
  refine Tm.ite (λh1=>?_) (λh1=>?_)
  ·try simp only[bz] at h1
   refine Tm.atRow Au Au (λx2 hx3 hm4=>?_);obtain⟨c5,rfl,g6,_⟩:=(ga0_2.2 x2 hm4).open;refine Tm.uncons ?_;refine Tm.dStr ?_;refine Tm.atEnd ?_;refine bd1_p (t:=λk=>Ye.t k _) (λi hi=>(And.left hi)) (Ye.T Au) (λy8 hy7=>?_);refine Tm.ite (λh9=>?_) (λh9=>?_)
   ·try simp only[bz] at h9
    exact Tm.ret (by trivial)
   ·try simp only[bz] at h9
    refine Tm.ite (λh10=>?_) (λh10=>?_)
    ·try simp only[bz] at h10
     try rw[Zb (x:=i-1) Om Om]
     refine Tm.atRow Au Au (λx11 hx12 hm13=>?_);obtain⟨c14,rfl,g15,_⟩:=(ga0_2.2 x11 hm13).open;refine Tm.uncons ?_;refine Tm.dStr ?_;refine Tm.atEnd ?_;refine Tm.atRow Au Au (λx16 hx17 hm18=>?_);rw[hx3] at hx17;injection hx17 with hx17;subst hx17;refine Tm.uncons ?_;refine Tm.dStr ?_;refine Tm.atEnd ?_;refine Tm.ite (λh20=>?_) (λh20=>?_)
     ·try simp only[bz] at h20
      exact Tm.ret (by trivial)
     ·try simp only[bz] at h20
      try rw[Zb (x:=i+1) Om Om]
      exact hL _ Sm Sm
    ·try simp only[bz] at h10
     try rw[Zb (x:=i+1) Om Om]
     exact hL _ Sm Sm
  ·try simp only[bz] at h1
   refine bd1_p (t:=λk=>Ye.t k _) (λi hi=>(And.left hi)) (Ye.T Au) (λy22 hy21=>?_);refine Tm.ite (λh23=>?_) (λh23=>?_)
   ·try simp only[bz] at h23
    exact Tm.ret (by trivial)
   ·try simp only[bz] at h23
    refine Tm.ite (λh24=>?_) (λh24=>?_)
    ·try simp only[bz] at h24
     refine Tm.ite (λh25=>?_) (λh25=>?_)
     ·try simp only[bz] at h25
      exact Tm.ret (by trivial)
     ·try simp only[bz] at h25
      refine Tm.ite (λh26=>?_) (λh26=>?_)
      ·try simp only[bz] at h26
       refine bd1_p (t:=λk=>YD.t k _ _ _) (λi hi=>(And.left hi)) (YD.T) (λy28 hy27=>?_);exact Tm.ret (by trivial)
      ·try simp only[bz] at h26
       refine Tm.ite (λh29=>?_) (λh29=>?_)
       ·try simp only[bz] at h29
        refine Tm.ite (λh30=>?_) (λh30=>?_)
        ·try simp only[bz] at h30
         exact Tm.ret (by trivial)
        ·try simp only[bz] at h30
         exact Tm.ret (by trivial)
       ·try simp only[bz] at h29
        refine Tm.ite (λh31=>?_) (λh31=>?_)
        ·try simp only[bz] at h31
         exact Tm.ret (by trivial)
        ·try simp only[bz] at h31
         exact Tm.ret (by trivial)
    ·try simp only[bz] at h24
     refine Tm.ite (λh32=>?_) (λh32=>?_)
     ·try simp only[bz] at h32
      exact Tm.ret (by trivial)
     ·try simp only[bz] at h32
      refine Tm.ite (λh33=>?_) (λh33=>?_)
      ·try simp only[bz] at h33
       refine bd1_p (t:=λk=>YD.t k _ _ _) (λi hi=>(And.left hi)) (YD.T) (λy35 hy34=>?_);exact Tm.ret (by trivial)
      ·try simp only[bz] at h33
       refine Tm.ite (λh36=>?_) (λh36=>?_)
       ·try simp only[bz] at h36
        refine Tm.ite (λh37=>?_) (λh37=>?_)
        ·try simp only[bz] at h37
         exact Tm.ret (by trivial)
        ·try simp only[bz] at h37
         exact Tm.ret (by trivial)
       ·try simp only[bz] at h36
        refine Tm.ite (λh38=>?_) (λh38=>?_)
        ·try simp only[bz] at h38
         exact Tm.ret (by trivial)
        ·try simp only[bz] at h38
         exact Tm.ret (by trivial)
theorem YZ.T (ga0:Zc Ybl lim a0):Tm Zr (λk=>YZ.t k a0) (λ_=>True):=by
 unfold YZ.t YZ.g;have hm:=Zh;have hlim:lim=1048576:=rfl;have la0:=ga0.1;refine Tm.loop (okk:=Zr) (p:=λk=>k) (λi hi=>hi) (b:=λk=>YZ.l0 k a0 (λz0=>some z0)) (λi=>(((a0.length:Int))-i).toNat) (λi=>0<=i/\i<=(a0.length:Int)) ?_ ?_ ?_
 ·rintro i hI;try simp only[] at hI⊢
  have:big=2^64:=rfl;omega
 ·((try simp only[]);omega)
 ·rintro i hI L hL;try simp only[] at hI
  obtain⟨i0,i1⟩:=hI;simp only[YZ.l0,atR,rdQ,Q.ask]
  refine Tm.ite (λh1=>?_) (λh1=>?_)
  ·try simp only[bz] at h1
   refine Tm.atRow Au Au (λx2 hx3 hm4=>?_);obtain⟨c5,c6,c7,rfl,g8,g9,g10,_⟩:=(ga0.2 x2 hm4).open;refine Tm.uncons ?_;refine Tm.dInt ?_;refine Tm.uncons ?_;refine Tm.dStr ?_;refine Tm.uncons ?_;refine Tm.dSl ?_;refine Tm.atEnd ?_;refine bd1_p (t:=λk=>Yaq.t k _ _ _) (λi hi=>(And.left hi)) (Yaq.T Au Au) (λy12 hy11=>?_);refine Tm.ite (λh13=>?_) (λh13=>?_)
   ·try simp only[bz] at h13
    exact Tm.ret (by trivial)
   ·try simp only[bz] at h13
    try rw[Zb (x:=i+1) Om Om]
    exact hL _ Sm Sm
  ·try simp only[bz] at h1
   exact Tm.ret (by trivial)
theorem Y2.T (ga0_1:Zc Ybl lim aA) (ga0_2:Zc RS lim aD) (ga0_3:Zc RSI lim aE):Tm Zr (λk=>Y2.t k aB aA aD aE) (λ_=>True):=by
 unfold Y2.t Y2.g;have hm:=Zh;have hlim:lim=1048576:=rfl;have la0_1:=ga0_1.1;have la0_2:=ga0_2.1;have la0_3:=ga0_3.1;refine Tm.loop (okk:=Zr) (p:=λk=>k) (λi hi=>hi) (b:=λk=>Y2.l0 k aB aA aD aE (λz0=>some z0)) (λi=>(((aE.length:Int))-i).toNat) (λi=>0<=i/\i<=(aE.length:Int)) ?_ ?_ ?_
 ·rintro i hI;try simp only[] at hI⊢
  have:big=2^64:=rfl;omega
 ·((try simp only[]);omega)
 ·rintro i hI L hL;try simp only[] at hI
  obtain⟨i0,i1⟩:=hI;simp only[Y2.l0,atR,rdQ,Q.ask]
  refine Tm.ite (λh1=>?_) (λh1=>?_)
  ·try simp only[bz] at h1
   refine Tm.atRow Au Au (λx2 hx3 hm4=>?_);obtain⟨c5,c6,rfl,g7,g8,_⟩:=(ga0_3.2 x2 hm4).open;refine Tm.uncons ?_;refine Tm.dStr ?_;refine Tm.uncons ?_;refine Tm.dInt ?_;refine Tm.atEnd ?_;refine bd1_p (t:=λk=>Ye.t k _) (λi hi=>(And.left hi)) (Ye.T Au) (λy10 hy9=>?_);refine Tm.ite (λh11=>?_) (λh11=>?_)
   ·try simp only[bz] at h11
    exact Tm.ret (by trivial)
   ·try simp only[bz] at h11
    refine Tm.atRow Au Au (λx12 hx13 hm14=>?_);rw[hx3] at hx13;injection hx13 with hx13;subst hx13;refine Tm.uncons ?_;refine Tm.dStr ?_;refine Tm.uncons ?_;refine Tm.dInt ?_;refine Tm.atEnd ?_;refine bd1_p (t:=λk=>YD.t k _ _ _) (λi hi=>(And.left hi)) (YD.T) (λy18 hy17=>?_);refine Tm.ite (λh19=>?_) (λh19=>?_)
    ·try simp only[bz] at h19
     exact Tm.ret (by trivial)
    ·try simp only[bz] at h19
     have z20:=hy17 h19;refine Tm.ite (λh21=>?_) (λh21=>?_)
     ·try simp only[bz] at h21
      try rw[Zb (x:=i-1) Om Om]
      refine Tm.atRow Au Au (λx22 hx23 hm24=>?_);obtain⟨c25,c26,rfl,g27,g28,_⟩:=(ga0_3.2 x22 hm24).open;refine Tm.uncons ?_;refine Tm.dStr ?_;refine Tm.uncons ?_;refine Tm.dInt ?_;refine Tm.atEnd ?_;refine Tm.atRow Au Au (λx29 hx30 hm31=>?_);rw[hx3] at hx30;injection hx30 with hx30;subst hx30;refine Tm.uncons ?_;refine Tm.dStr ?_;refine Tm.uncons ?_;refine Tm.dInt ?_;refine Tm.atEnd ?_;refine Tm.ite (λh34=>?_) (λh34=>?_)
      ·try simp only[bz] at h34
       exact Tm.ret (by trivial)
      ·try simp only[bz] at h34
       try rw[Zb (x:=i+1) Om Om]
       exact hL _ Sm Sm
     ·try simp only[bz] at h21
      try rw[Zb (x:=i+1) Om Om]
      exact hL _ Sm Sm
  ·try simp only[bz] at h1
   refine bd1_p (t:=λk=>YD.t k _ _ _) (λi hi=>(And.left hi)) (YD.T) (λy36 hy35=>?_);refine Tm.ite (λh37=>?_) (λh37=>?_)
   ·try simp only[bz] at h37
    have z38:=hy35 h37;refine bd1_p (t:=λk=>YZ.t k _) (λi hi=>(And.left hi)) (YZ.T Au) (λy40 hy39=>?_);refine Tm.ite (λh41=>?_) (λh41=>?_)
    ·try simp only[bz] at h41
     refine bd1_p (t:=λk=>YX.t k _ _) (λi hi=>(And.left hi)) (YX.T Au) (λy43 hy42=>?_);refine Tm.ite (λh44=>?_) (λh44=>?_)
     ·try simp only[bz] at h44
      exact Tm.ret (by trivial)
     ·try simp only[bz] at h44
      exact Tm.ret (by trivial)
    ·try simp only[bz] at h41
     exact Tm.ret (by trivial)
   ·try simp only[bz] at h37
    exact Tm.ret (by trivial)
noncomputable def Y2.v (aB:Int) (aA aD aE:LD):Bool:=(Y2.t big aB aA aD aE).getD default
theorem Y2.tv (ga0_1:Zc Ybl lim aA) (ga0_2:Zc RS lim aD) (ga0_3:Zc RSI lim aE) (hk:Zr k):Y2.t k aB aA aD aE=some (Y2.v aB aA aD aE):=(Y2.T ga0_1 ga0_2 ga0_3).val hk
theorem Y2.fv (ga0_1:Zc Ybl lim aA) (ga0_2:Zc RS lim aD) (ga0_3:Zc RSI lim aE) (hk:Zr k) {β:Type} (K:Bool->Option β):bd1 (Y2.t k aB aA aD aE) K=K (Y2.v aB aA aD aE):=bd1_of (Y2.tv ga0_1 ga0_2 ga0_3 hk) K
end Go.Proofs.YtnfogafklciihaaGreat
