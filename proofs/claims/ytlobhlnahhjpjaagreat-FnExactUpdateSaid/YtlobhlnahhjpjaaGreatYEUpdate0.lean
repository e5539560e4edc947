/- Printed,and by hand: the functions that FnExactUpdate reaches come to their end; the program's answer as the reference's. -/
import Derived.Test.YtlobhlnahhjpjaaGreatXEUpdate1
import Derived.KernelRfl
set_option linter.unusedVariables false
set_option linter.unusedSimpArgs false
namespace Go.Proofs.YtlobhlnahhjpjaaGreat
open Go Go.T Go.Proofs
theorem iter_ex {V β:Type} {b:(V->Option β)->V->Option β} (m:V->Nat) (Inv:V->Prop) (Q:Option β->Prop) (step:∀ v,Inv v->∀ L,(∀ v',Inv v'->m v'<m v->Q (L v'))->Q (b L v)):∀ {k:Nat} {v:V},Inv v->m v<k->Q (ZA b k v)
 |0,v,_,h=>absurd h (Nat.not_lt_zero _)
 |k+1,v,hv,h=>step v hv (ZA b k) λv' hv' hlt=>iter_ex m Inv Q step hv' (by omega)
theorem mem_modify {α:Type} {P:α->Prop} {f:α->α} (hf:∀ x,P x->P (f x)):∀ {xs:List α} {j:Nat},(∀ x∈xs,P x)->∀ x∈xs.modify j f,P x
 |[],j,h,x,hx=>by cases j<;>cases hx
 |y::xs,0,h,x,hx=>by
  simp only[List.modify_zero_cons] at hx
  rcases List.mem_cons.mp hx with rfl|hx
  ·exact hf y (h y (by simp))
  ·exact h x (by simp[hx])
 |y::xs,j+1,h,x,hx=>by
  simp only[List.modify_succ_cons] at hx
  rcases List.mem_cons.mp hx with rfl|hx
  ·exact h x (by simp)
  ·exact mem_modify hf (λz hz=>h z (by simp[hz])) x hx
theorem mem_snoc {α:Type} {P:α->Prop} {xs:List α} {y:α} (h:∀ x∈xs,P x) (hy:P y):∀ x∈xs++[y],P x:=by
 intro x hx
 rcases List.mem_append.mp hx with q|q
 ·exact h x q
 ·simp at q;subst q;exact hy
theorem wf_of {x:Int} (h0 : -9223372036854775808<=x) (h1:x<=9223372036854775807):(Lit.int .i64 x).wf=true:=by
 simp[Lit.wf,IntKind.min,IntKind.max,IntKind.signed,IntKind.bits]
 omega
theorem big_lv1 {n:Nat} (h:n<=4398046511104):big+n<=lv 1:=by
 have hb:big=2^64:=rfl
 have:lv 1=2^65:=rfl
 omega
theorem ZaM (n:Int):n=1\/n=2\/n=3\/n=4\/n=5\/((n==1)=false/\(n==2)=false/\(n==3)=false/\(n==4)=false/\(n==5)=false):=by
 simp only[beq_eq_false_iff_ne]
 omega
theorem delR_deep {pr:List D->Option Bool} {q:List D->Bool}:∀ {e:LD},(∀ r∈e,pr r=some (q r))->delR pr (Zc e)=some (Zc (e.filter λr=>!q r))
 |[],_=>rfl
 |r::e,h=>by
  simp only[Zc,delR,imm_deepCells,h r (by simp),delR_deep (e:=e) λx hx=>h x (by simp[hx])]
  rw[List.filter_cons]
  cases q r<;>rfl
theorem delK_deep {ix:LD->Option Int} {pr:List D->Option Bool} {q:List D->Bool} {d:LD} (hl:d.length<=1048576) (hix:ix d=some (ZbV (λi=>q (gR d (i:Int))) d.length)) (h:∀ r∈d,pr r=some (q r)):delK ix pr (Zc d)=some (Zc (d.filter λr=>!q r)):=by
 unfold delK
 rw[ZK,hix]
 have hg:∀ i (hi:i<d.length),gR d (i:Int)=d[i]:=λi hi=>by
  have:=gR_at (xs:=d) (v:=(i:Int)) (by omega) (by omega)
  rw[Int.toNat_natCast,List.getElem?_eq_getElem hi] at this
  injection this with this
  exact this.symm
 by_cases hz:ZbV (λi=>q (gR d (i:Int))) d.length<0
 ·obtain⟨h1,h2⟩:=findI_none hz
  simp only[h1,if_true]
  congr 2
  symm
  rw[List.filter_eq_self]
  intro x hx
  obtain⟨i,hi,rfl⟩:=List.mem_iff_getElem.mp hx
  have:=h2 i hi
  rw[hg i hi] at this
  rw[this];rfl
 ·obtain⟨h1,h2,h3,h4⟩:=findI_some (p:=λi=>q (gR d (i:Int))) (n:=d.length) (by omega)
  generalize ZbV (λi=>q (gR d (i:Int))) d.length=z at *
  simp only[show ¬ z = -1 by omega,if_false]
  rw[ZH ⟨by omega,by rw[ZS];omega,by rw[ZS];omega⟩]
  have ht:∀ m,m<=d.length->(Zc d).take m=Zc (d.take m)/\(Zc d).drop m=Zc (d.drop m):=λm hm=>by
   have e:Zc d=Zc (d.take m)++Zc (d.drop m):=by rw[<- Zbb,List.take_append_drop]
   have l:(Zc (d.take m)).length=m:=by rw[ZS,List.length_take];omega
   rw[e]
   exact⟨List.take_left' l,List.drop_left' l⟩
  rw[(ht z.toNat (by omega)).1,(ht (z.toNat+1) (by omega)).2,delR_deep λr hr=>h r (List.mem_of_mem_drop hr)]
  simp only[]
  rw[<- Zbb]
  congr 2
  have h5:d=d.take z.toNat++(d[z.toNat]::d.drop (z.toNat+1)):=by rw[List.getElem_cons_drop,List.take_append_drop]
  conv=>rhs;rw[h5]
  rw[List.filter_append,List.filter_cons]
  have h7:q d[z.toNat]=true:=by have:=h2;rwa[hg _ h1] at this
  rw[h7]
  simp only[Bool.not_true,Bool.false_eq_true,if_false]
  congr 1
  symm
  rw[List.filter_eq_self]
  intro x hx
  obtain⟨i,hi,rfl⟩:=List.mem_iff_getElem.mp hx
  rw[List.length_take] at hi
  have:=h4 i (by omega)
  rw[hg i (by omega)] at this
  rw[List.getElem_take,this];rfl
def insD (r:Nat->Int) (x:Nat):List Nat->List Nat
 |[]=>[x]
 |y::l=>if r y<r x then x::y::l else y::insD r x l
def Ya5 (r:Nat->Int) (l:List Nat):List Nat:=l.foldl (λa x=>insD r x a) []
def AheadD (r:Nat->Int) (i j:Nat):Prop:=r j<r i\/(r i=r j/\i<j)
theorem insD_mem {r:Nat->Int} {x z:Nat}:∀ {l:List Nat},z∈insD r x l↔z=x\/z∈l
 |[]=>by simp[insD]
 |y::l=>by
  unfold insD
  split
  ·simp
  ·simp only[List.mem_cons,insD_mem (l:=l)]
   constructor
   ·rintro(h|h|h)<;>simp[h]
   ·rintro(h|h|h)<;>simp[h]
theorem insD_len {r:Nat->Int} {x:Nat}:∀ {l:List Nat},(insD r x l).length=l.length+1
 |[]=>rfl
 |y::l=>by
  unfold insD
  split
  ·simp
  ·simp[insD_len (l:=l)]
theorem insD_pair {r:Nat->Int} {x:Nat}:∀ {l:List Nat},l.Pairwise (AheadD r)->(∀ y∈l,y<x)->(insD r x l).Pairwise (AheadD r)
 |[],_,_=>by simp[insD]
 |y::l,h,hx=>by
  obtain⟨h1,h2⟩:=List.pairwise_cons.mp h
  unfold insD
  split
  ·rename_i hr
   refine List.pairwise_cons.mpr ⟨λz hz=>?_,h⟩
   rcases List.mem_cons.mp hz with rfl|hz
   ·exact .inl hr
   ·rcases h1 z hz with q|q
    ·exact .inl (by omega)
    ·exact .inl (by omega)
  ·rename_i hr
   refine List.pairwise_cons.mpr ⟨λz hz=>?_,insD_pair h2 λz hz=>hx z (by simp[hz])⟩
   rcases insD_mem.mp hz with rfl|hz
   ·have:=hx y (by simp)
    by_cases he:r y=r z
    ·exact .inr ⟨he,this⟩
    ·exact .inl (by omega)
   ·exact h1 z hz
theorem foldD {r:Nat->Int}:∀ (l a:List Nat),a.Pairwise (AheadD r)->l.Pairwise (·<·)->(∀ y∈a,∀ x∈l,y<x)->
  (l.foldl (λa x=>insD r x a) a).Pairwise (AheadD r)/\(∀ z,z∈l.foldl (λa x=>insD r x a) a↔z∈a\/z∈l)/\(l.foldl (λa x=>insD r x a) a).length=a.length+l.length
 |[],a,h,_,_=>⟨h,by simp,by simp⟩
 |x::l,a,h,hl,hx=>by
  obtain⟨h1,h2⟩:=List.pairwise_cons.mp hl
  obtain⟨q1,q2,q3⟩:=foldD l (insD r x a) (insD_pair h λy hy=>hx y hy x (by simp)) h2 (λy hy z hz=>by
   rcases insD_mem.mp hy with rfl|hy
   ·exact h1 z hz
   ·exact hx y hy z (by simp[hz]))
  refine⟨q1,λz=>?_,by rw[List.foldl_cons,q3,insD_len,List.length_cons];omega⟩
  rw[List.foldl_cons,q2,insD_mem,List.mem_cons]
  constructor
  ·rintro((h|h)|h)<;>simp[h]
  ·rintro(h|h|h)<;>simp[h]
theorem isortD_facts {r:Nat->Int} {l:List Nat} (hl:l.Pairwise (·<·)):(Ya5 r l).Pairwise (AheadD r)/\(∀ z,z∈Ya5 r l↔z∈l)/\(Ya5 r l).length=l.length:=by
 obtain⟨h1,h2,h3⟩:=foldD (r:=r) l [] (by simp) hl (by simp)
 exact⟨h1,λz=>by rw[Ya5,h2];simp,by rw[Ya5,h3];simp⟩
theorem insD_map {r:Nat->Int} {f:Nat->Nat} {x:Nat}:∀ {l:List Nat},insD r (f x) (l.map f)=(insD (λi=>r (f i)) x l).map f
 |[]=>rfl
 |y::l=>by
  simp only[List.map_cons,insD]
  split
  ·rfl
  ·rw[insD_map (l:=l)];rfl
theorem isortD_map {r:Nat->Int} {f:Nat->Nat} {l:List Nat}:Ya5 r (l.map f)=(Ya5 (λi=>r (f i)) l).map f:=by
 have:∀ (l a:List Nat),(l.map f).foldl (λa x=>insD r x a) (a.map f)=(l.foldl (λa x=>insD (λi=>r (f i)) x a) a).map f:=by
  intro l
  induction l with
  |nil=>intro a;rfl
  |cons x l ih=>intro a;simp only[List.map_cons,List.foldl_cons,insD_map,ih]
 exact this l []
def bestD (r:Nat->Int):List Nat->Option Nat->Option Nat
 |[],b=>b
 |i::l,none=>bestD r l (some i)
 |i::l,some b=>if r b<r i then bestD r l (some i) else bestD r l (some b)
theorem bestD_some {r:Nat->Int}:∀ {l:List Nat} {b:Nat},(∀ i∈l,b<i)->l.Pairwise (·<·)->∃ c,bestD r l (some b)=some c/\(c=b\/c∈l)/\(c=b\/AheadD r c b)/\∀ i∈l,i=c\/AheadD r c i
 |[],b,_,_=>⟨b,rfl,.inl rfl,.inl rfl,by simp⟩
 |i::l,b,h,hl=>by
  obtain⟨h1,h2⟩:=List.pairwise_cons.mp hl
  unfold bestD
  split
  ·rename_i hr
   obtain⟨c,q1,q2,q3,q4⟩:=bestD_some (r:=r) (b:=i) h1 h2
   refine⟨c,q1,.inr (by rcases q2 with h|h<;>simp[h]),.inr ?_,λj hj=>?_⟩
   ·rcases q3 with rfl|q3
    ·exact .inl hr
    ·rcases q3 with q|q
     ·exact .inl (by omega)
     ·exact .inl (by omega)
   ·rcases List.mem_cons.mp hj with rfl|hj
    ·rcases q3 with rfl|q3
     ·exact .inl rfl
     ·exact .inr q3
    ·exact q4 j hj
  ·rename_i hr
   have hb:=h i (by simp)
   obtain⟨c,q1,q2,q3,q4⟩:=bestD_some (r:=r) (b:=b) (λj hj=>h j (by simp[hj])) h2
   refine⟨c,q1,by rcases q2 with h|h<;>simp[h],q3,λj hj=>?_⟩
   rcases List.mem_cons.mp hj with rfl|hj
   ·have hbi:AheadD r b j:=by
     by_cases he:r b=r j
     ·exact .inr ⟨he,hb⟩
     ·exact .inl (by omega)
    rcases q3 with rfl|q3
    ·exact .inr hbi
    ·right
     rcases q3 with q|q<;>rcases hbi with p|p
     ·exact .inl (by omega)
     ·exact .inl (by omega)
     ·exact .inl (by omega)
     ·exact .inr ⟨by omega,by omega⟩
   ·exact q4 j hj
theorem best_next {r:Nat->Int} {l:List Nat} (hl:l.Pairwise (·<·)) (h0:∀ i∈l,0<=r i) {t:Nat} (ht:t<l.length) {r':Nat->Int}
  (hr:∀ i∈l,r' i=if i∈(Ya5 r l).take t then -1 else r i):bestD r' l none=(Ya5 r l)[t]?:=by
 obtain⟨s1,s2,s3⟩:=isortD_facts (r:=r) hl
 have hT:t<(Ya5 r l).length:=by omega
 generalize Ya5 r l=S at s1 s2 s3 hr hT⊢
 rw[List.getElem?_eq_getElem hT]
 cases l with
 |nil=>simp at ht
 |cons a l=>
  obtain⟨h1,h2⟩:=List.pairwise_cons.mp hl
  obtain⟨c,q1,q2,q3,q4⟩:=bestD_some (r:=r') h1 h2
  unfold bestD
  rw[q1]
  congr 1
  have hnd:S.Nodup:=s1.imp λ{i j} h e=>by subst e;rcases h with h|h<;>omega
  have hSt:S[t]∉S.take t:=λh=>by
   obtain⟨i,hi,he⟩:=List.mem_take_iff_getElem.mp h
   have:=(List.getElem_inj hnd).mp he
   omega
  have hm:S[t]∈a::l:=(s2 _).mp (List.getElem_mem hT)
  have hrt:r' S[t]=r S[t]:=by rw[hr _ hm,if_neg hSt]
  have h0t:=h0 _ hm
  -- c is in the list,and nothing is ahead of it
  have hcm:c∈a::l:=by rcases q2 with h|h<;>simp[h]
  have hall:∀ i∈a::l,i=c\/AheadD r' c i:=λi hi=>by
   rcases List.mem_cons.mp hi with rfl|hi
   ·rcases q3 with rfl|q
    ·exact .inl rfl
    ·exact .inr q
   ·exact q4 i hi
  rcases hall _ hm with h|h
  ·exact h.symm
  ·exfalso
   have hcn:c∉S.take t:=λhc=>by
    have:=hr c hcm
    rw[if_pos hc] at this
    rcases h with h|h<;>omega
   have hcr:r' c=r c:=by rw[hr c hcm,if_neg hcn]
   obtain⟨j,hj,rfl⟩:=List.mem_iff_getElem.mp ((s2 c).mpr hcm)
   have hjt:t<j:=by
    rcases Nat.lt_trichotomy j t with q|q|q
    ·exact absurd (List.mem_take_iff_getElem.mpr ⟨j,by omega,rfl⟩) hcn
    ·subst q
     rcases h with h|h<;>omega
    ·exact q
   have:=List.pairwise_iff_getElem.mp s1 t j hT hj hjt
   rw[AheadD,hrt,hcr] at h
   rcases this with p|p<;>rcases h with q|q<;>omega
section
variable (w c o:Nat->Int) (L:Nat) (n:Int)
def opB (i:Nat):Bool:=decide (0<w i)&&decide (o i<c i)
def opL:List Nat:=(List.range L).filter (opB w c o)
def smL (l:List Nat):Int:=(l.map w).sum
abbrev smD:Int:=smL w (opL w c o L)
def bsD (s:Int) (i:Nat):Int:=Int.tdiv (n*w i) s
def rsD (s:Int) (i:Nat):Int:=Int.tmod (n*w i) s
def lfD (s:Int) (l:List Nat):Int:=n-(l.map (bsD w n s)).sum
def chD (s:Int) (l:List Nat):List Nat:=(Ya5 (rsD w n s) l).take (lfD w n s l).toNat
def xD (s:Int) (l:List Nat) (i:Nat):Int:=bsD w n s i+if i∈chD w n s l then 1 else 0
def clD (s:Int) (l:List Nat) (i:Nat):Int:=if c i-o i<xD w n s l i then c i-o i else xD w n s l i
end
theorem sum_le {f:Nat->Int} {b:Int}:∀ {l:List Nat},(∀ i∈l,0<=f i/\f i<=b)->0<=(l.map f).sum/\(l.map f).sum<=b*l.length
 |[],_=>by simp
 |x::l,h=>by
  obtain⟨q1,q2⟩:=sum_le (f:=f) (b:=b) (l:=l) λi hi=>h i (by simp[hi])
  obtain⟨p1,p2⟩:=h x (by simp)
  simp only[List.map_cons,List.sum_cons,List.length_cons]
  have:b*((l.length+1:Nat):Int)=b*(l.length:Int)+b:=by rw[show((l.length+1:Nat):Int)=(l.length:Int)+1 by omega,Int.mul_add,Int.mul_one]
  omega
theorem sum_split {w:Nat->Int} {n s:Int} (hs:0<s) (hn:0<=n):∀ {l:List Nat},(∀ i∈l,0<=w i)->n*(l.map w).sum=s*(l.map (bsD w n s)).sum+(l.map (rsD w n s)).sum
 |[],_=>by simp
 |x::l,h=>by
  have ih:=sum_split (w:=w) hs hn (l:=l) λi hi=>h i (by simp[hi])
  have h1:s*bsD w n s x+rsD w n s x=n*w x:=Int.mul_tdiv_add_tmod (n*w x) s
  simp only[List.map_cons,List.sum_cons]
  rw[Int.mul_add,Int.mul_add,ih,<- h1]
  omega
theorem rsD_bound {w:Nat->Int} {n s:Int} (hs:0<s) (hn:0<=n) {i:Nat} (h:0<=w i):0<=rsD w n s i/\rsD w n s i<s/\0<=bsD w n s i:=by
 have h0:0<=n*w i:=Int.mul_nonneg hn h
 exact⟨Int.tmod_nonneg _ h0,Int.tmod_lt_of_pos _ hs,Int.tdiv_nonneg h0 (by omega)⟩
theorem lfD_bound {w:Nat->Int} {n:Int} {l:List Nat} (hn:0<=n) (hw:∀ i∈l,0<w i) (hl:l≠[]):0<smL w l/\0<=lfD w n (smL w l) l/\lfD w n (smL w l) l<l.length/\0<=(l.map (bsD w n (smL w l))).sum:=by
 have hs:0<smL w l:=by
  cases l with
  |nil=>exact absurd rfl hl
  |cons x l=>
   unfold smL
   have h1:=hw x (by simp)
   have h2:0<=(l.map w).sum:=by
    have:∀ {l:List Nat},(∀ i∈l,0<w i)->0<=(l.map w).sum:=λ{l}=>by
     induction l with
     |nil=>simp
     |cons y l ih=>
      intro h
      have:=h y (by simp)
      have:=ih λi hi=>h i (by simp[hi])
      simp only[List.map_cons,List.sum_cons]
      omega
    exact this λi hi=>hw i (by simp[hi])
   simp only[List.map_cons,List.sum_cons]
   omega
 have hsp:=sum_split (w:=w) (n:=n) hs hn (l:=l) λi hi=>Int.le_of_lt (hw i hi)
 have hr:=sum_le (f:=rsD w n (smL w l)) (b:=smL w l-1) (l:=l) λi hi=>by
  obtain⟨p1,p2,_⟩:=rsD_bound (w:=w) (n:=n) hs hn (i:=i) (Int.le_of_lt (hw i hi))
  omega
 change n*smL w l=_ at hsp
 have hb0:0<=(l.map (bsD w n (smL w l))).sum:=by
  have:∀ {l':List Nat} {s:Int},0<s->(∀ i∈l',0<w i)->0<=(l'.map (bsD w n s)).sum:=λ{l' s} hs=>by
   induction l' with
   |nil=>simp
   |cons y l ih=>
    intro h
    obtain⟨_,_,p⟩:=rsD_bound (w:=w) (n:=n) hs hn (i:=y) (Int.le_of_lt (h y (by simp)))
    have:=ih λi hi=>h i (by simp[hi])
    simp only[List.map_cons,List.sum_cons]
    omega
  exact this hs hw
 generalize(l.map (rsD w n (smL w l))).sum=R at hsp hr
 have hlf:smL w l*lfD w n (smL w l) l=R:=by
  unfold lfD
  rw[Int.mul_sub,Int.mul_comm _ n,hsp]
  omega
 refine⟨hs,?_,?_,hb0⟩
 ·generalize lfD w n (smL w l) l=f at hlf
  apply Int.not_lt.mp
  intro h
  have:=Int.mul_neg_of_pos_of_neg hs h
  omega
 ·generalize lfD w n (smL w l) l=f at hlf
  have h1:smL w l*f<smL w l*l.length:=by
   rw[hlf]
   have:(smL w l-1)*(l.length:Int)=smL w l*l.length-l.length:=by rw[Int.sub_mul,Int.one_mul]
   have h2:0<l.length:=List.length_pos_iff.mpr hl
   omega
  exact Int.lt_of_mul_lt_mul_left h1 (Int.le_of_lt hs)
theorem opL_facts {w c o:Nat->Int} {L:Nat}:(opL w c o L).Pairwise (·<·)/\∀ i,i∈opL w c o L↔i<L/\0<w i/\o i<c i:=by
 refine⟨List.Pairwise.filter _ List.pairwise_lt_range,λi=>?_⟩
 simp[opL,opB]
theorem xD_sum {w:Nat->Int} {n:Int} {l:List Nat} (hp:l.Pairwise (·<·)) (hn:0<=n) (hw:∀ i∈l,0<w i) (hl:l≠[]):(l.map (xD w n (smL w l) l)).sum=n:=by
 obtain⟨h1,h2,h3,_⟩:=lfD_bound hn hw hl
 generalize hs:smL w l=s at h1 h2 h3
 obtain⟨s1,s2,s3⟩:=isortD_facts (r:=rsD w n s) hp
 have hnd:(chD w n s l).Nodup:=by
  have:(Ya5 (rsD w n s) l).Nodup:=s1.imp λ{i j} h e=>by subst e;rcases h with h|h<;>omega
  exact this.sublist (List.take_sublist _ _)
 have hlen:((chD w n s l).length:Int)=lfD w n s l:=by
  unfold chD
  rw[List.length_take,s3]
  omega
 have hsub:∀ i∈chD w n s l,i∈l:=λi hi=>(s2 i).mp (List.mem_of_mem_take hi)
 have hcount:∀ (l:List Nat),l.Pairwise (·<·)->∀ (ch:List Nat),ch.Nodup->(∀ i∈ch,i∈l)->(l.map λi=>if i∈ch then(1:Int) else 0).sum=ch.length:=by
  intro l
  induction l with
  |nil=>
   intro _ ch _ h
   cases ch with
   |nil=>rfl
   |cons x ch=>exact absurd (h x (by simp)) (by simp)
  |cons x l ih=>
   intro hp ch hnd hsub
   obtain⟨p1,p2⟩:=List.pairwise_cons.mp hp
   simp only[List.map_cons,List.sum_cons]
   have hx:x∉l:=λh=>by have:=p1 x h;omega
   have e:(l.map λi=>if i∈ch then(1:Int) else 0)=l.map λi=>if i∈ch.erase x then(1:Int) else 0:=List.map_congr_left λi hi=>by
    have:i≠x:=λh=>hx (h▸hi)
    simp only[List.mem_erase_of_ne this]
   rw[e,ih p2 (ch.erase x) (hnd.erase x) λi hi=>by
    have hne:i≠x:=λh=>by subst h;exact(List.Nodup.not_mem_erase hnd) hi
    rcases List.mem_cons.mp (hsub i (List.mem_of_mem_erase hi)) with h|h
    ·exact absurd h hne
    ·exact h]
   by_cases hm:x∈ch
   ·rw[if_pos hm,List.length_erase_of_mem hm]
    have:=List.length_pos_of_mem hm
    omega
   ·rw[if_neg hm,List.erase_of_not_mem hm]
    omega
 have hadd:∀ (l:List Nat) (f g:Nat->Int),(l.map λi=>f i+g i).sum=(l.map f).sum+(l.map g).sum:=by
  intro l f g
  induction l with
  |nil=>rfl
  |cons x l ih=>simp only[List.map_cons,List.sum_cons,ih];omega
 have:l.map (xD w n s l)=l.map λi=>bsD w n s i+(if i∈chD w n s l then(1:Int) else 0):=rfl
 rw[this,hadd,hcount l hp _ hnd hsub,hlen]
 unfold lfD
 omega
theorem clD_sum {w c o:Nat->Int} {n:Int} {l:List Nat} (hp:l.Pairwise (·<·)) (hn:0<n) (hw:∀ i∈l,0<w i) (hc:∀ i∈l,o i<c i) (hl:l≠[]):
  (∀ i∈l,0<=clD w c o n (smL w l) l i/\clD w c o n (smL w l) l i<=c i-o i/\0<=xD w n (smL w l) l i)/\0<(l.map (clD w c o n (smL w l) l)).sum/\(l.map (clD w c o n (smL w l) l)).sum<=n:=by
 obtain⟨h1,h2,h3,_⟩:=lfD_bound (Int.le_of_lt hn) hw hl
 have hx:=xD_sum hp (Int.le_of_lt hn) hw hl
 generalize smL w l=s at *
 have hx0:∀ i∈l,0<=xD w n s l i:=λi hi=>by
  obtain⟨_,_,p⟩:=rsD_bound (w:=w) (n:=n) h1 (Int.le_of_lt hn) (i:=i) (Int.le_of_lt (hw i hi))
  unfold xD
  split<;>omega
 have hcl:∀ i∈l,0<=clD w c o n s l i/\clD w c o n s l i<=c i-o i/\clD w c o n s l i<=xD w n s l i/\(0<xD w n s l i->0<clD w c o n s l i):=λi hi=>by
  have:=hx0 i hi
  have:=hc i hi
  unfold clD
  split<;>omega
 refine⟨λi hi=>⟨(hcl i hi).1,(hcl i hi).2.1,hx0 i hi⟩,?_⟩
 have gen:∀ l':List Nat,(∀ i∈l',i∈l)->0<=(l'.map (clD w c o n s l)).sum/\(l'.map (clD w c o n s l)).sum<=(l'.map (xD w n s l)).sum/\(0<(l'.map (xD w n s l)).sum->0<(l'.map (clD w c o n s l)).sum):=by
  intro l'
  induction l' with
  |nil=>intro _;simp
  |cons y l' ih=>
   intro h
   obtain⟨q1,q2,q3⟩:=ih λi hi=>h i (by simp[hi])
   obtain⟨p1,_,p2,p3⟩:=hcl y (h y (by simp))
   have:=hx0 y (h y (by simp))
   simp only[List.map_cons,List.sum_cons]
   refine⟨by omega,by omega,λh=>?_⟩
   by_cases h0:0<xD w n s l y
   ·have:=p3 h0;omega
   ·have:=q3 (by omega);omega
 have:=gen l λi hi=>hi
 rw[hx] at this
 exact⟨this.2.2 hn,this.2.1⟩
def rowF (L:Nat) (g:Nat->C):LC:=(List.range L).map λj=>[g j]
def rowD (L:Nat) (g:Nat->D):LD:=(List.range L).map λj=>[g j]
abbrev cI (o:Nat->Int):Nat->C:=λj=>.d (.int .i64 (o j))
abbrev cB (o:Nat->Bool):Nat->C:=λj=>.d (.bool (o j))
theorem rowF_len (L:Nat) (g:Nat->C):(rowF L g).length=L:=by simp[rowF]
theorem rowD_len (L:Nat) (g:Nat->D):(rowD L g).length=L:=by simp[rowD]
theorem rowF_ext {L:Nat} {g h:Nat->C} (e:∀ j,j<L->g j=h j):rowF L g=rowF L h:=List.map_congr_left λj hj=>by rw[e j (List.mem_range.mp hj)]
theorem rowF_at {L:Nat} {g:Nat->C} {i:Nat} (h:i<L) {β:Type} (F:List C->Option β):ZaR (rowF L g) i F=F [g i]:=by
 unfold ZaR rowF
 rw[List.getElem?_map,List.getElem?_range h]
 rfl
theorem rowF_mod {L:Nat} {g:Nat->C} {i:Nat} (h:i<L) (x:C):((rowF L g).modify i λc=>Zs c 0 [x])=rowF L (λj=>if j=i then x else g j):=by
 refine List.ext_getElem (by simp[rowF]) λj h1 h2=>?_
 rw[List.getElem_modify]
 simp only[rowF,List.getElem_map,List.getElem_range]
 by_cases hj:i=j
 ·subst hj;simp[Zs]
 ·rw[if_neg hj,if_neg (λh=>hj h.symm)]
theorem rowF_rep (L:Nat) (x:C):List.replicate L [x]=rowF L (λ_=>x):=by
 refine List.ext_getElem (by simp[rowF]) λj h1 h2=>?_
 simp[rowF]
theorem Ya8:∀ (l:LC),C.immRows l=l.map C.immCells
 |[]=>rfl
 |x::l=>by simp only[C.immRows,List.map_cons,Ya8 l]
theorem imm_rowF (L:Nat) (g:Nat->C):C.immRows (rowF L g)=rowD L (λj=>(g j).imm):=by
 rw[Ya8,rowF,rowD,List.map_map]
 rfl
theorem rowD_at {L:Nat} {g:Nat->D} {i:Nat} (h:i<L) {β:Type} (F:List D->Option β):atRow (rowD L g) (i:Int) F=F [g i]:=by
 unfold atRow
 rw[if_pos (by omega),Int.toNat_natCast]
 unfold ZaR rowD
 rw[List.getElem?_map,List.getElem?_range h]
 rfl
theorem deep_rowI {L:Nat} {o:Nat->Int}:Zc (rowD L (λj=>.int .i64 (o j)))=rowF L (cI o):=by
 have:∀ l:List Nat,Zc (l.map λj=>[D.int .i64 (o j)])=l.map λj=>[C.d (.int .i64 (o j))]:=λl=>by
  induction l with
  |nil=>rfl
  |cons x l ih=>simp only[List.map_cons,Zc,ZN,deepD,ih]
 exact this _
def upN (l:List Nat):LC:=l.map λ(x:Nat)=>[.d (.int .i64 (x:Int))]
def ofN (l:List Nat):LD:=l.map λ(x:Nat)=>[.int .i64 (x:Int)]
theorem upN_len (l:List Nat):(upN l).length=l.length:=by simp[upN]
theorem ofN_len (l:List Nat):(ofN l).length=l.length:=by simp[ofN]
theorem upN_app (a b:List Nat):upN a++upN b=upN (a++b):=by simp[upN]
theorem imm_upN (l:List Nat):C.immRows (upN l)=ofN l:=by
 rw[Ya8,upN,ofN,List.map_map]
 rfl
theorem upN_at {l:List Nat} {i:Nat} (h:i<l.length) {β:Type} (F:List C->Option β):ZaR (upN l) i F=F [.d (.int .i64 (l[i]:Int))]:=by simp[ZaR,upN,h]
theorem ofN_at {l:List Nat} {i:Nat} (h:i<l.length) {β:Type} (F:List D->Option β):atRow (ofN l) (i:Int) F=F [.int .i64 (l[i]:Int)]:=by
 unfold atRow
 rw[if_pos (by omega),Int.toNat_natCast]
 simp[ZaR,ofN,h]
theorem range_filter_succ (p:Nat->Bool) (i:Nat):(List.range (i+1)).filter p=(List.range i).filter p++(if p i then[i] else[]):=by
 rw[List.range_succ,List.filter_append]
 simp[List.filter_cons]
section
variable {α:Type} (less same:α->α->Bool)
structure Ordered:Prop where
 irr:∀ x y,same x y=true->less x y=false
 tri:∀ x y,less x y=false->same x y=false->less y x=true
 asym:∀ x y,less x y=true->less y x=false
 trans:∀ x y z,less x y=true->less y z=true->less x z=true
 cong:∀ x y z,same x y=true->less y z=true->less x z=true
 sym:∀ x y,same x y=true->same y x=true
def YaR (o o':α):Bool->List α->List α
 |put,[]=>if put then[] else[o']
 |put,x::xs=>(if !put&&!less x o then[o'] else[])++((if same x o then[] else[x])++YaR o o' (put||!less x o) xs)
def lbF (o:α) (l:List α):Nat:=(l.takeWhile λx=>less x o).length
def hitF (o:α) (l:List α):Bool:=match l[lbF less o l]? with|some x=>same x o|none=>false
end
section
variable {α:Type} {less same:α->α->Bool} (H:Ordered less same) {o o':α}
include H
theorem withF_past:∀ {l:List α},(∀ x∈l,less o x=true)->YaR less same o o' true l=l
 |[],_=>rfl
 |x::xs,h=>by
  have hx:=h x (by simp)
  have hs:same x o=false:=by
   cases q:same x o
   ·rfl
   ·have:=H.irr o x (H.sym _ _ q)
    rw[hx] at this;cases this
  unfold YaR
  rw[hs,Bool.true_or,withF_past λy hy=>h y (by simp[hy])]
  rfl
theorem withF_eq:∀ {l:List α},l.Pairwise (λx y=>less x y=true)->YaR less same o o' false l=l.take (lbF less o l)++o'::l.drop (lbF less o l+if hitF less same o l then 1 else 0)
 |[],_=>rfl
 |x::xs,h=>by
  obtain⟨h1,h2⟩:=List.pairwise_cons.mp h
  cases hx:less x o with
  |true=>
   have hs:same x o=false:=by
    cases q:same x o
    ·rfl
    ·have:=H.irr _ _ q
     rw[hx] at this;cases this
   have e:lbF less o (x::xs)=lbF less o xs+1:=by simp[lbF,List.takeWhile_cons,hx]
   have e2:hitF less same o (x::xs)=hitF less same o xs:=by unfold hitF;rw[e];rfl
   unfold YaR
   rw[hx,hs]
   show[x]++YaR less same o o' false xs=_
   rw[withF_eq h2,e,e2]
   simp only[List.nil_append,List.take_succ_cons,List.cons_append]
   rw[show lbF less o xs+1+(if hitF less same o xs=true then 1 else 0)=(lbF less o xs+if hitF less same o xs=true then 1 else 0)+1 by omega,List.drop_succ_cons]
  |false=>
   have e:lbF less o (x::xs)=0:=by simp[lbF,List.takeWhile_cons,hx]
   have e2:hitF less same o (x::xs)=same x o:=by unfold hitF;rw[e];rfl
   have hp:∀ y∈xs,less o y=true:=λy hy=>by
    cases hs:same x o with
    |true=>exact H.cong _ _ _ (H.sym _ _ hs) (h1 y hy)
    |false=>exact H.trans _ _ _ (H.tri _ _ hx hs) (h1 y hy)
   unfold YaR
   rw[hx,Bool.not_false,Bool.false_or,withF_past H hp,e,e2]
   cases same x o<;>simp
omit H in
theorem lbF_below:∀ {l:List α} {i:Nat} (hi:i<l.length),i<lbF less o l->less l[i] o=true
 |x::xs,i,hi,h=>by
  cases hx:less x o with
  |false=>simp[lbF,List.takeWhile_cons,hx] at h
  |true=>
   cases i with
   |zero=>exact hx
   |succ i=>exact lbF_below (l:=xs) (by simpa using hi) (by simpa[lbF,List.takeWhile_cons,hx] using h)
theorem lbF_above:∀ {l:List α} (_:l.Pairwise (λx y=>less x y=true)) {i:Nat} (hi:i<l.length),lbF less o l<=i->less l[i] o=false
 |x::xs,hp,i,hi,h=>by
  obtain⟨h1,h2⟩:=List.pairwise_cons.mp hp
  cases hx:less x o with
  |true=>
   cases i with
   |zero=>simp[lbF,List.takeWhile_cons,hx] at h
   |succ i=>exact lbF_above h2 (by simpa using hi) (by simpa[lbF,List.takeWhile_cons,hx] using h)
  |false=>
   cases i with
   |zero=>exact hx
   |succ i=>
    have hxi:=h1 (xs[i]'(by simpa using hi)) (List.getElem_mem _)
    show less (xs[i]'(by simpa using hi)) o=false
    cases q:less (xs[i]'(by simpa using hi)) o with
    |false=>rfl
    |true=>
     have:=H.trans _ _ _ hxi q
     rw[hx] at this;cases this
end
def ltK (key:Nat->Int) (i j:Nat):Prop:=key i<key j\/(key i=key j/\i<j)
theorem ltK_tr {key:Nat->Int} {i j l:Nat} (h:ltK key i j) (h':ltK key j l):ltK key i l:=by
 unfold ltK at *;omega
theorem ltK_as {key:Nat->Int} {i j:Nat} (h:ltK key i j):¬ ltK key j i:=by
 unfold ltK at *;omega
theorem st_uniq {key:Nat->Int}:∀ {L M:List Nat},L.Pairwise (ltK key)->M.Pairwise (ltK key)->(∀ x,x∈L↔x∈M)->L=M
 |[],[],_,_,_=>rfl
 |[],y::M,_,_,h=>by have:=(h y).mpr (by simp);simp at this
 |x::L,[],_,_,h=>by have:=(h x).mp (by simp);simp at this
 |x::L,y::M,hL,hM,h=>by
  obtain⟨hx,hL2⟩:=List.pairwise_cons.mp hL
  obtain⟨hy,hM2⟩:=List.pairwise_cons.mp hM
  have e:x=y:=by
   rcases List.mem_cons.mp ((h x).mp (by simp)) with e|e
   ·exact e
   ·rcases List.mem_cons.mp ((h y).mpr (by simp)) with e2|e2
    ·exact e2.symm
    ·exact absurd (hy x e) (ltK_as (hx y e2))
  subst e
  refine congrArg _ (st_uniq hL2 hM2 λz=>⟨λhz=>?_,λhz=>?_⟩)
  ·rcases List.mem_cons.mp ((h z).mp (by simp[hz])) with e|e
   ·subst e;exact absurd (hx z hz) (λq=>ltK_as q q)
   ·exact e
  ·rcases List.mem_cons.mp ((h z).mpr (by simp[hz])) with e|e
   ·subst e;exact absurd (hy z hz) (λq=>ltK_as q q)
   ·exact e
def StOf (key:Nat->Int) (L R:List Nat):Prop:=R.Pairwise (ltK key)/\R.Perm L
theorem StOf.len {key:Nat->Int} {L R:List Nat} (h:StOf key L R):R.length=L.length:=h.2.length_eq
theorem st_join {key:Nat->Int} {A1 A2 B1 B2 R1 R2:List Nat} (hA:(A1++A2).Pairwise (ltK key)) (hB:(B1++B2).Pairwise (ltK key)) (h1:∀ x∈A1,∀ y∈B2,ltK key x y) (h2:∀ x∈A2,∀ y∈B1,ltK key y x)
  (r1:StOf key (A1++B1) R1) (r2:StOf key (A2++B2) R2):StOf key ((A1++A2)++(B1++B2)) (R1++R2):=by
 refine⟨List.pairwise_append.mpr ⟨r1.1,r2.1,λx hx y hy=>?_⟩,?_⟩
 ·have hA3:=(List.pairwise_append.mp hA).2.2
  have hB3:=(List.pairwise_append.mp hB).2.2
  rcases List.mem_append.mp (r1.2.mem_iff.mp hx) with hx|hx<;>rcases List.mem_append.mp (r2.2.mem_iff.mp hy) with hy|hy
  ·exact hA3 x hx y hy
  ·exact h1 x hx y hy
  ·exact h2 y hy x hx
  ·exact hB3 x hx y hy
 ·refine(r1.2.append r2.2).trans ?_
  rw[List.append_assoc,List.append_assoc]
  refine List.Perm.append_left A1 ?_
  rw[<- List.append_assoc,<- List.append_assoc]
  exact List.Perm.append_right B2 List.perm_append_comm
theorem st_cut {key:Nat->Int} {L:List Nat} (h:L.Pairwise (ltK key)) {i j:Nat} (hi:i<L.length) (hj:j<L.length) (hij:i<j):ltK key L[i] L[j]:=List.pairwise_iff_getElem.mp h i j hi hj hij
theorem st_le {key:Nat->Int} {L:List Nat} (h:L.Pairwise (ltK key)) {i j:Nat} (hi:i<L.length) (hj:j<L.length) (hij:i<=j):L[i]=L[j]\/ltK key L[i] L[j]:=by
 rcases Nat.lt_or_eq_of_le hij with h1|h1
 ·exact .inr (st_cut h hi hj h1)
 ·subst h1;exact .inl rfl
theorem mem_take_get {L:List Nat} {s x:Nat} (h:x∈L.take s):∃ i,∃ (hi:i<L.length),i<s/\L[i]=x:=by
 obtain⟨i,hi,rfl⟩:=List.mem_iff_getElem.mp h
 rw[List.length_take] at hi
 exact⟨i,by omega,by omega,by simp⟩
theorem mem_drop_get {L:List Nat} {s x:Nat} (h:x∈L.drop s):∃ i,∃ (hi:i<L.length),s<=i/\L[i]=x:=by
 obtain⟨i,hi,rfl⟩:=List.mem_iff_getElem.mp h
 rw[List.length_drop] at hi
 exact⟨s+i,by omega,by omega,by simp⟩
theorem st_across {key:Nat->Int} {A B:List Nat} (hA:A.Pairwise (ltK key)) (hB:B.Pairwise (ltK key)) {s e:Nat} (h:∀ (h0:0<s) (h1:s<=A.length) (h2:e<B.length),ltK key (A[s-1]'(by omega)) B[e]) (hs:s<=A.length):∀ x∈A.take s,∀ y∈B.drop e,ltK key x y:=by
 intro x hx y hy
 obtain⟨i,hi,his,rfl⟩:=mem_take_get hx
 obtain⟨j,hj,hej,rfl⟩:=mem_drop_get hy
 have h0:=h (by omega) hs (by omega)
 have h1:A[i]=A[s-1]'(by omega)\/ltK key A[i] (A[s-1]'(by omega)):=st_le hA hi (by omega) (by omega)
 have h2:B[e]'(by omega)=B[j]\/ltK key (B[e]'(by omega)) B[j]:=st_le hB (by omega) hj hej
 rcases h1 with h1|h1<;>rcases h2 with h2|h2
 ·rw[h1,<- h2];exact h0
 ·rw[h1];exact ltK_tr h0 h2
 ·rw[<- h2];exact ltK_tr h1 h0
 ·exact ltK_tr h1 (ltK_tr h0 h2)
def leK (key:Nat->Int) (i j:Nat):Bool:=decide (key i<key j\/(key i=key j/\i<=j))
def srtK (key:Nat->Int) (L:List Nat):List Nat:=L.mergeSort (leK key)
theorem srtK_of {key:Nat->Int} {L:List Nat} (h:L.Nodup):StOf key L (srtK key L):=by
 have hp:(srtK key L).Perm L:=List.mergeSort_perm L _
 have h1:(srtK key L).Pairwise (λa b=>leK key a b=true):=List.pairwise_mergeSort (λa b c h1 h2=>by simp only[leK,decide_eq_true_eq] at *;omega) (λa b=>by simp only[leK,Bool.or_eq_true,decide_eq_true_eq];omega) L
 have h2:(srtK key L).Nodup:=hp.nodup_iff.mpr h
 refine⟨?_,hp⟩
 refine List.Pairwise.imp ?_ (h1.and h2)
 intro a b ⟨h3,h4⟩
 simp only[leK,decide_eq_true_eq] at h3
 unfold ltK
 omega
theorem StOf.nodup {key:Nat->Int} {L R:List Nat} (h:StOf key L R):L.Nodup:=by
 refine h.2.nodup_iff.mp (List.Pairwise.imp ?_ h.1)
 intro a b h1 h2
 subst h2
 exact ltK_as h1 h1
theorem srtK_eq {key:Nat->Int} {L R:List Nat} (h:StOf key L R):R=srtK key L:=by
 have h2:=srtK_of (key:=key) h.nodup
 exact st_uniq h.1 h2.1 λx=>by rw[h.2.mem_iff,h2.2.mem_iff]
theorem srtK_len {key:Nat->Int} {L:List Nat}:(srtK key L).length=L.length:=(List.mergeSort_perm L _).length_eq
theorem srtK_mem {key:Nat->Int} {L:List Nat} {x:Nat}:x∈srtK key L↔x∈L:=(List.mergeSort_perm L _).mem_iff
theorem srtK_self {key:Nat->Int} {L:List Nat} (h:L.Pairwise (ltK key)):srtK key L=L:=(srtK_eq ⟨h,List.Perm.refl _⟩).symm
def cmpL (key:Nat->Int):Nat->List Nat->List Nat
 |_,[]=>[]
 |x,s::r=>bif key s==key x then cmpL key s r else s::cmpL key s r
theorem cmpL_spec {key:Nat->Int}:∀ {r:List Nat} {x:Nat},(x::r).Pairwise (ltK key)->(cmpL key x r).Pairwise (λi j=>key i<key j)/\(∀ y∈cmpL key x r,key x<key y)/\∀ y,y∈cmpL key x r↔y∈r/\key y≠key x/\∀ z∈r,key z=key y->y<=z
 |[],x,_=>⟨List.Pairwise.nil,by simp[cmpL],by simp[cmpL]⟩
 |s::r,x,h=>by
  obtain⟨hx,h2⟩:=List.pairwise_cons.mp h
  obtain⟨hs,h3⟩:=List.pairwise_cons.mp h2
  obtain⟨i1,i2,i3⟩:=cmpL_spec h2
  have hxs:=hx s (by simp)
  have hkx:∀ y∈r,key s<=key y:=λy hy=>by have:=hs y hy;unfold ltK at this;omega
  unfold cmpL
  cases hq:key s==key x with
  |true=>
   have hq:=eq_of_beq hq
   simp only[cond_true]
   refine⟨i1,λy hy=>by have:=i2 y hy;omega,λy=>?_⟩
   rw[i3 y]
   refine⟨λ⟨a,b,c⟩=>⟨by simp[a],by omega,λz hz he=>?_⟩,λ⟨a,b,c⟩=>⟨?_,by omega,λz hz he=>c z (by simp[hz]) he⟩⟩
   ·rcases List.mem_cons.mp hz with rfl|hz
    ·exact absurd he.symm b
    ·exact c z hz he
   ·rcases List.mem_cons.mp a with rfl|a
    ·exact absurd hq b
    ·exact a
  |false=>
   have hq:=ne_of_beq_false hq
   simp only[cond_false]
   have hlt:key x<key s:=by unfold ltK at hxs;omega
   refine⟨List.pairwise_cons.mpr ⟨i2,i1⟩,λy hy=>?_,λy=>?_⟩
   ·rcases List.mem_cons.mp hy with rfl|hy
    ·exact hlt
    ·have:=i2 y hy;omega
   ·refine⟨λhy=>?_,λ⟨a,b,c⟩=>?_⟩
    ·rcases List.mem_cons.mp hy with rfl|hy
     ·refine⟨by simp,hq,λz hz he=>?_⟩
      rcases List.mem_cons.mp hz with rfl|hz
      ·exact Nat.le_refl _
      ·have:=hs z hz;unfold ltK at this;omega
     ·obtain⟨a,b,c⟩:=(i3 y).mp hy
      have:=hkx y a
      refine⟨by simp[a],by omega,λz hz he=>?_⟩
      rcases List.mem_cons.mp hz with rfl|hz
      ·exact absurd he.symm b
      ·exact c z hz he
    ·rcases List.mem_cons.mp a with rfl|a
     ·simp
     ·refine List.mem_cons.mpr (.inr ((i3 y).mpr ⟨a,λhe=>?_,λz hz he=>c z (by simp[hz]) he⟩))
      have h4:=c s (by simp) he.symm
      have h5:=hs y a
      unfold ltK at h5;omega
def cmpA (key:Nat->Int):List Nat->List Nat
 |[]=>[]
 |x::r=>x::cmpL key x r
theorem cmpA_spec {key:Nat->Int} {L:List Nat} (h:L.Pairwise (ltK key)):(cmpA key L).Pairwise (λi j=>key i<key j)/\∀ y,y∈cmpA key L↔y∈L/\∀ z∈L,key z=key y->y<=z:=by
 cases L with
 |nil=>exact⟨List.Pairwise.nil,by simp[cmpA]⟩
 |cons x r=>
  obtain⟨i1,i2,i3⟩:=cmpL_spec h
  obtain⟨hx,h2⟩:=List.pairwise_cons.mp h
  unfold cmpA
  refine⟨List.pairwise_cons.mpr ⟨i2,i1⟩,λy=>⟨λhy=>?_,λ⟨a,c⟩=>?_⟩⟩
  ·rcases List.mem_cons.mp hy with rfl|hy
   ·refine⟨by simp,λz hz he=>?_⟩
    rcases List.mem_cons.mp hz with rfl|hz
    ·exact Nat.le_refl _
    ·have:=hx z hz;unfold ltK at this;omega
   ·obtain⟨a,b,c⟩:=(i3 y).mp hy
    refine⟨by simp[a],λz hz he=>?_⟩
    rcases List.mem_cons.mp hz with rfl|hz
    ·exact absurd he.symm b
    ·exact c z hz he
  ·rcases List.mem_cons.mp a with rfl|a
   ·simp
   ·refine List.mem_cons.mpr (.inr ((i3 y).mpr ⟨a,λhe=>?_,λz hz he=>c z (by simp[hz]) he⟩))
    have h4:=c x (by simp) he.symm
    have h5:=hx y a
    unfold ltK at h5;omega
structure Firsts (key:Nat->Int) (n:Nat) (O:List Nat):Prop where
 asc:O.Pairwise (λi j=>key i<key j)
 mem:∀ y,y∈O↔y<n/\∀ z,z<y->key z≠key y
theorem Firsts.uniq {key:Nat->Int} {n:Nat} {O M:List Nat} (h:Firsts key n O) (h':Firsts key n M):O=M:=
 st_uniq (key:=key) (h.asc.imp λq=>.inl q) (h'.asc.imp λq=>.inl q) λx=>by rw[h.mem,h'.mem]
theorem firsts_cmpA {key:Nat->Int} {n:Nat}:Firsts key n (cmpA key (srtK key (List.range n))):=by
 obtain⟨h1,h2⟩:=cmpA_spec (srtK_of (key:=key) (List.nodup_range (n:=n))).1
 refine⟨h1,λy=>?_⟩
 rw[h2 y]
 simp only[srtK_mem,List.mem_range]
 exact⟨λ⟨a,b⟩=>⟨a,λz hz he=>by have:=b z (by omega) he;omega⟩,λ⟨a,b⟩=>⟨a,λz hz he=>Nat.le_of_not_lt λq=>b z q he⟩⟩
theorem cmpL_len {key:Nat->Int}:∀ {r:List Nat} {x:Nat},(cmpL key x r).length<=r.length
 |[],_=>Nat.le_refl _
 |s::r,x=>by
  unfold cmpL
  have:=cmpL_len (key:=key) (r:=r) (x:=s)
  cases key s==key x<;>simp only[cond_true,cond_false,List.length_cons]<;>omega
theorem firsts_len {key:Nat->Int} {n:Nat} {O:List Nat} (h:Firsts key n O):O.length<=n:=by
 rw[h.uniq firsts_cmpA]
 have:(srtK key (List.range n)).length=n:=by rw[srtK_len,List.length_range]
 cases hL:srtK key (List.range n) with
 |nil=>rw[hL] at this;simp at this;simp[cmpA]
 |cons x r=>
  rw[hL] at this
  have h2:=cmpL_len (key:=key) (r:=r) (x:=x)
  simp only[cmpA,List.length_cons] at this⊢
  omega
theorem YH.tm {ι α:Type} {ok:ι->Prop} {ψ:α->Prop} {p:ι->Nat} {B:Nat} (hp:∀ i,ok i->B<=p i) {a0 a1 φ} (h:Tm (λk=>B<=k) (λk=>YH.t k a0 a1) φ) {G:ι->Int->Option α} (hG:∀ z0,φ z0->Tm ok (λi=>G i z0) ψ):Tm ok (λi=>YH.f (p i) a0 a1 (G i)) ψ:=bd1_tm (t:=λk=>YH.t k a0 a1) hp h hG
def RS (B:Nat) (r:List D):Prop:=∃ (c0:BA),r=[.str c0]/\c0.size<=B/\True
theorem RS.open {B:Nat} {r:List D} (h:RS B r):∃ (c0:BA),r=[.str c0]/\c0.size<=B/\True:=h
theorem RS.mono {B B':Nat} (hb:B<=B') {r:List D} (h:RS B r):RS B' r:=by
 obtain⟨c0,rfl,k0,_⟩:=h
 exact⟨_,rfl,(Nat.le_trans k0 hb),trivial⟩
theorem RS.wide {xs:LD} (h:ZB RS lim xs):ZB RS 2097152 xs:=⟨Nat.le_trans h.1 (by decide),λr hr=>(h.2 r hr).mono (by decide)⟩
theorem RS.len {B:Nat} {r:List D} (h:RS B r):r.length=1:=by
 obtain⟨c0,rfl,_⟩:=h.open
 rfl
theorem RS.flat {B:Nat} {xs:LD} (h:∀ r∈xs,RS B r):Zcg 1 xs:=λr hr=>by
 obtain⟨c0,rfl,_⟩:=(h r hr).open
 exact⟨rfl,by simp[Zag]⟩
theorem RS.wt {B:Nat} {xs:LD} (h:∀ r∈xs,RS B r):Zu xs=1*xs.length:=wt_flat (R:=RS B) (λr h=>by obtain⟨c0,rfl,_⟩:=h;rfl) xs h
theorem RS.deep {B:Nat} {xs:LD} (h:∀ r∈xs,RS B r):Zc xs=xs.map (·.map C.d):=deep_flat (R:=RS B) (λr h=>by obtain⟨c0,rfl,_⟩:=h;rfl) xs h
theorem RS.gets {B:Nat} {xs:LD} (h:∀ r∈xs,RS B r) {v:Int} (h0:0<=v) (h1:v<xs.length):gR xs v=[.str (gS xs v 0)]/\(gS xs v 0).size<=B/\True:=by
 obtain⟨c0,e,k0,_⟩:=(h (gR xs v) (gR_mem h0 h1)).open
 unfold gS
 rw[e]
 exact⟨rfl,k0,trivial⟩
theorem RS.rows {B:Nat} {xs:LD} (h:∀ r∈xs,RS B r) {v:Int} (h0:0<=v) (h1:v<xs.length) {β:Type} (F:List D->Option β):atRow xs v F=F [.str (gS xs v 0)]:=by
 rw[<- (RS.gets h h0 h1).1]
 exact Zck h0 h1 F
theorem RS.get {B:Nat} {xs:LD} (h:ZB RS B xs) {v:Int} (h0:0<=v) (h1:v<xs.length):gR xs v=[.str (gS xs v 0)]/\(gS xs v 0).size<=B/\True:=RS.gets h.2 h0 h1
theorem RS.row {B:Nat} {xs:LD} (h:ZB RS B xs) {v:Int} (h0:0<=v) (h1:v<xs.length) {β:Type} (F:List D->Option β):atRow xs v F=F [.str (gS xs v 0)]:=RS.rows h.2 h0 h1 F
set_option maxRecDepth 100000 in
theorem YH.T {a0:LD} {a1:Int} (h0:0<=a1) (h1:a1<=1048576) (ga0:ZB RS maxLen a0):Tm Fuel (λk=>YH.t k a0 a1) (λr=>r<0\/0<=r/\r<=a1/\ZB RS lim a0/\((Zu a0:Nat):Int)<=64*(a1-r)/\True):=by
 unfold YH.t YH.g
 have hm:=maxLen_eq
 have hlim:lim=1048576:=rfl
 have hlen:=ga0.1
 try rw[Z9 (x:=a1-(a0.length:Int)) (by omega) (by omega)]
 refine Tm.ite (λh1=>?_) (λh1=>?_)
 ·try simp only[bz0,bz1,bz2,bz3,bz4,bz5,bz6,bz7,bz8,bz9,bza] at h1
  exact Tm.ret (by first|(left;omega)|(right;refine⟨?_,?_,?_,?_,trivial⟩<;>first|assumption|omega))
 ·try simp only[bz0,bz1,bz2,bz3,bz4,bz5,bz6,bz7,bz8,bz9,bza] at h1
  refine Tm.loop (okk:=Fuel) (p:=λk=>k) (λi hi=>hi) (b:=λk=>YH.l0 k a0 (λz0=>some z0)) (λv=>match v with|(u0,i)=>(((a0.length:Int))-i).toNat) (λv=>match v with|(u0,i)=>0<=u0/\u0<=a1/\0<=i/\i<=(a0.length:Int)/\(∀ r∈a0.take i.toNat,RS lim r)/\((Zu (a0.take i.toNat):Nat):Int)<=64*(a1-a0.length-u0+i)) ?_ ?_ ?_
  ·rintro⟨u0,i⟩ hI
   try simp only[] at hI⊢
   have:big=2^64:=rfl
   have:=ga0.1
   omega
  ·exact⟨by omega,by omega,by omega,by simp,by simp,by simp[Zu]⟩
  ·rintro⟨u0,i⟩ hI L hL
   try simp only[] at hI
   obtain⟨u0a,u0b,i0,i1,hr,hwt⟩:=hI
   simp only[YH.l0,atR,rdQ,Q.ask]
   refine Tm.ite (λh2=>?_) (λh2=>?_)
   ·try simp only[bz0,bz1,bz2,bz3,bz4,bz5,bz6,bz7,bz8,bz9,bza] at h2
    refine Tm.atRow (by first|assumption|omega) (by first|assumption|omega) (λx3 hx4 hm5=>?_)
    obtain⟨c6,rfl,g7,_⟩:=(ga0.2 x3 hm5).open
    refine Tm.uncons ?_
    refine Tm.dStr ?_
    refine Tm.atEnd ?_
    try rw[Z9 (x:=u0-(c6.size:Int)) (by omega) (by omega)]
    refine Tm.ite (λh8=>?_) (λh8=>?_)
    ·try simp only[bz0,bz1,bz2,bz3,bz4,bz5,bz6,bz7,bz8,bz9,bza] at h8
     exact Tm.ret (by first|(left;omega)|(rw[List.take_of_length_le (by omega)] at hwt;exact .inr ⟨by omega,by omega,⟨by simp only[lim];omega,all_rows (by omega) hr⟩,by omega,trivial⟩))
    ·try simp only[bz0,bz1,bz2,bz3,bz4,bz5,bz6,bz7,bz8,bz9,bza] at h8
     try rw[Z9 (x:=i+1) (by omega) (by omega)]
     have hwx:=wt_take i0 hx4
     simp only[ZbY,wtD] at hwx
     refine hL ((u0-(c6.size:Int)),(i+1)) ⟨by omega,by omega,by omega,by omega,take_rows i0 hx4 hr ⟨_,rfl,by first|assumption|omega,trivial⟩,by omega⟩ (by(try simp only[]);omega)
   ·try simp only[bz0,bz1,bz2,bz3,bz4,bz5,bz6,bz7,bz8,bz9,bza] at h2
    exact Tm.ret (by first|(left;omega)|(rw[List.take_of_length_le (by omega)] at hwt;exact .inr ⟨by omega,by omega,⟨by simp only[lim];omega,all_rows (by omega) hr⟩,by omega,trivial⟩))
theorem Yx.tm {ι α:Type} {ok:ι->Prop} {ψ:α->Prop} {p:ι->Nat} {B:Nat} (hp:∀ i,ok i->B<=p i) {a0 a1 φ} (h:Tm (λk=>B<=k) (λk=>Yx.t k a0 a1) φ) {G:ι->Int->Option α} (hG:∀ z0,φ z0->Tm ok (λi=>G i z0) ψ):Tm ok (λi=>Yx.f (p i) a0 a1 (G i)) ψ:=bd1_tm (t:=λk=>Yx.t k a0 a1) hp h hG
inductive Y0 (B:Nat):Nat->List D->Prop
 |mk {h:Nat} (c0:Int) (c1:BA) (c2:Int) (c3:LD) (c4:LD) (k0:(Lit.int .i64 c0).wf=true) (k1:c1.size<=B) (k2:(Lit.int .i64 c2).wf=true) (k3:ZB RS B c3) (k4:c4.length<=B) (m4:∀ r∈c4,Y0 B h r):Y0 B (h+1) [.int .i64 c0,.str c1,.int .i64 c2,.sl c3,.sl c4]
def Yo (B:Nat) (r:List D):Prop:=∃ h,(B<=1099511627776->h<=1099511627776)/\Y0 B h r
theorem Yo.open {B:Nat} {r:List D} (h:Yo B r):∃ (c0:Int) (c1:BA) (c2:Int) (c3:LD) (c4:LD),r=[.int .i64 c0,.str c1,.int .i64 c2,.sl c3,.sl c4]/\(Lit.int .i64 c0).wf=true/\c1.size<=B/\(Lit.int .i64 c2).wf=true/\ZB RS B c3/\ZB Yo B c4/\True:=by
 obtain⟨h,hh,h1⟩:=h
 cases h1 with
 |mk c0 c1 c2 c3 c4 k0 k1 k2 k3 k4 m4=>exact⟨c0,c1,c2,c3,c4,rfl,k0,k1,k2,k3,⟨k4,λr hr=>⟨_,λhb=>by have:=hh hb;omega,m4 r hr⟩⟩,trivial⟩
theorem Y0.up {B B':Nat} (hb:B<=B'):∀ {h:Nat} {r:List D},Y0 B h r->Y0 B' h r
 |_+1,_,.mk c0 c1 c2 c3 c4 k0 k1 k2 k3 k4 m4=>.mk c0 c1 c2 c3 c4 k0 (Nat.le_trans k1 hb) k2 ⟨Nat.le_trans k3.1 hb,λr hr=>(k3.2 r hr).mono hb⟩ (Nat.le_trans k4 hb) (λr hr=>Y0.up hb (m4 r hr))
theorem Yo.mono {B B':Nat} (hb:B<=B') {r:List D} (h:Yo B r):Yo B' r:=by
 obtain⟨h,hh,h1⟩:=h
 exact⟨h,λh2=>hh (Nat.le_trans hb h2),h1.up hb⟩
theorem Y0.mono {B:Nat}:∀ {h h':Nat} {r:List D},h<=h'->Y0 B h r->Y0 B h' r
 |_,0,_,hl,.mk ..=>by omega
 |_+1,_+1,_,hl,.mk c0 c1 c2 c3 c4 k0 k1 k2 k3 k4 m4=>.mk c0 c1 c2 c3 c4 k0 k1 k2 k3 k4 (λr hr=>Y0.mono (by omega) (m4 r hr))
theorem Yo.wide {xs:LD} (h:ZB Yo lim xs):ZB Yo 2097152 xs:=⟨Nat.le_trans h.1 (by decide),λr hr=>(h.2 r hr).mono (by decide)⟩
theorem Yo.len {B:Nat} {r:List D} (h:Yo B r):r.length=5:=by
 obtain⟨c0,c1,c2,c3,c4,rfl,_⟩:=h.open
 rfl
theorem Yo.gets {B:Nat} {xs:LD} (h:∀ r∈xs,Yo B r) {v:Int} (h0:0<=v) (h1:v<xs.length):gR xs v=[.int .i64 (gI xs v 0),.str (gS xs v 1),.int .i64 (gI xs v 2),.sl (gL xs v 3),.sl (gL xs v 4)]/\(Lit.int .i64 (gI xs v 0)).wf=true/\(gS xs v 1).size<=B/\(Lit.int .i64 (gI xs v 2)).wf=true/\ZB RS B (gL xs v 3)/\ZB Yo B (gL xs v 4)/\True:=by
 obtain⟨c0,c1,c2,c3,c4,e,k0,k1,k2,k3,k4,_⟩:=(h (gR xs v) (gR_mem h0 h1)).open
 unfold gI gL gS
 rw[e]
 exact⟨rfl,k0,k1,k2,k3,k4,trivial⟩
theorem Yo.rows {B:Nat} {xs:LD} (h:∀ r∈xs,Yo B r) {v:Int} (h0:0<=v) (h1:v<xs.length) {β:Type} (F:List D->Option β):atRow xs v F=F [.int .i64 (gI xs v 0),.str (gS xs v 1),.int .i64 (gI xs v 2),.sl (gL xs v 3),.sl (gL xs v 4)]:=by
 rw[<- (Yo.gets h h0 h1).1]
 exact Zck h0 h1 F
theorem Yo.get {B:Nat} {xs:LD} (h:ZB Yo B xs) {v:Int} (h0:0<=v) (h1:v<xs.length):gR xs v=[.int .i64 (gI xs v 0),.str (gS xs v 1),.int .i64 (gI xs v 2),.sl (gL xs v 3),.sl (gL xs v 4)]/\(Lit.int .i64 (gI xs v 0)).wf=true/\(gS xs v 1).size<=B/\(Lit.int .i64 (gI xs v 2)).wf=true/\ZB RS B (gL xs v 3)/\ZB Yo B (gL xs v 4)/\True:=Yo.gets h.2 h0 h1
theorem Yo.row {B:Nat} {xs:LD} (h:ZB Yo B xs) {v:Int} (h0:0<=v) (h1:v<xs.length) {β:Type} (F:List D->Option β):atRow xs v F=F [.int .i64 (gI xs v 0),.str (gS xs v 1),.int .i64 (gI xs v 2),.sl (gL xs v 3),.sl (gL xs v 4)]:=Yo.rows h.2 h0 h1 F
theorem YM.tm {ι α:Type} {ok:ι->Prop} {ψ:α->Prop} {p:ι->Nat} {B:Nat} (hp:∀ i,ok i->B<=p i) {aC aB aD aA aI a1 φ} (h:Tm (λk=>B<=k) (λk=>YM.t k aC aB aD aA aI a1) φ) {G:ι->Int->Option α} (hG:∀ z0,φ z0->Tm ok (λi=>G i z0) ψ):Tm ok (λi=>YM.f (p i) aC aB aD aA aI a1 (G i)) ψ:=bd1_tm (t:=λk=>YM.t k aC aB aD aA aI a1) hp h hG
set_option maxRecDepth 100000 in
theorem szVal (n:Nat):(∀ (left:Int) (a:LD),0<=left->left<=n->left<=1048576->ZB Yo maxLen a->Tm (λk=>big+2*n+1<=k) (λk=>Yx.t k a left) (λr=>r<0\/0<=r/\r<=left/\a.length<=lim/\(∀ x∈a,Y0 lim (left-r).toNat x)/\((Zu a:Nat):Int)<=64*(left-r)))/\
  (∀ (left c0:Int) (c1:BA) (c2:Int) (c3 c4:LD),0<=left->left<=n->left<=1048576->c1.size<=maxLen->ZB RS maxLen c3->ZB Yo maxLen c4->Tm (λk=>big+2*n+2<=k) (λk=>YM.t k c0 c1 c2 c3 c4 left) (λr=>r<0\/0<=r/\r<=left/\c1.size<=lim/\ZB RS lim c3/\c4.length<=lim/\(∀ x∈c4,Y0 lim (left-r).toNat x)/\((Zu c3+Zu c4:Nat):Int)<=64*(left-r))):=by
 have hm:=maxLen_eq
 have hlim:lim=1048576:=rfl
 have hb:big=2^64:=rfl
 induction n using Nat.strongRecOn with
 |ind n ih=>
 have S:∀ (left:Int) (a:LD),0<=left->left<=n->left<=1048576->ZB Yo maxLen a->Tm (λk=>big+2*n+1<=k) (λk=>Yx.t k a left) (λr=>r<0\/0<=r/\r<=left/\a.length<=lim/\(∀ x∈a,Y0 lim (left-r).toNat x)/\((Zu a:Nat):Int)<=64*(left-r)):=by
  intro left a h0 h1 h2 g
  have hlen:=g.1
  refine Tm.succ (g:=λk=>Yx.g k a left (λz0=>some z0)) (λk=>Yx.t_succ k a left) ?_
  unfold Yx.g Yx.body
  rw[Z9 (x:=left-a.length) (by omega) (by omega)]
  refine Tm.ite (λh3=>Tm.ret (.inl (by omega))) (λh3=>?_)
  simp only[decide_eq_false_iff_not,Int.not_lt] at h3
  refine Tm.loop (okk:=λk=>big+2*n<=k) (p:=λk=>k) (λi hi=>by omega) (b:=λk=>Yx.l0 k (Yx.f k) (YM.f k) a (λz0=>some z0)) (λv=>match v with|(u0,i)=>(((a.length:Int))-i).toNat) (λv=>match v with|(u0,i)=>0<=u0/\u0<=left-a.length/\0<=i/\i<=(a.length:Int)/\(∀ r∈a.take i.toNat,Y0 lim (left-u0).toNat r)/\((Zu (a.take i.toNat):Nat):Int)<=64*(left-a.length-u0+i)) ?_ ?_ ?_
  ·rintro⟨u0,i⟩ hI
   simp only[] at hI⊢
   omega
  ·exact⟨by omega,by omega,by omega,by omega,by simp,by simp[Zu]⟩
  ·rintro⟨u0,i⟩ hI L hL
   simp only[] at hI
   obtain⟨u0a,u0b,i0,i1,hr,hwt⟩:=hI
   simp only[Yx.l0,atR,rdQ,Q.ask]
   refine Tm.ite (λh4=>?_) (λh4=>?_)
   ·simp only[decide_eq_true_eq] at h4
    refine Tm.atRow (by omega) (by omega) (λx5 hx6 hm7=>?_)
    obtain⟨c0,c1,c2,c3,c4,rfl,w0,g1,w2,g3,g4,_⟩:=(g.2 x5 hm7).open
    refine Tm.uncons (Tm.dInt (Tm.uncons (Tm.dStr (Tm.uncons (Tm.dInt (Tm.uncons (Tm.dSl (Tm.uncons (Tm.dSl (Tm.atEnd ?_))))))))))
    refine YM.tm (B:=big+2*(n-1)+2) (λi hi=>by have:=hi.1;omega) ((ih (n-1) (by omega)).2 u0 c0 c1 c2 c3 c4 u0a (by omega) (by omega) g1 g3 g4) (λy hy=>?_)
    rcases hy with hy|⟨y0,y1,q1,q3,q4,q5,qw⟩
    ·exact Tm.ite (λ_=>Tm.ret (.inl (by omega))) (λh=>by simp at h;omega)
    refine Tm.ite (λh8=>by simp at h8;omega) (λh8=>?_)
    rw[Z9 (x:=i+1) (by omega) (by omega)]
    have hwx:=wt_take i0 hx6
    simp only[ZbY,wtD] at hwx
    refine hL (y,i+1) ⟨by omega,by omega,by omega,by omega,take_rows i0 hx6 (λr hr'=>(hr r hr').mono (by omega)) ?_,by omega⟩ (by simp only[];omega)
    exact Y0.mono (h:=(u0-y).toNat+1) (by omega) (.mk _ _ _ _ _ w0 q1 w2 q3 q4 q5)
   ·simp only[decide_eq_false_iff_not,Int.not_lt] at h4
    rw[List.take_of_length_le (by omega)] at hwt
    exact Tm.ret (.inr ⟨by omega,by omega,by omega,λx hx=>(all_rows (by omega) hr x hx).mono (by omega),by omega⟩)
 refine⟨S,?_⟩
 intro left c0 c1 c2 c3 c4 h0 h1 h2 g1 g3 g4
 refine Tm.succ (g:=λk=>YM.g k c0 c1 c2 c3 c4 left (λz0=>some z0)) (λk=>YM.t_succ k c0 c1 c2 c3 c4 left) ?_
 unfold YM.g YM.body
 rw[Z9 (x:=left-c1.size) (by omega) (by omega)]
 refine Tm.ite (λh3=>Tm.ret (.inl (by omega))) (λh3=>?_)
 simp only[decide_eq_false_iff_not,Int.not_lt] at h3
 refine YH.tm (B:=big) (λi hi=>by omega) (YH.T (by omega) (by omega) g3) (λy hy=>?_)
 rcases hy with hy|⟨y0,y1,q3,qw,_⟩
 ·exact Tm.ite (λ_=>Tm.ret (.inl (by omega))) (λh=>by simp at h;omega)
 refine Tm.ite (λh8=>by simp at h8;omega) (λh8=>?_)
 refine Yx.tm (B:=big+2*n+1) (λi hi=>hi) (S y c4 y0 (by omega) (by omega) g4) (λy' hy'=>?_)
 rcases hy' with hy'|⟨y0',y1',q4,q5,qw'⟩
 ·exact Tm.ite (λ_=>Tm.ret (.inl (by omega))) (λh=>by simp at h;omega)
 refine Tm.ite (λh8=>by simp at h8;omega) (λh8=>?_)
 exact Tm.ret (.inr ⟨by omega,by omega,by omega,q3,q4,λx hx=>(q5 x hx).mono (by omega),by omega⟩)
theorem YM.T {aC:Int} {aB:BA} {aD:Int} {aA aI:LD} {a1:Int} (h0:0<=a1) (h1:a1<=1048576) (g1:aB.size<=maxLen) (g3:ZB RS maxLen aA) (g4:ZB Yo maxLen aI):Tm (Zai 1) (λk=>YM.t k aC aB aD aA aI a1) (λr=>r<0\/0<=r/\r<=a1/\aB.size<=lim/\ZB RS lim aA/\ZB Yo lim aI/\((Zu aA+Zu aI:Nat):Int)<=64*(a1-r)/\True):=
 (((szVal a1.toNat).2 a1 aC aB aD aA aI h0 (by omega) h1 g1 g3 g4).up (big_lv1 (n:=2*a1.toNat+2) (by omega))).mono λr hr=>by
  rcases hr with hr|⟨r0,r1,r2,r3,r4,r5,r6⟩
  ·exact .inl hr
  ·exact .inr ⟨r0,r1,r2,r3,⟨r4,λx hx=>⟨_,λ_=>by omega,r5 x hx⟩⟩,r6,trivial⟩
theorem YaE.tm {ι α:Type} {ok:ι->Prop} {ψ:α->Prop} {p:ι->Nat} {B:Nat} (hp:∀ i,ok i->B<=p i) {aC aB aD aA aI bE aW bB aR bC aT aY bA aU bD aV aZ a1 φ} (h:Tm (λk=>B<=k) (λk=>YaE.t k aC aB aD aA aI bE aW bB aR bC aT aY bA aU bD aV aZ a1) φ) {G:ι->Int->Option α} (hG:∀ z0,φ z0->Tm ok (λi=>G i z0) ψ):Tm ok (λi=>YaE.f (p i) aC aB aD aA aI bE aW bB aR bC aT aY bA aU bD aV aZ a1 (G i)) ψ:=bd1_tm (t:=λk=>YaE.t k aC aB aD aA aI bE aW bB aR bC aT aY bA aU bD aV aZ a1) hp h hG
theorem YaE.T {aC:Int} {aB:BA} {aD aA aI:Int} {bE:Bool} {aW:LD} {bB:Int} {aR:BA} {bC:Int} {aT aY:LD} {bA:Int} {aU:BA} {bD:Int} {aV aZ:LD} {a1:Int} (h0:0<=a1) (h1:a1<=1048576) (ga0_1:aB.size<=maxLen) (ga0_6:ZB RS maxLen aW) (ga0_8:aR.size<=maxLen) (ga0_10:ZB RS maxLen aT) (ga0_11:ZB Yo maxLen aY) (ga0_13:aU.size<=maxLen) (ga0_15:ZB RS maxLen aV) (ga0_16:ZB Yo maxLen aZ):Tm (Zai 1) (λk=>YaE.t k aC aB aD aA aI bE aW bB aR bC aT aY bA aU bD aV aZ a1) (λr=>r<0\/0<=r/\r<=a1/\aB.size<=lim/\ZB RS lim aW/\aR.size<=lim/\ZB RS lim aT/\ZB Yo lim aY/\aU.size<=lim/\ZB RS lim aV/\ZB Yo lim aZ/\((Zu aW+Zu aT+Zu aY+Zu aV+Zu aZ:Nat):Int)<=64*(a1-r)/\True):=by
 unfold YaE.t YaE.g
 have hm:=maxLen_eq
 have hlim:lim=1048576:=rfl
 try rw[Z9 (x:=a1-(aB.size:Int)) (by omega) (by omega)]
 refine Tm.ite (λh1=>?_) (λh1=>?_)
 ·try simp only[bz0,bz1,bz2,bz3,bz4,bz5,bz6,bz7,bz8,bz9,bza] at h1
  exact Tm.ret (by first|(left;omega)|(right;refine⟨?_,?_,?_,?_,?_,?_,?_,?_,?_,?_,?_,trivial⟩<;>first|assumption|omega))
 ·try simp only[bz0,bz1,bz2,bz3,bz4,bz5,bz6,bz7,bz8,bz9,bza] at h1
  refine YH.tm (λi hi=>up0 hi) (YH.T (by first|assumption|omega) (by first|assumption|omega) (by first|assumption|omega)) (λy3 hy2=>?_)
  rcases hy2 with hy2|⟨p6,p7,q4,q5,_⟩
  ·exact Tm.ite (λ_=>Tm.ret (by left;omega)) (λh=>by simp at h;omega)
  refine Tm.ite (λh8=>?_) (λh8=>?_)
  ·try simp only[bz0,bz1,bz2,bz3,bz4,bz5,bz6,bz7,bz8,bz9,bza] at h8
   exact Tm.ret (by first|(left;omega)|(right;refine⟨?_,?_,?_,?_,?_,?_,?_,?_,?_,?_,?_,trivial⟩<;>first|assumption|omega))
  ·try simp only[bz0,bz1,bz2,bz3,bz4,bz5,bz6,bz7,bz8,bz9,bza] at h8
   refine YM.tm (λi hi=>hi) (YM.T (by first|assumption|omega) (by first|assumption|omega) (by first|assumption|omega) (by first|assumption|omega) (by first|assumption|omega)) (λy10 hy9=>?_)
   rcases hy9 with hy9|⟨p15,p16,q11,q12,q13,q14,_⟩
   ·exact Tm.ite (λ_=>Tm.ret (by left;omega)) (λh=>by simp at h;omega)
   refine Tm.ite (λh17=>?_) (λh17=>?_)
   ·try simp only[bz0,bz1,bz2,bz3,bz4,bz5,bz6,bz7,bz8,bz9,bza] at h17
    exact Tm.ret (by first|(left;omega)|(right;refine⟨?_,?_,?_,?_,?_,?_,?_,?_,?_,?_,?_,trivial⟩<;>first|assumption|omega))
   ·try simp only[bz0,bz1,bz2,bz3,bz4,bz5,bz6,bz7,bz8,bz9,bza] at h17
    refine YM.tm (λi hi=>hi) (YM.T (by first|assumption|omega) (by first|assumption|omega) (by first|assumption|omega) (by first|assumption|omega) (by first|assumption|omega)) (λy19 hy18=>?_)
    rcases hy18 with hy18|⟨p24,p25,q20,q21,q22,q23,_⟩
    ·exact Tm.ite (λ_=>Tm.ret (by left;omega)) (λh=>by simp at h;omega)
    refine Tm.ite (λh26=>?_) (λh26=>?_)
    ·try simp only[bz0,bz1,bz2,bz3,bz4,bz5,bz6,bz7,bz8,bz9,bza] at h26
     exact Tm.ret (by first|(left;omega)|(right;refine⟨?_,?_,?_,?_,?_,?_,?_,?_,?_,?_,?_,trivial⟩<;>first|assumption|omega))
    ·try simp only[bz0,bz1,bz2,bz3,bz4,bz5,bz6,bz7,bz8,bz9,bza] at h26
     exact Tm.ret (by first|(left;omega)|(right;refine⟨?_,?_,?_,?_,?_,?_,?_,?_,?_,?_,?_,trivial⟩<;>first|assumption|omega))
theorem Y6.tm {ι α:Type} {ok:ι->Prop} {ψ:α->Prop} {p:ι->Nat} {B:Nat} (hp:∀ i,ok i->B<=p i) {a0 a1 φ} (h:Tm (λk=>B<=k) (λk=>Y6.t k a0 a1) φ) {G:ι->Int->Option α} (hG:∀ z0,φ z0->Tm ok (λi=>G i z0) ψ):Tm ok (λi=>Y6.f (p i) a0 a1 (G i)) ψ:=bd1_tm (t:=λk=>Y6.t k a0 a1) hp h hG
def Ya (B:Nat) (r:List D):Prop:=∃ (c0:Int) (c1:BA) (c2:Int) (c3:Int) (c4:Int) (c5:Bool) (c6:LD) (c7:Int) (c8:BA) (c9:Int) (c10:LD) (c11:LD) (c12:Int) (c13:BA) (c14:Int) (c15:LD) (c16:LD),r=[.int .i64 c0,.str c1,.int .i64 c2,.int .i64 c3,.int .i64 c4,.bool c5,.sl c6,.int .i64 c7,.str c8,.int .i64 c9,.sl c10,.sl c11,.int .i64 c12,.str c13,.int .i64 c14,.sl c15,.sl c16]/\(Lit.int .i64 c0).wf=true/\c1.size<=B/\(Lit.int .i64 c2).wf=true/\(Lit.int .i64 c3).wf=true/\(Lit.int .i64 c4).wf=true/\ZB RS B c6/\(Lit.int .i64 c7).wf=true/\c8.size<=B/\(Lit.int .i64 c9).wf=true/\ZB RS B c10/\ZB Yo B c11/\(Lit.int .i64 c12).wf=true/\c13.size<=B/\(Lit.int .i64 c14).wf=true/\ZB RS B c15/\ZB Yo B c16/\True
theorem Ya.open {B:Nat} {r:List D} (h:Ya B r):∃ (c0:Int) (c1:BA) (c2:Int) (c3:Int) (c4:Int) (c5:Bool) (c6:LD) (c7:Int) (c8:BA) (c9:Int) (c10:LD) (c11:LD) (c12:Int) (c13:BA) (c14:Int) (c15:LD) (c16:LD),r=[.int .i64 c0,.str c1,.int .i64 c2,.int .i64 c3,.int .i64 c4,.bool c5,.sl c6,.int .i64 c7,.str c8,.int .i64 c9,.sl c10,.sl c11,.int .i64 c12,.str c13,.int .i64 c14,.sl c15,.sl c16]/\(Lit.int .i64 c0).wf=true/\c1.size<=B/\(Lit.int .i64 c2).wf=true/\(Lit.int .i64 c3).wf=true/\(Lit.int .i64 c4).wf=true/\ZB RS B c6/\(Lit.int .i64 c7).wf=true/\c8.size<=B/\(Lit.int .i64 c9).wf=true/\ZB RS B c10/\ZB Yo B c11/\(Lit.int .i64 c12).wf=true/\c13.size<=B/\(Lit.int .i64 c14).wf=true/\ZB RS B c15/\ZB Yo B c16/\True:=h
theorem Ya.mono {B B':Nat} (hb:B<=B') {r:List D} (h:Ya B r):Ya B' r:=by
 obtain⟨c0,c1,c2,c3,c4,c5,c6,c7,c8,c9,c10,c11,c12,c13,c14,c15,c16,rfl,k0,k1,k2,k3,k4,k6,k7,k8,k9,k10,k11,k12,k13,k14,k15,k16,_⟩:=h
 exact⟨_,_,_,_,_,_,_,_,_,_,_,_,_,_,_,_,_,rfl,k0,(Nat.le_trans k1 hb),k2,k3,k4,⟨Nat.le_trans k6.1 hb,λr hr=>(k6.2 r hr).mono hb⟩,k7,(Nat.le_trans k8 hb),k9,⟨Nat.le_trans k10.1 hb,λr hr=>(k10.2 r hr).mono hb⟩,⟨Nat.le_trans k11.1 hb,λr hr=>(k11.2 r hr).mono hb⟩,k12,(Nat.le_trans k13 hb),k14,⟨Nat.le_trans k15.1 hb,λr hr=>(k15.2 r hr).mono hb⟩,⟨Nat.le_trans k16.1 hb,λr hr=>(k16.2 r hr).mono hb⟩,trivial⟩
theorem Ya.wide {xs:LD} (h:ZB Ya lim xs):ZB Ya 2097152 xs:=⟨Nat.le_trans h.1 (by decide),λr hr=>(h.2 r hr).mono (by decide)⟩
theorem Ya.len {B:Nat} {r:List D} (h:Ya B r):r.length=17:=by
 obtain⟨c0,c1,c2,c3,c4,c5,c6,c7,c8,c9,c10,c11,c12,c13,c14,c15,c16,rfl,_⟩:=h.open
 rfl
theorem Ya.gets {B:Nat} {xs:LD} (h:∀ r∈xs,Ya B r) {v:Int} (h0:0<=v) (h1:v<xs.length):gR xs v=[.int .i64 (gI xs v 0),.str (gS xs v 1),.int .i64 (gI xs v 2),.int .i64 (gI xs v 3),.int .i64 (gI xs v 4),.bool (gB xs v 5),.sl (gL xs v 6),.int .i64 (gI xs v 7),.str (gS xs v 8),.int .i64 (gI xs v 9),.sl (gL xs v 10),.sl (gL xs v 11),.int .i64 (gI xs v 12),.str (gS xs v 13),.int .i64 (gI xs v 14),.sl (gL xs v 15),.sl (gL xs v 16)]/\(Lit.int .i64 (gI xs v 0)).wf=true/\(gS xs v 1).size<=B/\(Lit.int .i64 (gI xs v 2)).wf=true/\(Lit.int .i64 (gI xs v 3)).wf=true/\(Lit.int .i64 (gI xs v 4)).wf=true/\ZB RS B (gL xs v 6)/\(Lit.int .i64 (gI xs v 7)).wf=true/\(gS xs v 8).size<=B/\(Lit.int .i64 (gI xs v 9)).wf=true/\ZB RS B (gL xs v 10)/\ZB Yo B (gL xs v 11)/\(Lit.int .i64 (gI xs v 12)).wf=true/\(gS xs v 13).size<=B/\(Lit.int .i64 (gI xs v 14)).wf=true/\ZB RS B (gL xs v 15)/\ZB Yo B (gL xs v 16)/\True:=by
 obtain⟨c0,c1,c2,c3,c4,c5,c6,c7,c8,c9,c10,c11,c12,c13,c14,c15,c16,e,k0,k1,k2,k3,k4,k6,k7,k8,k9,k10,k11,k12,k13,k14,k15,k16,_⟩:=(h (gR xs v) (gR_mem h0 h1)).open
 unfold gB gI gL gS
 rw[e]
 exact⟨rfl,k0,k1,k2,k3,k4,k6,k7,k8,k9,k10,k11,k12,k13,k14,k15,k16,trivial⟩
theorem Ya.rows {B:Nat} {xs:LD} (h:∀ r∈xs,Ya B r) {v:Int} (h0:0<=v) (h1:v<xs.length) {β:Type} (F:List D->Option β):atRow xs v F=F [.int .i64 (gI xs v 0),.str (gS xs v 1),.int .i64 (gI xs v 2),.int .i64 (gI xs v 3),.int .i64 (gI xs v 4),.bool (gB xs v 5),.sl (gL xs v 6),.int .i64 (gI xs v 7),.str (gS xs v 8),.int .i64 (gI xs v 9),.sl (gL xs v 10),.sl (gL xs v 11),.int .i64 (gI xs v 12),.str (gS xs v 13),.int .i64 (gI xs v 14),.sl (gL xs v 15),.sl (gL xs v 16)]:=by
 rw[<- (Ya.gets h h0 h1).1]
 exact Zck h0 h1 F
theorem Ya.get {B:Nat} {xs:LD} (h:ZB Ya B xs) {v:Int} (h0:0<=v) (h1:v<xs.length):gR xs v=[.int .i64 (gI xs v 0),.str (gS xs v 1),.int .i64 (gI xs v 2),.int .i64 (gI xs v 3),.int .i64 (gI xs v 4),.bool (gB xs v 5),.sl (gL xs v 6),.int .i64 (gI xs v 7),.str (gS xs v 8),.int .i64 (gI xs v 9),.sl (gL xs v 10),.sl (gL xs v 11),.int .i64 (gI xs v 12),.str (gS xs v 13),.int .i64 (gI xs v 14),.sl (gL xs v 15),.sl (gL xs v 16)]/\(Lit.int .i64 (gI xs v 0)).wf=true/\(gS xs v 1).size<=B/\(Lit.int .i64 (gI xs v 2)).wf=true/\(Lit.int .i64 (gI xs v 3)).wf=true/\(Lit.int .i64 (gI xs v 4)).wf=true/\ZB RS B (gL xs v 6)/\(Lit.int .i64 (gI xs v 7)).wf=true/\(gS xs v 8).size<=B/\(Lit.int .i64 (gI xs v 9)).wf=true/\ZB RS B (gL xs v 10)/\ZB Yo B (gL xs v 11)/\(Lit.int .i64 (gI xs v 12)).wf=true/\(gS xs v 13).size<=B/\(Lit.int .i64 (gI xs v 14)).wf=true/\ZB RS B (gL xs v 15)/\ZB Yo B (gL xs v 16)/\True:=Ya.gets h.2 h0 h1
theorem Ya.row {B:Nat} {xs:LD} (h:ZB Ya B xs) {v:Int} (h0:0<=v) (h1:v<xs.length) {β:Type} (F:List D->Option β):atRow xs v F=F [.int .i64 (gI xs v 0),.str (gS xs v 1),.int .i64 (gI xs v 2),.int .i64 (gI xs v 3),.int .i64 (gI xs v 4),.bool (gB xs v 5),.sl (gL xs v 6),.int .i64 (gI xs v 7),.str (gS xs v 8),.int .i64 (gI xs v 9),.sl (gL xs v 10),.sl (gL xs v 11),.int .i64 (gI xs v 12),.str (gS xs v 13),.int .i64 (gI xs v 14),.sl (gL xs v 15),.sl (gL xs v 16)]:=Ya.rows h.2 h0 h1 F
set_option maxRecDepth 100000 in
theorem Y6.T {a0:LD} {a1:Int} (h0:0<=a1) (h1:a1<=1048576) (ga0:ZB Ya maxLen a0):Tm (Zai 1) (λk=>Y6.t k a0 a1) (λr=>r<0\/0<=r/\r<=a1/\ZB Ya lim a0/\((Zu a0:Nat):Int)<=64*(a1-r)/\True):=by
 unfold Y6.t Y6.g
 have hm:=maxLen_eq
 have hlim:lim=1048576:=rfl
 have hlen:=ga0.1
 try rw[Z9 (x:=a1-(a0.length:Int)) (by omega) (by omega)]
 refine Tm.ite (λh1=>?_) (λh1=>?_)
 ·try simp only[bz0,bz1,bz2,bz3,bz4,bz5,bz6,bz7,bz8,bz9,bza] at h1
  exact Tm.ret (by first|(left;omega)|(right;refine⟨?_,?_,?_,?_,trivial⟩<;>first|assumption|omega))
 ·try simp only[bz0,bz1,bz2,bz3,bz4,bz5,bz6,bz7,bz8,bz9,bza] at h1
  refine Tm.loop (okk:=(Zai 1)) (p:=λk=>k) (λi hi=>up0 hi) (b:=λk=>Y6.l0 k a0 (λz0=>some z0)) (λv=>match v with|(u0,i)=>(((a0.length:Int))-i).toNat) (λv=>match v with|(u0,i)=>0<=u0/\u0<=a1/\0<=i/\i<=(a0.length:Int)/\(∀ r∈a0.take i.toNat,Ya lim r)/\((Zu (a0.take i.toNat):Nat):Int)<=64*(a1-a0.length-u0+i)) ?_ ?_ ?_
  ·rintro⟨u0,i⟩ hI
   try simp only[] at hI⊢
   have:big=2^64:=rfl
   have:=ga0.1
   omega
  ·exact⟨by omega,by omega,by omega,by simp,by simp,by simp[Zu]⟩
  ·rintro⟨u0,i⟩ hI L hL
   try simp only[] at hI
   obtain⟨u0a,u0b,i0,i1,hr,hwt⟩:=hI
   simp only[Y6.l0,atR,rdQ,Q.ask]
   refine Tm.ite (λh2=>?_) (λh2=>?_)
   ·try simp only[bz0,bz1,bz2,bz3,bz4,bz5,bz6,bz7,bz8,bz9,bza] at h2
    refine Tm.atRow (by first|assumption|omega) (by first|assumption|omega) (λx3 hx4 hm5=>?_)
    obtain⟨c6,c7,c8,c9,c10,c11,c12,c13,c14,c15,c16,c17,c18,c19,c20,c21,c22,rfl,g23,g24,g25,g26,g27,g28,g29,g30,g31,g32,g33,g34,g35,g36,g37,g38,_⟩:=(ga0.2 x3 hm5).open
    refine Tm.uncons ?_
    refine Tm.dInt ?_
    refine Tm.uncons ?_
    refine Tm.dStr ?_
    refine Tm.uncons ?_
    refine Tm.dInt ?_
    refine Tm.uncons ?_
    refine Tm.dInt ?_
    refine Tm.uncons ?_
    refine Tm.dInt ?_
    refine Tm.uncons ?_
    refine Tm.dBool ?_
    refine Tm.uncons ?_
    refine Tm.dSl ?_
    refine Tm.uncons ?_
    refine Tm.dInt ?_
    refine Tm.uncons ?_
    refine Tm.dStr ?_
    refine Tm.uncons ?_
    refine Tm.dInt ?_
    refine Tm.uncons ?_
    refine Tm.dSl ?_
    refine Tm.uncons ?_
    refine Tm.dSl ?_
    refine Tm.uncons ?_
    refine Tm.dInt ?_
    refine Tm.uncons ?_
    refine Tm.dStr ?_
    refine Tm.uncons ?_
    refine Tm.dInt ?_
    refine Tm.uncons ?_
    refine Tm.dSl ?_
    refine Tm.uncons ?_
    refine Tm.dSl ?_
    refine Tm.atEnd ?_
    refine YaE.tm (λi hi=>hi.1) (YaE.T (by first|assumption|omega) (by first|assumption|omega) (by first|assumption|omega) (by first|assumption|omega) (by first|assumption|omega) (by first|assumption|omega) (by first|assumption|omega) (by first|assumption|omega) (by first|assumption|omega) (by first|assumption|omega)) (λy40 hy39=>?_)
    rcases hy39 with hy39|⟨p50,p51,q41,q42,q43,q44,q45,q46,q47,q48,q49,_⟩
    ·exact Tm.ite (λ_=>Tm.ret (by left;omega)) (λh=>by simp at h;omega)
    refine Tm.ite (λh52=>?_) (λh52=>?_)
    ·try simp only[bz0,bz1,bz2,bz3,bz4,bz5,bz6,bz7,bz8,bz9,bza] at h52
     exact Tm.ret (by first|(left;omega)|(rw[List.take_of_length_le (by omega)] at hwt;exact .inr ⟨by omega,by omega,⟨by simp only[lim];omega,all_rows (by omega) hr⟩,by omega,trivial⟩))
    ·try simp only[bz0,bz1,bz2,bz3,bz4,bz5,bz6,bz7,bz8,bz9,bza] at h52
     try rw[Z9 (x:=i+1) (by omega) (by omega)]
     have hwx:=wt_take i0 hx4
     simp only[ZbY,wtD] at hwx
     refine hL (y40,(i+1)) ⟨by omega,by omega,by omega,by omega,take_rows i0 hx4 hr ⟨_,_,_,_,_,_,_,_,_,_,_,_,_,_,_,_,_,rfl,by first|assumption|omega,by first|assumption|omega,by first|assumption|omega,by first|assumption|omega,by first|assumption|omega,by first|assumption|omega,by first|assumption|omega,by first|assumption|omega,by first|assumption|omega,by first|assumption|omega,by first|assumption|omega,by first|assumption|omega,by first|assumption|omega,by first|assumption|omega,by first|assumption|omega,by first|assumption|omega,trivial⟩,by omega⟩ (by(try simp only[]);omega)
   ·try simp only[bz0,bz1,bz2,bz3,bz4,bz5,bz6,bz7,bz8,bz9,bza] at h2
    exact Tm.ret (by first|(left;omega)|(rw[List.take_of_length_le (by omega)] at hwt;exact .inr ⟨by omega,by omega,⟨by simp only[lim];omega,all_rows (by omega) hr⟩,by omega,trivial⟩))
theorem Yaw.tm {ι α:Type} {ok:ι->Prop} {ψ:α->Prop} {p:ι->Nat} {B:Nat} (hp:∀ i,ok i->B<=p i) {aC aB aD aA aI bE aW bB aR bC aT aY bA aU bD aV aZ cN cO a1 φ} (h:Tm (λk=>B<=k) (λk=>Yaw.t k aC aB aD aA aI bE aW bB aR bC aT aY bA aU bD aV aZ cN cO a1) φ) {G:ι->Int->Option α} (hG:∀ z0,φ z0->Tm ok (λi=>G i z0) ψ):Tm ok (λi=>Yaw.f (p i) aC aB aD aA aI bE aW bB aR bC aT aY bA aU bD aV aZ cN cO a1 (G i)) ψ:=bd1_tm (t:=λk=>Yaw.t k aC aB aD aA aI bE aW bB aR bC aT aY bA aU bD aV aZ cN cO a1) hp h hG
theorem Yaw.T {aC:Int} {aB:Bool} {aD:Int} {aA:BA} {aI bE aW:Int} {bB:Bool} {aR:LD} {bC:Int} {aT:BA} {aY:Int} {bA aU:LD} {bD:Int} {aV:BA} {aZ:Int} {cN cO:LD} {a1:Int} (h0:0<=a1) (h1:a1<=1048576) (ga0_3:aA.size<=maxLen) (ga0_8:ZB RS maxLen aR) (ga0_10:aT.size<=maxLen) (ga0_12:ZB RS maxLen bA) (ga0_13:ZB Yo maxLen aU) (ga0_15:aV.size<=maxLen) (ga0_17:ZB RS maxLen cN) (ga0_18:ZB Yo maxLen cO):Tm (Zai 1) (λk=>Yaw.t k aC aB aD aA aI bE aW bB aR bC aT aY bA aU bD aV aZ cN cO a1) (λr=>r<0\/0<=r/\r<=a1/\aA.size<=lim/\ZB RS lim aR/\aT.size<=lim/\ZB RS lim bA/\ZB Yo lim aU/\aV.size<=lim/\ZB RS lim cN/\ZB Yo lim cO/\((Zu aR+Zu bA+Zu aU+Zu cN+Zu cO:Nat):Int)<=64*(a1-r)/\True):=by
 unfold Yaw.t Yaw.g
 have hm:=maxLen_eq
 have hlim:lim=1048576:=rfl
 refine YaE.tm (λi hi=>hi) (YaE.T (by first|assumption|omega) (by first|assumption|omega) (by first|assumption|omega) (by first|assumption|omega) (by first|assumption|omega) (by first|assumption|omega) (by first|assumption|omega) (by first|assumption|omega) (by first|assumption|omega) (by first|assumption|omega)) (λy2 hy1=>?_)
 rcases hy1 with hy1|⟨p12,p13,q3,q4,q5,q6,q7,q8,q9,q10,q11,_⟩
 ·exact Tm.ite (λ_=>Tm.ret (by left;omega)) (λh=>by simp at h;omega)
 refine Tm.ite (λh14=>?_) (λh14=>?_)
 ·try simp only[bz0,bz1,bz2,bz3,bz4,bz5,bz6,bz7,bz8,bz9,bza] at h14
  exact Tm.ret (by first|(left;omega)|(right;refine⟨?_,?_,?_,?_,?_,?_,?_,?_,?_,?_,?_,trivial⟩<;>first|assumption|omega))
 ·try simp only[bz0,bz1,bz2,bz3,bz4,bz5,bz6,bz7,bz8,bz9,bza] at h14
  exact Tm.ret (by first|(left;omega)|(right;refine⟨?_,?_,?_,?_,?_,?_,?_,?_,?_,?_,?_,trivial⟩<;>first|assumption|omega))
theorem YO.tm {ι α:Type} {ok:ι->Prop} {ψ:α->Prop} {p:ι->Nat} {B:Nat} (hp:∀ i,ok i->B<=p i) {a0 a1 φ} (h:Tm (λk=>B<=k) (λk=>YO.t k a0 a1) φ) {G:ι->Int->Option α} (hG:∀ z0,φ z0->Tm ok (λi=>G i z0) ψ):Tm ok (λi=>YO.f (p i) a0 a1 (G i)) ψ:=bd1_tm (t:=λk=>YO.t k a0 a1) hp h hG
def Yb (B:Nat) (r:List D):Prop:=∃ (c0:Int) (c1:Bool) (c2:Int) (c3:BA) (c4:Int) (c5:Int) (c6:Int) (c7:Bool) (c8:LD) (c9:Int) (c10:BA) (c11:Int) (c12:LD) (c13:LD) (c14:Int) (c15:BA) (c16:Int) (c17:LD) (c18:LD),r=[.int .i64 c0,.bool c1,.int .i64 c2,.str c3,.int .i64 c4,.int .i64 c5,.int .i64 c6,.bool c7,.sl c8,.int .i64 c9,.str c10,.int .i64 c11,.sl c12,.sl c13,.int .i64 c14,.str c15,.int .i64 c16,.sl c17,.sl c18]/\(Lit.int .i64 c0).wf=true/\(Lit.int .i64 c2).wf=true/\c3.size<=B/\(Lit.int .i64 c4).wf=true/\(Lit.int .i64 c5).wf=true/\(Lit.int .i64 c6).wf=true/\ZB RS B c8/\(Lit.int .i64 c9).wf=true/\c10.size<=B/\(Lit.int .i64 c11).wf=true/\ZB RS B c12/\ZB Yo B c13/\(Lit.int .i64 c14).wf=true/\c15.size<=B/\(Lit.int .i64 c16).wf=true/\ZB RS B c17/\ZB Yo B c18/\True
theorem Yb.open {B:Nat} {r:List D} (h:Yb B r):∃ (c0:Int) (c1:Bool) (c2:Int) (c3:BA) (c4:Int) (c5:Int) (c6:Int) (c7:Bool) (c8:LD) (c9:Int) (c10:BA) (c11:Int) (c12:LD) (c13:LD) (c14:Int) (c15:BA) (c16:Int) (c17:LD) (c18:LD),r=[.int .i64 c0,.bool c1,.int .i64 c2,.str c3,.int .i64 c4,.int .i64 c5,.int .i64 c6,.bool c7,.sl c8,.int .i64 c9,.str c10,.int .i64 c11,.sl c12,.sl c13,.int .i64 c14,.str c15,.int .i64 c16,.sl c17,.sl c18]/\(Lit.int .i64 c0).wf=true/\(Lit.int .i64 c2).wf=true/\c3.size<=B/\(Lit.int .i64 c4).wf=true/\(Lit.int .i64 c5).wf=true/\(Lit.int .i64 c6).wf=true/\ZB RS B c8/\(Lit.int .i64 c9).wf=true/\c10.size<=B/\(Lit.int .i64 c11).wf=true/\ZB RS B c12/\ZB Yo B c13/\(Lit.int .i64 c14).wf=true/\c15.size<=B/\(Lit.int .i64 c16).wf=true/\ZB RS B c17/\ZB Yo B c18/\True:=h
theorem Yb.mono {B B':Nat} (hb:B<=B') {r:List D} (h:Yb B r):Yb B' r:=by
 obtain⟨c0,c1,c2,c3,c4,c5,c6,c7,c8,c9,c10,c11,c12,c13,c14,c15,c16,c17,c18,rfl,k0,k2,k3,k4,k5,k6,k8,k9,k10,k11,k12,k13,k14,k15,k16,k17,k18,_⟩:=h
 exact⟨_,_,_,_,_,_,_,_,_,_,_,_,_,_,_,_,_,_,_,rfl,k0,k2,(Nat.le_trans k3 hb),k4,k5,k6,⟨Nat.le_trans k8.1 hb,λr hr=>(k8.2 r hr).mono hb⟩,k9,(Nat.le_trans k10 hb),k11,⟨Nat.le_trans k12.1 hb,λr hr=>(k12.2 r hr).mono hb⟩,⟨Nat.le_trans k13.1 hb,λr hr=>(k13.2 r hr).mono hb⟩,k14,(Nat.le_trans k15 hb),k16,⟨Nat.le_trans k17.1 hb,λr hr=>(k17.2 r hr).mono hb⟩,⟨Nat.le_trans k18.1 hb,λr hr=>(k18.2 r hr).mono hb⟩,trivial⟩
theorem Yb.wide {xs:LD} (h:ZB Yb lim xs):ZB Yb 2097152 xs:=⟨Nat.le_trans h.1 (by decide),λr hr=>(h.2 r hr).mono (by decide)⟩
theorem Yb.len {B:Nat} {r:List D} (h:Yb B r):r.length=19:=by
 obtain⟨c0,c1,c2,c3,c4,c5,c6,c7,c8,c9,c10,c11,c12,c13,c14,c15,c16,c17,c18,rfl,_⟩:=h.open
 rfl
theorem Yb.gets {B:Nat} {xs:LD} (h:∀ r∈xs,Yb B r) {v:Int} (h0:0<=v) (h1:v<xs.length):gR xs v=[.int .i64 (gI xs v 0),.bool (gB xs v 1),.int .i64 (gI xs v 2),.str (gS xs v 3),.int .i64 (gI xs v 4),.int .i64 (gI xs v 5),.int .i64 (gI xs v 6),.bool (gB xs v 7),.sl (gL xs v 8),.int .i64 (gI xs v 9),.str (gS xs v 10),.int .i64 (gI xs v 11),.sl (gL xs v 12),.sl (gL xs v 13),.int .i64 (gI xs v 14),.str (gS xs v 15),.int .i64 (gI xs v 16),.sl (gL xs v 17),.sl (gL xs v 18)]/\(Lit.int .i64 (gI xs v 0)).wf=true/\(Lit.int .i64 (gI xs v 2)).wf=true/\(gS xs v 3).size<=B/\(Lit.int .i64 (gI xs v 4)).wf=true/\(Lit.int .i64 (gI xs v 5)).wf=true/\(Lit.int .i64 (gI xs v 6)).wf=true/\ZB RS B (gL xs v 8)/\(Lit.int .i64 (gI xs v 9)).wf=true/\(gS xs v 10).size<=B/\(Lit.int .i64 (gI xs v 11)).wf=true/\ZB RS B (gL xs v 12)/\ZB Yo B (gL xs v 13)/\(Lit.int .i64 (gI xs v 14)).wf=true/\(gS xs v 15).size<=B/\(Lit.int .i64 (gI xs v 16)).wf=true/\ZB RS B (gL xs v 17)/\ZB Yo B (gL xs v 18)/\True:=by
 obtain⟨c0,c1,c2,c3,c4,c5,c6,c7,c8,c9,c10,c11,c12,c13,c14,c15,c16,c17,c18,e,k0,k2,k3,k4,k5,k6,k8,k9,k10,k11,k12,k13,k14,k15,k16,k17,k18,_⟩:=(h (gR xs v) (gR_mem h0 h1)).open
 unfold gB gI gL gS
 rw[e]
 exact⟨rfl,k0,k2,k3,k4,k5,k6,k8,k9,k10,k11,k12,k13,k14,k15,k16,k17,k18,trivial⟩
theorem Yb.rows {B:Nat} {xs:LD} (h:∀ r∈xs,Yb B r) {v:Int} (h0:0<=v) (h1:v<xs.length) {β:Type} (F:List D->Option β):atRow xs v F=F [.int .i64 (gI xs v 0),.bool (gB xs v 1),.int .i64 (gI xs v 2),.str (gS xs v 3),.int .i64 (gI xs v 4),.int .i64 (gI xs v 5),.int .i64 (gI xs v 6),.bool (gB xs v 7),.sl (gL xs v 8),.int .i64 (gI xs v 9),.str (gS xs v 10),.int .i64 (gI xs v 11),.sl (gL xs v 12),.sl (gL xs v 13),.int .i64 (gI xs v 14),.str (gS xs v 15),.int .i64 (gI xs v 16),.sl (gL xs v 17),.sl (gL xs v 18)]:=by
 rw[<- (Yb.gets h h0 h1).1]
 exact Zck h0 h1 F
theorem Yb.get {B:Nat} {xs:LD} (h:ZB Yb B xs) {v:Int} (h0:0<=v) (h1:v<xs.length):gR xs v=[.int .i64 (gI xs v 0),.bool (gB xs v 1),.int .i64 (gI xs v 2),.str (gS xs v 3),.int .i64 (gI xs v 4),.int .i64 (gI xs v 5),.int .i64 (gI xs v 6),.bool (gB xs v 7),.sl (gL xs v 8),.int .i64 (gI xs v 9),.str (gS xs v 10),.int .i64 (gI xs v 11),.sl (gL xs v 12),.sl (gL xs v 13),.int .i64 (gI xs v 14),.str (gS xs v 15),.int .i64 (gI xs v 16),.sl (gL xs v 17),.sl (gL xs v 18)]/\(Lit.int .i64 (gI xs v 0)).wf=true/\(Lit.int .i64 (gI xs v 2)).wf=true/\(gS xs v 3).size<=B/\(Lit.int .i64 (gI xs v 4)).wf=true/\(Lit.int .i64 (gI xs v 5)).wf=true/\(Lit.int .i64 (gI xs v 6)).wf=true/\ZB RS B (gL xs v 8)/\(Lit.int .i64 (gI xs v 9)).wf=true/\(gS xs v 10).size<=B/\(Lit.int .i64 (gI xs v 11)).wf=true/\ZB RS B (gL xs v 12)/\ZB Yo B (gL xs v 13)/\(Lit.int .i64 (gI xs v 14)).wf=true/\(gS xs v 15).size<=B/\(Lit.int .i64 (gI xs v 16)).wf=true/\ZB RS B (gL xs v 17)/\ZB Yo B (gL xs v 18)/\True:=Yb.gets h.2 h0 h1
theorem Yb.row {B:Nat} {xs:LD} (h:ZB Yb B xs) {v:Int} (h0:0<=v) (h1:v<xs.length) {β:Type} (F:List D->Option β):atRow xs v F=F [.int .i64 (gI xs v 0),.bool (gB xs v 1),.int .i64 (gI xs v 2),.str (gS xs v 3),.int .i64 (gI xs v 4),.int .i64 (gI xs v 5),.int .i64 (gI xs v 6),.bool (gB xs v 7),.sl (gL xs v 8),.int .i64 (gI xs v 9),.str (gS xs v 10),.int .i64 (gI xs v 11),.sl (gL xs v 12),.sl (gL xs v 13),.int .i64 (gI xs v 14),.str (gS xs v 15),.int .i64 (gI xs v 16),.sl (gL xs v 17),.sl (gL xs v 18)]:=Yb.rows h.2 h0 h1 F
set_option maxRecDepth 100000 in
theorem YO.T {a0:LD} {a1:Int} (h0:0<=a1) (h1:a1<=1048576) (ga0:ZB Yb maxLen a0):Tm (Zai 1) (λk=>YO.t k a0 a1) (λr=>r<0\/0<=r/\r<=a1/\ZB Yb lim a0/\((Zu a0:Nat):Int)<=64*(a1-r)/\True):=by
 unfold YO.t YO.g
 have hm:=maxLen_eq
 have hlim:lim=1048576:=rfl
 have hlen:=ga0.1
 try rw[Z9 (x:=a1-(a0.length:Int)) (by omega) (by omega)]
 refine Tm.ite (λh1=>?_) (λh1=>?_)
 ·try simp only[bz0,bz1,bz2,bz3,bz4,bz5,bz6,bz7,bz8,bz9,bza] at h1
  exact Tm.ret (by first|(left;omega)|(right;refine⟨?_,?_,?_,?_,trivial⟩<;>first|assumption|omega))
 ·try simp only[bz0,bz1,bz2,bz3,bz4,bz5,bz6,bz7,bz8,bz9,bza] at h1
  refine Tm.loop (okk:=(Zai 1)) (p:=λk=>k) (λi hi=>up0 hi) (b:=λk=>YO.l0 k a0 (λz0=>some z0)) (λv=>match v with|(u0,i)=>(((a0.length:Int))-i).toNat) (λv=>match v with|(u0,i)=>0<=u0/\u0<=a1/\0<=i/\i<=(a0.length:Int)/\(∀ r∈a0.take i.toNat,Yb lim r)/\((Zu (a0.take i.toNat):Nat):Int)<=64*(a1-a0.length-u0+i)) ?_ ?_ ?_
  ·rintro⟨u0,i⟩ hI
   try simp only[] at hI⊢
   have:big=2^64:=rfl
   have:=ga0.1
   omega
  ·exact⟨by omega,by omega,by omega,by simp,by simp,by simp[Zu]⟩
  ·rintro⟨u0,i⟩ hI L hL
   try simp only[] at hI
   obtain⟨u0a,u0b,i0,i1,hr,hwt⟩:=hI
   simp only[YO.l0,atR,rdQ,Q.ask]
   refine Tm.ite (λh2=>?_) (λh2=>?_)
   ·try simp only[bz0,bz1,bz2,bz3,bz4,bz5,bz6,bz7,bz8,bz9,bza] at h2
    refine Tm.atRow (by first|assumption|omega) (by first|assumption|omega) (λx3 hx4 hm5=>?_)
    obtain⟨c6,c7,c8,c9,c10,c11,c12,c13,c14,c15,c16,c17,c18,c19,c20,c21,c22,c23,c24,rfl,g25,g26,g27,g28,g29,g30,g31,g32,g33,g34,g35,g36,g37,g38,g39,g40,g41,_⟩:=(ga0.2 x3 hm5).open
    refine Tm.uncons ?_
    refine Tm.dInt ?_
    refine Tm.uncons ?_
    refine Tm.dBool ?_
    refine Tm.uncons ?_
    refine Tm.dInt ?_
    refine Tm.uncons ?_
    refine Tm.dStr ?_
    refine Tm.uncons ?_
    refine Tm.dInt ?_
    refine Tm.uncons ?_
    refine Tm.dInt ?_
    refine Tm.uncons ?_
    refine Tm.dInt ?_
    refine Tm.uncons ?_
    refine Tm.dBool ?_
    refine Tm.uncons ?_
    refine Tm.dSl ?_
    refine Tm.uncons ?_
    refine Tm.dInt ?_
    refine Tm.uncons ?_
    refine Tm.dStr ?_
    refine Tm.uncons ?_
    refine Tm.dInt ?_
    refine Tm.uncons ?_
    refine Tm.dSl ?_
    refine Tm.uncons ?_
    refine Tm.dSl ?_
    refine Tm.uncons ?_
    refine Tm.dInt ?_
    refine Tm.uncons ?_
    refine Tm.dStr ?_
    refine Tm.uncons ?_
    refine Tm.dInt ?_
    refine Tm.uncons ?_
    refine Tm.dSl ?_
    refine Tm.uncons ?_
    refine Tm.dSl ?_
    refine Tm.atEnd ?_
    refine Yaw.tm (λi hi=>hi.1) (Yaw.T (by first|assumption|omega) (by first|assumption|omega) (by first|assumption|omega) (by first|assumption|omega) (by first|assumption|omega) (by first|assumption|omega) (by first|assumption|omega) (by first|assumption|omega) (by first|assumption|omega) (by first|assumption|omega)) (λy43 hy42=>?_)
    rcases hy42 with hy42|⟨p53,p54,q44,q45,q46,q47,q48,q49,q50,q51,q52,_⟩
    ·exact Tm.ite (λ_=>Tm.ret (by left;omega)) (λh=>by simp at h;omega)
    refine Tm.ite (λh55=>?_) (λh55=>?_)
    ·try simp only[bz0,bz1,bz2,bz3,bz4,bz5,bz6,bz7,bz8,bz9,bza] at h55
     exact Tm.ret (by first|(left;omega)|(rw[List.take_of_length_le (by omega)] at hwt;exact .inr ⟨by omega,by omega,⟨by simp only[lim];omega,all_rows (by omega) hr⟩,by omega,trivial⟩))
    ·try simp only[bz0,bz1,bz2,bz3,bz4,bz5,bz6,bz7,bz8,bz9,bza] at h55
     try rw[Z9 (x:=i+1) (by omega) (by omega)]
     have hwx:=wt_take i0 hx4
     simp only[ZbY,wtD] at hwx
     refine hL (y43,(i+1)) ⟨by omega,by omega,by omega,by omega,take_rows i0 hx4 hr ⟨_,_,_,_,_,_,_,_,_,_,_,_,_,_,_,_,_,_,_,rfl,by first|assumption|omega,by first|assumption|omega,by first|assumption|omega,by first|assumption|omega,by first|assumption|omega,by first|assumption|omega,by first|assumption|omega,by first|assumption|omega,by first|assumption|omega,by first|assumption|omega,by first|assumption|omega,by first|assumption|omega,by first|assumption|omega,by first|assumption|omega,by first|assumption|omega,by first|assumption|omega,by first|assumption|omega,trivial⟩,by omega⟩ (by(try simp only[]);omega)
   ·try simp only[bz0,bz1,bz2,bz3,bz4,bz5,bz6,bz7,bz8,bz9,bza] at h2
    exact Tm.ret (by first|(left;omega)|(rw[List.take_of_length_le (by omega)] at hwt;exact .inr ⟨by omega,by omega,⟨by simp only[lim];omega,all_rows (by omega) hr⟩,by omega,trivial⟩))
theorem YaI.tm {ι α:Type} {ok:ι->Prop} {ψ:α->Prop} {p:ι->Nat} {B:Nat} (hp:∀ i,ok i->B<=p i) {aC aB aD aA a1 φ} (h:Tm (λk=>B<=k) (λk=>YaI.t k aC aB aD aA a1) φ) {G:ι->Int->Option α} (hG:∀ z0,φ z0->Tm ok (λi=>G i z0) ψ):Tm ok (λi=>YaI.f (p i) aC aB aD aA a1 (G i)) ψ:=bd1_tm (t:=λk=>YaI.t k aC aB aD aA a1) hp h hG
theorem YaI.T {aC:LD} {aB aD:Int} {aA:LD} {a1:Int} (h0:0<=a1) (h1:a1<=1048576) (ga0_0:ZB Ya maxLen aC) (ga0_3:ZB Yb maxLen aA):Tm (Zai 1) (λk=>YaI.t k aC aB aD aA a1) (λr=>r<0\/0<=r/\r<=a1/\ZB Ya lim aC/\ZB Yb lim aA/\((Zu aC+Zu aA:Nat):Int)<=64*(a1-r)/\True):=by
 unfold YaI.t YaI.g
 have hm:=maxLen_eq
 have hlim:lim=1048576:=rfl
 refine Y6.tm (λi hi=>hi) (Y6.T (by first|assumption|omega) (by first|assumption|omega) (by first|assumption|omega)) (λy2 hy1=>?_)
 rcases hy1 with hy1|⟨p5,p6,q3,q4,_⟩
 ·exact Tm.ite (λ_=>Tm.ret (by left;omega)) (λh=>by simp at h;omega)
 refine Tm.ite (λh7=>?_) (λh7=>?_)
 ·try simp only[bz0,bz1,bz2,bz3,bz4,bz5,bz6,bz7,bz8,bz9,bza] at h7
  exact Tm.ret (by first|(left;omega)|(right;refine⟨?_,?_,?_,?_,?_,trivial⟩<;>first|assumption|omega))
 ·try simp only[bz0,bz1,bz2,bz3,bz4,bz5,bz6,bz7,bz8,bz9,bza] at h7
  refine YO.tm (λi hi=>hi) (YO.T (by first|assumption|omega) (by first|assumption|omega) (by first|assumption|omega)) (λy9 hy8=>?_)
  rcases hy8 with hy8|⟨p12,p13,q10,q11,_⟩
  ·exact Tm.ite (λ_=>Tm.ret (by left;omega)) (λh=>by simp at h;omega)
  refine Tm.ite (λh14=>?_) (λh14=>?_)
  ·try simp only[bz0,bz1,bz2,bz3,bz4,bz5,bz6,bz7,bz8,bz9,bza] at h14
   exact Tm.ret (by first|(left;omega)|(right;refine⟨?_,?_,?_,?_,?_,trivial⟩<;>first|assumption|omega))
  ·try simp only[bz0,bz1,bz2,bz3,bz4,bz5,bz6,bz7,bz8,bz9,bza] at h14
   exact Tm.ret (by first|(left;omega)|(right;refine⟨?_,?_,?_,?_,?_,trivial⟩<;>first|assumption|omega))
theorem YG.tm {ι α:Type} {ok:ι->Prop} {ψ:α->Prop} {p:ι->Nat} {B:Nat} (hp:∀ i,ok i->B<=p i) {a0 φ} (h:Tm (λk=>B<=k) (λk=>YG.t k a0) φ) {G:ι->LC->Option α} (hG:∀ z0,φ z0->Tm ok (λi=>G i z0) ψ):Tm ok (λi=>YG.f (p i) a0 (G i)) ψ:=bd1_tm (t:=λk=>YG.t k a0) hp h hG
set_option maxRecDepth 100000 in
theorem YG.T {a0:LD} (ga0:ZB RS lim a0):Tm Fuel (λk=>YG.t k a0) (λz=>z=Zc a0/\True):=by
 unfold YG.t YG.g
 have hm:=maxLen_eq
 have hlim:lim=1048576:=rfl
 have hlen:=ga0.1
 refine Tm.guard (by first|omega|(simp only[lim,maxLen_eq,Z8] at *;omega)|(simp only[lim,Z8] at *;refine⟨?_,?_,?_,?_⟩<;>omega)) ?_
 refine Tm.loop (okk:=Fuel) (p:=λk=>k) (λi hi=>hi) (b:=λk=>YG.l0 k a0 (λz0=>some z0)) (λv=>match v with|(i,u1)=>(((a0.length:Int))-i).toNat) (λv=>match v with|(i,u1)=>0<=i/\i<=(a0.length:Int)/\Filled a0 ([.d (.str (⟨#[]⟩:BA))]:List C) i u1) ?_ ?_ ?_
 ·rintro⟨i,u1⟩ hI
  try simp only[] at hI⊢
  have:big=2^64:=rfl
  have:=ga0.1
  simp only[lim] at this
  omega
 ·exact⟨by omega,by simp,Filled.start _ _⟩
 ·rintro⟨i,u1⟩ hI L hL
  try simp only[] at hI
  obtain⟨i0,i1,hF⟩:=hI
  have hFl:=hF.len i1
  simp only[YG.l0,atR,rdQ,Q.ask]
  refine Tm.ite (λh1=>?_) (λh1=>?_)
  ·try simp only[bz0,bz1,bz2,bz3,bz4,bz5,bz6,bz7,bz8,bz9,bza] at h1
   refine Tm.atRow (by first|assumption|omega) (by first|assumption|omega) (λx2 hx3 hm4=>?_)
   obtain⟨c5,rfl,g6,_⟩:=(ga0.2 x2 hm4).open
   refine Tm.uncons ?_
   refine Tm.dStr ?_
   refine Tm.atEnd ?_
   refine Tm.guard (by first|omega|(simp only[lim,maxLen_eq,Z8] at *;omega)|(simp only[lim,Z8] at *;refine⟨?_,?_,?_,?_⟩<;>omega)) ?_
   refine Tm.guard (by first|omega|(simp only[lim,maxLen_eq,Z8] at *;omega)|(simp only[lim,Z8] at *;refine⟨?_,?_,?_,?_⟩<;>omega)) ?_
   try rw[Z9 (x:=i+1) (by omega) (by omega)]
   refine hL (_,_) ⟨by omega,by omega,hF.next i0 hx3 rfl (by simp[ZN,deepD])⟩ (by(try simp only[]);omega)
  ·try simp only[bz0,bz1,bz2,bz3,bz4,bz5,bz6,bz7,bz8,bz9,bza] at h1
   exact Tm.ret (by exact⟨hF.all (by omega),trivial⟩)
theorem Yu.tm {ι α:Type} {ok:ι->Prop} {ψ:α->Prop} {p:ι->Nat} {B:Nat} (hp:∀ i,ok i->B<=p i) {a0 φ} (h:Tm (λk=>B<=k) (λk=>Yu.t k a0) φ) {G:ι->LC->Option α} (hG:∀ z0,φ z0->Tm ok (λi=>G i z0) ψ):Tm ok (λi=>Yu.f (p i) a0 (G i)) ψ:=bd1_tm (t:=λk=>Yu.t k a0) hp h hG
theorem YE.tm {ι α:Type} {ok:ι->Prop} {ψ:α->Prop} {p:ι->Nat} {B:Nat} (hp:∀ i,ok i->B<=p i) {aC aB aD aA aI φ} (h:Tm (λk=>B<=k) (λk=>YE.t k aC aB aD aA aI) φ) {G:ι->Int->BA->Int->LC->LC->Option α} (hG:∀ z0 z1 z2 z3 z4,φ (z0,z1,z2,z3,z4)->Tm ok (λi=>G i z0 z1 z2 z3 z4) ψ):Tm ok (λi=>YE.f (p i) aC aB aD aA aI (G i)) ψ:=bd5_tm (t:=λk=>YE.t k aC aB aD aA aI) hp h hG
set_option maxRecDepth 100000 in
theorem toVal (n:Nat):(∀ (a:LD),a.length<=lim->(∀ x∈a,Y0 lim n x)->Tm (λk=>big+2*n+1<=k) (λk=>Yu.t k a) (λz=>z=Zc a))/\
  (∀ (c0:Int) (c1:BA) (c2:Int) (c3 c4:LD),c1.size<=lim->ZB RS lim c3->c4.length<=lim->(∀ x∈c4,Y0 lim n x)->Tm (λk=>big+2*n+2<=k) (λk=>YE.t k c0 c1 c2 c3 c4) (λz=>z.1=c0/\z.2.1=c1/\z.2.2.1=c2/\z.2.2.2.1=Zc c3/\z.2.2.2.2=Zc c4)):=by
 have hm:Z8=2^36:=rfl
 have hlim:lim=1048576:=rfl
 have hb:big=2^64:=rfl
 induction n using Nat.strongRecOn with
 |ind n ih=>
 have S:∀ (a:LD),a.length<=lim->(∀ x∈a,Y0 lim n x)->Tm (λk=>big+2*n+1<=k) (λk=>Yu.t k a) (λz=>z=Zc a):=by
  intro a hlen g
  refine Tm.succ (g:=λk=>Yu.g k a (λz0=>some z0)) (λk=>Yu.t_succ k a) ?_
  unfold Yu.g Yu.body Yu.m
  refine Tm.guard ⟨by omega,by omega,by omega,by omega⟩ ?_
  refine Tm.loop (okk:=λk=>big+2*n<=k) (p:=λk=>k) (λi hi=>by omega) (b:=λk=>Yu.l0 k (Yu.f k) (YE.f k) a (λz0=>some z0)) (λv=>match v with|(i,u1)=>(((a.length:Int))-i).toNat) (λv=>match v with|(i,u1)=>0<=i/\i<=(a.length:Int)/\Filled a ([.d (.int .i64 0),.d (.str (⟨#[]⟩:BA)),.d (.int .i64 0),.own ([]:LC),.own ([]:LC)]:List C) i u1) ?_ ?_ ?_
  ·rintro⟨i,u1⟩ hI
   simp only[] at hI⊢
   omega
  ·exact⟨by omega,by simp,Filled.start _ _⟩
  ·rintro⟨i,u1⟩ hI L hL
   simp only[] at hI
   obtain⟨i0,i1,hF⟩:=hI
   have hFl:=hF.len i1
   simp only[Yu.l0,atR,rdQ,Q.ask]
   refine Tm.ite (λh4=>?_) (λh4=>?_)
   ·simp only[decide_eq_true_eq] at h4
    refine Tm.atRow (by omega) (by omega) (λx5 hx6 hm7=>?_)
    obtain⟨n',hn',c0,c1,c2,c3,c4,rfl,w0,g1,w2,g3,l4,g4⟩:∃ n',n=n'+1/\∃ c0 c1 c2 c3 c4,x5=[.int .i64 c0,.str c1,.int .i64 c2,.sl c3,.sl c4]/\(Lit.int .i64 c0).wf=true/\c1.size<=lim/\(Lit.int .i64 c2).wf=true/\ZB RS lim c3/\c4.length<=lim/\∀ x∈c4,Y0 lim n' x:=by
     have:=g x5 hm7
     cases this with
     |mk c0 c1 c2 c3 c4 w0 g1 w2 g3 l4 g4=>exact⟨_,rfl,_,_,_,_,_,rfl,w0,g1,w2,g3,l4,g4⟩
    refine Tm.uncons (Tm.dInt (Tm.uncons (Tm.dStr (Tm.uncons (Tm.dInt (Tm.uncons (Tm.dSl (Tm.uncons (Tm.dSl (Tm.atEnd ?_))))))))))
    refine YE.tm (B:=big+2*n'+2) (λi hi=>by have:=hi.1;omega) ((ih n' (by omega)).2 c0 c1 c2 c3 c4 g1 g3 l4 g4) (λy0 y1 y2 y3 y4 hy=>?_)
    simp only[] at hy
    obtain⟨rfl,rfl,rfl,e3,e4⟩:=hy
    refine Tm.guard (by omega) (Tm.guard (by omega) ?_)
    rw[Z9 (x:=i+1) (by omega) (by omega)]
    exact hL (_,_) ⟨by omega,by omega,hF.next i0 hx6 rfl (by simp[ZN,deepD,e3,e4])⟩ (by simp only[];omega)
   ·simp only[decide_eq_false_iff_not,Int.not_lt] at h4
    exact Tm.ret (hF.all (by omega))
 refine⟨S,?_⟩
 intro c0 c1 c2 c3 c4 g1 g3 l4 g4
 refine Tm.succ (g:=λk=>YE.g k c0 c1 c2 c3 c4 (λz0 z1 z2 z3 z4=>some (z0,z1,z2,z3,z4))) (λk=>YE.t_succ k c0 c1 c2 c3 c4) ?_
 unfold YE.g YE.body
 refine YG.tm (B:=big) (λi hi=>by omega) (YG.T g3) (λy hy=>?_)
 refine Yu.tm (B:=big+2*n+1) (λi hi=>hi) (S c4 l4 g4) (λy' hy'=>?_)
 exact Tm.ret ⟨rfl,rfl,rfl,hy.1,hy'⟩
theorem YE.T {aC:Int} {aB:BA} {aD:Int} {aA aI:LD} (g1:aB.size<=lim) (g3:ZB RS lim aA) (g4:ZB Yo lim aI):Tm (Zai 1) (λk=>YE.t k aC aB aD aA aI) (λz=>z.1=aC/\z.2.1=aB/\z.2.2.1=aD/\z.2.2.2.1=Zc aA/\z.2.2.2.2=Zc aI/\True):=by
 have hlim:lim=1048576:=rfl
 have g':∀ x∈aI,Y0 lim 1099511627776 x:=λx hx=>by
  obtain⟨h,hh,hx⟩:=g4.2 x hx
  exact hx.mono (hh (by decide))
 exact(((toVal 1099511627776).2 aC aB aD aA aI g1 g3 g4.1 g').up (big_lv1 (n:=2*1099511627776+2) (by omega))).mono λr hr=>⟨hr.1,hr.2.1,hr.2.2.1,hr.2.2.2.1,hr.2.2.2.2,trivial⟩
theorem Yav.f_of {β:Type} {k:Nat} {aC:Int} {aB:BA} {aD aA aI:Int} {bE:Bool} {aW:LD} {bB:Int} {aR:BA} {bC:Int} {aT aY:LD} {bA:Int} {aU:BA} {bD:Int} {aV aZ:LD} {z0:Int} {z1:BA} {z2 z3 z4:Int} {z5:Bool} {z6:LC} {z7:Int} {z8:BA} {z9:Int} {z10 z11:LC} {z12:Int} {z13:BA} {z14:Int} {z15 z16:LC} (h:Yav.t k aC aB aD aA aI bE aW bB aR bC aT aY bA aU bD aV aZ=some (z0,z1,z2,z3,z4,z5,z6,z7,z8,z9,z10,z11,z12,z13,z14,z15,z16)) (K:Int->BA->Int->Int->Int->Bool->LC->Int->BA->Int->LC->LC->Int->BA->Int->LC->LC->Option β):Yav.f k aC aB aD aA aI bE aW bB aR bC aT aY bA aU bD aV aZ K=K z0 z1 z2 z3 z4 z5 z6 z7 z8 z9 z10 z11 z12 z13 z14 z15 z16:=by
 unfold Yav.f
 rw[h]
theorem Yav.tm {ι α:Type} {ok:ι->Prop} {ψ:α->Prop} {p:ι->Nat} {B:Nat} (hp:∀ i,ok i->B<=p i) {aC:Int} {aB:BA} {aD aA aI:Int} {bE:Bool} {aW:LD} {bB:Int} {aR:BA} {bC:Int} {aT aY:LD} {bA:Int} {aU:BA} {bD:Int} {aV aZ:LD} {φ:Int×BA×Int×Int×Int×Bool×LC×Int×BA×Int×LC×LC×Int×BA×Int×LC×LC->Prop} (h:Tm (λk=>B<=k) (λk=>Yav.t k aC aB aD aA aI bE aW bB aR bC aT aY bA aU bD aV aZ) φ) {G:ι->Int->BA->Int->Int->Int->Bool->LC->Int->BA->Int->LC->LC->Int->BA->Int->LC->LC->Option α} (hG:∀ z0 z1 z2 z3 z4 z5 z6 z7 z8 z9 z10 z11 z12 z13 z14 z15 z16,φ (z0,z1,z2,z3,z4,z5,z6,z7,z8,z9,z10,z11,z12,z13,z14,z15,z16)->Tm ok (λι0=>G ι0 z0 z1 z2 z3 z4 z5 z6 z7 z8 z9 z10 z11 z12 z13 z14 z15 z16) ψ):Tm ok (λι0=>Yav.f (p ι0) aC aB aD aA aI bE aW bB aR bC aT aY bA aU bD aV aZ (G ι0)) ψ:=by
 obtain⟨⟨z0,z1,z2,z3,z4,z5,z6,z7,z8,z9,z10,z11,z12,z13,z14,z15,z16⟩,h1,h2⟩:=h
 exact(hG z0 z1 z2 z3 z4 z5 z6 z7 z8 z9 z10 z11 z12 z13 z14 z15 z16 h1).congr λi0 hi0=>Yav.f_of (h2 (p i0) (hp i0 hi0)) _
theorem Yav.T {aC:Int} {aB:BA} {aD aA aI:Int} {bE:Bool} {aW:LD} {bB:Int} {aR:BA} {bC:Int} {aT aY:LD} {bA:Int} {aU:BA} {bD:Int} {aV aZ:LD} (ga0_1:aB.size<=lim) (ga0_6:ZB RS lim aW) (ga0_8:aR.size<=lim) (ga0_10:ZB RS lim aT) (ga0_11:ZB Yo lim aY) (ga0_13:aU.size<=lim) (ga0_15:ZB RS lim aV) (ga0_16:ZB Yo lim aZ):Tm (Zai 1) (λk=>Yav.t k aC aB aD aA aI bE aW bB aR bC aT aY bA aU bD aV aZ) (λz=>z.1=aC/\z.2.1=aB/\z.2.2.1=aD/\z.2.2.2.1=aA/\z.2.2.2.2.1=aI/\z.2.2.2.2.2.1=bE/\z.2.2.2.2.2.2.1=Zc aW/\z.2.2.2.2.2.2.2.1=bB/\z.2.2.2.2.2.2.2.2.1=aR/\z.2.2.2.2.2.2.2.2.2.1=bC/\z.2.2.2.2.2.2.2.2.2.2.1=Zc aT/\z.2.2.2.2.2.2.2.2.2.2.2.1=Zc aY/\z.2.2.2.2.2.2.2.2.2.2.2.2.1=bA/\z.2.2.2.2.2.2.2.2.2.2.2.2.2.1=aU/\z.2.2.2.2.2.2.2.2.2.2.2.2.2.2.1=bD/\z.2.2.2.2.2.2.2.2.2.2.2.2.2.2.2.1=Zc aV/\z.2.2.2.2.2.2.2.2.2.2.2.2.2.2.2.2=Zc aZ/\True):=by
 unfold Yav.t Yav.g
 have hm:=maxLen_eq
 have hlim:lim=1048576:=rfl
 refine YG.tm (λi hi=>up0 hi) (YG.T (by first|assumption|omega)) (λy2 hy1=>?_)
 try simp only[] at hy1
 obtain⟨rfl,_⟩:=hy1
 try simp only[ZK]
 refine YE.tm (λi hi=>hi) (YE.T (by first|assumption|omega) (by first|assumption|omega) (by first|assumption|omega)) (λy4 y5 y6 y7 y8 hy3=>?_)
 try simp only[] at hy3
 obtain⟨rfl,rfl,rfl,rfl,rfl,_⟩:=hy3
 try simp only[ZK]
 refine YE.tm (λi hi=>hi) (YE.T (by first|assumption|omega) (by first|assumption|omega) (by first|assumption|omega)) (λy10 y11 y12 y13 y14 hy9=>?_)
 try simp only[] at hy9
 obtain⟨rfl,rfl,rfl,rfl,rfl,_⟩:=hy9
 try simp only[ZK]
 exact Tm.ret (by exact⟨by first|rfl|assumption,by first|rfl|assumption,by first|rfl|assumption,by first|rfl|assumption,by first|rfl|assumption,by first|rfl|assumption,by first|rfl|assumption,by first|rfl|assumption,by first|rfl|assumption,by first|rfl|assumption,by first|rfl|assumption,by first|rfl|assumption,by first|rfl|assumption,by first|rfl|assumption,by first|rfl|assumption,by first|rfl|assumption,by first|rfl|assumption,trivial⟩)
theorem Y3.tm {ι α:Type} {ok:ι->Prop} {ψ:α->Prop} {p:ι->Nat} {B:Nat} (hp:∀ i,ok i->B<=p i) {a0 φ} (h:Tm (λk=>B<=k) (λk=>Y3.t k a0) φ) {G:ι->LC->Option α} (hG:∀ z0,φ z0->Tm ok (λi=>G i z0) ψ):Tm ok (λi=>Y3.f (p i) a0 (G i)) ψ:=bd1_tm (t:=λk=>Y3.t k a0) hp h hG
set_option maxRecDepth 100000 in
theorem Y3.T {a0:LD} (ga0:ZB Ya lim a0):Tm (Zai 1) (λk=>Y3.t k a0) (λz=>z=Zc a0/\True):=by
 unfold Y3.t Y3.g Y3.m
 have hm:=maxLen_eq
 have hlim:lim=1048576:=rfl
 have hlen:=ga0.1
 refine Tm.guard (by first|omega|(simp only[lim,maxLen_eq,Z8] at *;omega)|(simp only[lim,Z8] at *;refine⟨?_,?_,?_,?_⟩<;>omega)) ?_
 refine Tm.loop (okk:=(Zai 1)) (p:=λk=>k) (λi hi=>up0 hi) (b:=λk=>Y3.l0 k a0 (λz0=>some z0)) (λv=>match v with|(i,u1)=>(((a0.length:Int))-i).toNat) (λv=>match v with|(i,u1)=>0<=i/\i<=(a0.length:Int)/\Filled a0 ([.d (.int .i64 0),.d (.str (⟨#[]⟩:BA)),.d (.int .i64 0),.d (.int .i64 0),.d (.int .i64 0),.d (.bool false),.own ([]:LC),.d (.int .i64 0),.d (.str (⟨#[]⟩:BA)),.d (.int .i64 0),.own ([]:LC),.own ([]:LC),.d (.int .i64 0),.d (.str (⟨#[]⟩:BA)),.d (.int .i64 0),.own ([]:LC),.own ([]:LC)]:List C) i u1) ?_ ?_ ?_
 ·rintro⟨i,u1⟩ hI
  try simp only[] at hI⊢
  have:big=2^64:=rfl
  have:=ga0.1
  simp only[lim] at this
  omega
 ·exact⟨by omega,by simp,Filled.start _ _⟩
 ·rintro⟨i,u1⟩ hI L hL
  try simp only[] at hI
  obtain⟨i0,i1,hF⟩:=hI
  have hFl:=hF.len i1
  simp only[Y3.l0,atR,rdQ,Q.ask]
  refine Tm.ite (λh1=>?_) (λh1=>?_)
  ·try simp only[bz0,bz1,bz2,bz3,bz4,bz5,bz6,bz7,bz8,bz9,bza] at h1
   refine Tm.atRow (by first|assumption|omega) (by first|assumption|omega) (λx2 hx3 hm4=>?_)
   obtain⟨c5,c6,c7,c8,c9,c10,c11,c12,c13,c14,c15,c16,c17,c18,c19,c20,c21,rfl,g22,g23,g24,g25,g26,g27,g28,g29,g30,g31,g32,g33,g34,g35,g36,g37,_⟩:=(ga0.2 x2 hm4).open
   refine Tm.uncons ?_
   refine Tm.dInt ?_
   refine Tm.uncons ?_
   refine Tm.dStr ?_
   refine Tm.uncons ?_
   refine Tm.dInt ?_
   refine Tm.uncons ?_
   refine Tm.dInt ?_
   refine Tm.uncons ?_
   refine Tm.dInt ?_
   refine Tm.uncons ?_
   refine Tm.dBool ?_
   refine Tm.uncons ?_
   refine Tm.dSl ?_
   refine Tm.uncons ?_
   refine Tm.dInt ?_
   refine Tm.uncons ?_
   refine Tm.dStr ?_
   refine Tm.uncons ?_
   refine Tm.dInt ?_
   refine Tm.uncons ?_
   refine Tm.dSl ?_
   refine Tm.uncons ?_
   refine Tm.dSl ?_
   refine Tm.uncons ?_
   refine Tm.dInt ?_
   refine Tm.uncons ?_
   refine Tm.dStr ?_
   refine Tm.uncons ?_
   refine Tm.dInt ?_
   refine Tm.uncons ?_
   refine Tm.dSl ?_
   refine Tm.uncons ?_
   refine Tm.dSl ?_
   refine Tm.atEnd ?_
   refine Yav.tm (λi hi=>hi.1) (Yav.T (by first|assumption|omega) (by first|assumption|omega) (by first|assumption|omega) (by first|assumption|omega) (by first|assumption|omega) (by first|assumption|omega) (by first|assumption|omega) (by first|assumption|omega)) (λy39 y40 y41 y42 y43 y44 y45 y46 y47 y48 y49 y50 y51 y52 y53 y54 y55 hy38=>?_)
   try simp only[] at hy38
   obtain⟨rfl,rfl,rfl,rfl,rfl,rfl,rfl,rfl,rfl,rfl,rfl,rfl,rfl,rfl,rfl,rfl,rfl,_⟩:=hy38
   try simp only[ZK]
   refine Tm.guard (by first|omega|(simp only[lim,maxLen_eq,Z8] at *;omega)|(simp only[lim,Z8] at *;refine⟨?_,?_,?_,?_⟩<;>omega)) ?_
   refine Tm.guard (by first|omega|(simp only[lim,maxLen_eq,Z8] at *;omega)|(simp only[lim,Z8] at *;refine⟨?_,?_,?_,?_⟩<;>omega)) ?_
   try rw[Z9 (x:=i+1) (by omega) (by omega)]
   refine hL (_,_) ⟨by omega,by omega,hF.next i0 hx3 rfl (by simp[ZN,deepD])⟩ (by(try simp only[]);omega)
  ·try simp only[bz0,bz1,bz2,bz3,bz4,bz5,bz6,bz7,bz8,bz9,bza] at h1
   exact Tm.ret (by exact⟨hF.all (by omega),trivial⟩)
theorem Yal.f_of {β:Type} {k:Nat} {aC:Int} {aB:Bool} {aD:Int} {aA:BA} {aI bE aW:Int} {bB:Bool} {aR:LD} {bC:Int} {aT:BA} {aY:Int} {bA aU:LD} {bD:Int} {aV:BA} {aZ:Int} {cN cO:LD} {z0:Int} {z1:Bool} {z2:Int} {z3:BA} {z4 z5 z6:Int} {z7:Bool} {z8:LC} {z9:Int} {z10:BA} {z11:Int} {z12 z13:LC} {z14:Int} {z15:BA} {z16:Int} {z17 z18:LC} (h:Yal.t k aC aB aD aA aI bE aW bB aR bC aT aY bA aU bD aV aZ cN cO=some (z0,z1,z2,z3,z4,z5,z6,z7,z8,z9,z10,z11,z12,z13,z14,z15,z16,z17,z18)) (K:Int->Bool->Int->BA->Int->Int->Int->Bool->LC->Int->BA->Int->LC->LC->Int->BA->Int->LC->LC->Option β):Yal.f k aC aB aD aA aI bE aW bB aR bC aT aY bA aU bD aV aZ cN cO K=K z0 z1 z2 z3 z4 z5 z6 z7 z8 z9 z10 z11 z12 z13 z14 z15 z16 z17 z18:=by
 unfold Yal.f
 rw[h]
theorem Yal.tm {ι α:Type} {ok:ι->Prop} {ψ:α->Prop} {p:ι->Nat} {B:Nat} (hp:∀ i,ok i->B<=p i) {aC:Int} {aB:Bool} {aD:Int} {aA:BA} {aI bE aW:Int} {bB:Bool} {aR:LD} {bC:Int} {aT:BA} {aY:Int} {bA aU:LD} {bD:Int} {aV:BA} {aZ:Int} {cN cO:LD} {φ:Int×Bool×Int×BA×Int×Int×Int×Bool×LC×Int×BA×Int×LC×LC×Int×BA×Int×LC×LC->Prop} (h:Tm (λk=>B<=k) (λk=>Yal.t k aC aB aD aA aI bE aW bB aR bC aT aY bA aU bD aV aZ cN cO) φ) {G:ι->Int->Bool->Int->BA->Int->Int->Int->Bool->LC->Int->BA->Int->LC->LC->Int->BA->Int->LC->LC->Option α} (hG:∀ z0 z1 z2 z3 z4 z5 z6 z7 z8 z9 z10 z11 z12 z13 z14 z15 z16 z17 z18,φ (z0,z1,z2,z3,z4,z5,z6,z7,z8,z9,z10,z11,z12,z13,z14,z15,z16,z17,z18)->Tm ok (λι0=>G ι0 z0 z1 z2 z3 z4 z5 z6 z7 z8 z9 z10 z11 z12 z13 z14 z15 z16 z17 z18) ψ):Tm ok (λι0=>Yal.f (p ι0) aC aB aD aA aI bE aW bB aR bC aT aY bA aU bD aV aZ cN cO (G ι0)) ψ:=by
 obtain⟨⟨z0,z1,z2,z3,z4,z5,z6,z7,z8,z9,z10,z11,z12,z13,z14,z15,z16,z17,z18⟩,h1,h2⟩:=h
 exact(hG z0 z1 z2 z3 z4 z5 z6 z7 z8 z9 z10 z11 z12 z13 z14 z15 z16 z17 z18 h1).congr λi0 hi0=>Yal.f_of (h2 (p i0) (hp i0 hi0)) _
theorem Yal.T {aC:Int} {aB:Bool} {aD:Int} {aA:BA} {aI bE aW:Int} {bB:Bool} {aR:LD} {bC:Int} {aT:BA} {aY:Int} {bA aU:LD} {bD:Int} {aV:BA} {aZ:Int} {cN cO:LD} (ga0_3:aA.size<=lim) (ga0_8:ZB RS lim aR) (ga0_10:aT.size<=lim) (ga0_12:ZB RS lim bA) (ga0_13:ZB Yo lim aU) (ga0_15:aV.size<=lim) (ga0_17:ZB RS lim cN) (ga0_18:ZB Yo lim cO):Tm (Zai 1) (λk=>Yal.t k aC aB aD aA aI bE aW bB aR bC aT aY bA aU bD aV aZ cN cO) (λz=>z.1=aC/\z.2.1=aB/\z.2.2.1=aD/\z.2.2.2.1=aA/\z.2.2.2.2.1=aI/\z.2.2.2.2.2.1=bE/\z.2.2.2.2.2.2.1=aW/\z.2.2.2.2.2.2.2.1=bB/\z.2.2.2.2.2.2.2.2.1=Zc aR/\z.2.2.2.2.2.2.2.2.2.1=bC/\z.2.2.2.2.2.2.2.2.2.2.1=aT/\z.2.2.2.2.2.2.2.2.2.2.2.1=aY/\z.2.2.2.2.2.2.2.2.2.2.2.2.1=Zc bA/\z.2.2.2.2.2.2.2.2.2.2.2.2.2.1=Zc aU/\z.2.2.2.2.2.2.2.2.2.2.2.2.2.2.1=bD/\z.2.2.2.2.2.2.2.2.2.2.2.2.2.2.2.1=aV/\z.2.2.2.2.2.2.2.2.2.2.2.2.2.2.2.2.1=aZ/\z.2.2.2.2.2.2.2.2.2.2.2.2.2.2.2.2.2.1=Zc cN/\z.2.2.2.2.2.2.2.2.2.2.2.2.2.2.2.2.2.2=Zc cO/\True):=by
 unfold Yal.t Yal.g
 have hm:=maxLen_eq
 have hlim:lim=1048576:=rfl
 refine Yav.tm (λi hi=>hi) (Yav.T (by first|assumption|omega) (by first|assumption|omega) (by first|assumption|omega) (by first|assumption|omega) (by first|assumption|omega) (by first|assumption|omega) (by first|assumption|omega) (by first|assumption|omega)) (λy2 y3 y4 y5 y6 y7 y8 y9 y10 y11 y12 y13 y14 y15 y16 y17 y18 hy1=>?_)
 try simp only[] at hy1
 obtain⟨rfl,rfl,rfl,rfl,rfl,rfl,rfl,rfl,rfl,rfl,rfl,rfl,rfl,rfl,rfl,rfl,rfl,_⟩:=hy1
 try simp only[ZK]
 exact Tm.ret (by exact⟨by first|rfl|assumption,by first|rfl|assumption,by first|rfl|assumption,by first|rfl|assumption,by first|rfl|assumption,by first|rfl|assumption,by first|rfl|assumption,by first|rfl|assumption,by first|rfl|assumption,by first|rfl|assumption,by first|rfl|assumption,by first|rfl|assumption,by first|rfl|assumption,by first|rfl|assumption,by first|rfl|assumption,by first|rfl|assumption,by first|rfl|assumption,by first|rfl|assumption,by first|rfl|assumption,trivial⟩)
theorem YK.tm {ι α:Type} {ok:ι->Prop} {ψ:α->Prop} {p:ι->Nat} {B:Nat} (hp:∀ i,ok i->B<=p i) {a0 φ} (h:Tm (λk=>B<=k) (λk=>YK.t k a0) φ) {G:ι->LC->Option α} (hG:∀ z0,φ z0->Tm ok (λi=>G i z0) ψ):Tm ok (λi=>YK.f (p i) a0 (G i)) ψ:=bd1_tm (t:=λk=>YK.t k a0) hp h hG
set_option maxRecDepth 100000 in
theorem YK.T {a0:LD} (ga0:ZB Yb lim a0):Tm (Zai 1) (λk=>YK.t k a0) (λz=>z=Zc a0/\True):=by
 unfold YK.t YK.g YK.m
 have hm:=maxLen_eq
 have hlim:lim=1048576:=rfl
 have hlen:=ga0.1
 refine Tm.guard (by first|omega|(simp only[lim,maxLen_eq,Z8] at *;omega)|(simp only[lim,Z8] at *;refine⟨?_,?_,?_,?_⟩<;>omega)) ?_
 refine Tm.loop (okk:=(Zai 1)) (p:=λk=>k) (λi hi=>up0 hi) (b:=λk=>YK.l0 k a0 (λz0=>some z0)) (λv=>match v with|(i,u1)=>(((a0.length:Int))-i).toNat) (λv=>match v with|(i,u1)=>0<=i/\i<=(a0.length:Int)/\Filled a0 ([.d (.int .i64 0),.d (.bool false),.d (.int .i64 0),.d (.str (⟨#[]⟩:BA)),.d (.int .i64 0),.d (.int .i64 0),.d (.int .i64 0),.d (.bool false),.own ([]:LC),.d (.int .i64 0),.d (.str (⟨#[]⟩:BA)),.d (.int .i64 0),.own ([]:LC),.own ([]:LC),.d (.int .i64 0),.d (.str (⟨#[]⟩:BA)),.d (.int .i64 0),.own ([]:LC),.own ([]:LC)]:List C) i u1) ?_ ?_ ?_
 ·rintro⟨i,u1⟩ hI
  try simp only[] at hI⊢
  have:big=2^64:=rfl
  have:=ga0.1
  simp only[lim] at this
  omega
 ·exact⟨by omega,by simp,Filled.start _ _⟩
 ·rintro⟨i,u1⟩ hI L hL
  try simp only[] at hI
  obtain⟨i0,i1,hF⟩:=hI
  have hFl:=hF.len i1
  simp only[YK.l0,atR,rdQ,Q.ask]
  refine Tm.ite (λh1=>?_) (λh1=>?_)
  ·try simp only[bz0,bz1,bz2,bz3,bz4,bz5,bz6,bz7,bz8,bz9,bza] at h1
   refine Tm.atRow (by first|assumption|omega) (by first|assumption|omega) (λx2 hx3 hm4=>?_)
   obtain⟨c5,c6,c7,c8,c9,c10,c11,c12,c13,c14,c15,c16,c17,c18,c19,c20,c21,c22,c23,rfl,g24,g25,g26,g27,g28,g29,g30,g31,g32,g33,g34,g35,g36,g37,g38,g39,g40,_⟩:=(ga0.2 x2 hm4).open
   refine Tm.uncons ?_
   refine Tm.dInt ?_
   refine Tm.uncons ?_
   refine Tm.dBool ?_
   refine Tm.uncons ?_
   refine Tm.dInt ?_
   refine Tm.uncons ?_
   refine Tm.dStr ?_
   refine Tm.uncons ?_
   refine Tm.dInt ?_
   refine Tm.uncons ?_
   refine Tm.dInt ?_
   refine Tm.uncons ?_
   refine Tm.dInt ?_
   refine Tm.uncons ?_
   refine Tm.dBool ?_
   refine Tm.uncons ?_
   refine Tm.dSl ?_
   refine Tm.uncons ?_
   refine Tm.dInt ?_
   refine Tm.uncons ?_
   refine Tm.dStr ?_
   refine Tm.uncons ?_
   refine Tm.dInt ?_
   refine Tm.uncons ?_
   refine Tm.dSl ?_
   refine Tm.uncons ?_
   refine Tm.dSl ?_
   refine Tm.uncons ?_
   refine Tm.dInt ?_
   refine Tm.uncons ?_
   refine Tm.dStr ?_
   refine Tm.uncons ?_
   refine Tm.dInt ?_
   refine Tm.uncons ?_
   refine Tm.dSl ?_
   refine Tm.uncons ?_
   refine Tm.dSl ?_
   refine Tm.atEnd ?_
   refine Yal.tm (λi hi=>hi.1) (Yal.T (by first|assumption|omega) (by first|assumption|omega) (by first|assumption|omega) (by first|assumption|omega) (by first|assumption|omega) (by first|assumption|omega) (by first|assumption|omega) (by first|assumption|omega)) (λy42 y43 y44 y45 y46 y47 y48 y49 y50 y51 y52 y53 y54 y55 y56 y57 y58 y59 y60 hy41=>?_)
   try simp only[] at hy41
   obtain⟨rfl,rfl,rfl,rfl,rfl,rfl,rfl,rfl,rfl,rfl,rfl,rfl,rfl,rfl,rfl,rfl,rfl,rfl,rfl,_⟩:=hy41
   try simp only[ZK]
   refine Tm.guard (by first|omega|(simp only[lim,maxLen_eq,Z8] at *;omega)|(simp only[lim,Z8] at *;refine⟨?_,?_,?_,?_⟩<;>omega)) ?_
   refine Tm.guard (by first|omega|(simp only[lim,maxLen_eq,Z8] at *;omega)|(simp only[lim,Z8] at *;refine⟨?_,?_,?_,?_⟩<;>omega)) ?_
   try rw[Z9 (x:=i+1) (by omega) (by omega)]
   refine hL (_,_) ⟨by omega,by omega,hF.next i0 hx3 rfl (by simp[ZN,deepD])⟩ (by(try simp only[]);omega)
  ·try simp only[bz0,bz1,bz2,bz3,bz4,bz5,bz6,bz7,bz8,bz9,bza] at h1
   exact Tm.ret (by exact⟨hF.all (by omega),trivial⟩)
theorem Yao.tm {ι α:Type} {ok:ι->Prop} {ψ:α->Prop} {p:ι->Nat} {B:Nat} (hp:∀ i,ok i->B<=p i) {aC aB aD aA φ} (h:Tm (λk=>B<=k) (λk=>Yao.t k aC aB aD aA) φ) {G:ι->LC->Int->Int->LC->Option α} (hG:∀ z0 z1 z2 z3,φ (z0,z1,z2,z3)->Tm ok (λi=>G i z0 z1 z2 z3) ψ):Tm ok (λi=>Yao.f (p i) aC aB aD aA (G i)) ψ:=bd4_tm (t:=λk=>Yao.t k aC aB aD aA) hp h hG
theorem Yao.T {aC:LD} {aB aD:Int} {aA:LD} (ga0_0:ZB Ya lim aC) (ga0_3:ZB Yb lim aA):Tm (Zai 1) (λk=>Yao.t k aC aB aD aA) (λz=>z.1=Zc aC/\z.2.1=aB/\z.2.2.1=aD/\z.2.2.2=Zc aA/\True):=by
 unfold Yao.t Yao.g
 have hm:=maxLen_eq
 have hlim:lim=1048576:=rfl
 refine Y3.tm (λi hi=>hi) (Y3.T (by first|assumption|omega)) (λy2 hy1=>?_)
 try simp only[] at hy1
 obtain⟨rfl,_⟩:=hy1
 try simp only[ZK]
 refine YK.tm (λi hi=>hi) (YK.T (by first|assumption|omega)) (λy4 hy3=>?_)
 try simp only[] at hy3
 obtain⟨rfl,_⟩:=hy3
 try simp only[ZK]
 exact Tm.ret (by exact⟨by first|rfl|assumption,by first|rfl|assumption,by first|rfl|assumption,by first|rfl|assumption,trivial⟩)
theorem YT.f_of {β:Type} {k a0 a1 a2 z0} (h:YT.t k a0 a1 a2=some z0) (K:Bool->Option β):YT.f k a0 a1 a2 K=K z0:=by unfold YT.f;rw[h];rfl
theorem YT.tm {ι α:Type} {ok:ι->Prop} {ψ:α->Prop} {p:ι->Nat} {B:Nat} (hp:∀ i,ok i->B<=p i) {a0 a1 a2 φ} (h:Tm (λk=>B<=k) (λk=>YT.t k a0 a1 a2) φ) {G:ι->Bool->Option α} (hG:∀ z0,φ z0->Tm ok (λi=>G i z0) ψ):Tm ok (λi=>YT.f (p i) a0 a1 a2 (G i)) ψ:=bd1_tm (t:=λk=>YT.t k a0 a1 a2) hp h hG
theorem YT.T {a0 a1 a2:Int}:Tm Fuel (λk=>YT.t k a0 a1 a2) (λr=>r=true->a1<=a0/\a0<=a2):=by
 unfold YT.t YT.g
 have hm:=maxLen_eq
 have hlim:lim=1048576:=rfl
 refine Tm.ite (λh1=>?_) (λh1=>?_)
 ·try simp only[bz0,bz1,bz2,bz3,bz4,bz5,bz6,bz7,bz8,bz9,bza] at h1
  exact Tm.ret (by first|(intro h;simp at h;omega)|(intro h;cases h))
 ·try simp only[bz0,bz1,bz2,bz3,bz4,bz5,bz6,bz7,bz8,bz9,bza] at h1
  exact Tm.ret (by first|(intro h;simp at h;omega)|(intro h;cases h))
theorem l1In_f {β:Type} {k:Nat} {a b c:Int} (K:Bool->Option β):YT.f k a b c K=K (decide (b<=a)&&decide (a<=c)):=by
 refine YT.f_of ?_ K
 unfold YT.t YT.g
 by_cases h:b<=a<;>simp[h]
def inB (a b c:Int):Bool:=decide (b<=a)&&decide (a<=c)
theorem l1In_fv {β:Type} {k:Nat} {a b c:Int} (K:Bool->Option β):YT.f k a b c K=K (inB a b c):=l1In_f K
theorem Yaa.f_of {β:Type} {k a0 z0} (h:Yaa.t k a0=some z0) (K:Bool->Option β):Yaa.f k a0 K=K z0:=by unfold Yaa.f;rw[h];rfl
def textB (s:BA):Bool:=(List.range s.size).all λi=>inB (bS s (i:Int)) 32 126
theorem l4Text_fv {s:BA} (g:s.size<=lim) {k:Nat} (hk:Fuel k) {β:Type} (K:Bool->Option β):Yaa.f k s K=K (textB s&&decide ((s.size:Int)<=100)):=Yaa.f_of (by
 have hlim:lim=1048576:=rfl
 have hb:big=2^64:=rfl
 unfold Yaa.t Yaa.g textB
 rw[iter_all0 (n:=s.size) (λi=>inB (bS s (i:Int)) 32 126) (r1:=some false) (r2:=some (decide ((s.size:Int)<=100))) (by unfold Fuel at hk;omega)]
 ·generalize List.all _ _=x
  cases x<;>rfl
 ·intro L i hi
  simp(disch:=omega) only[Yaa.l0,ZY (show(i:Int)<s.size by omega),cond_true,atStr_at,wrap_b,l1In_fv,Z9]
  generalize inB _ _ _=x
  cases x<;>rfl
 ·intro L
  simp[Yaa.l0]) K
theorem Yp.f_of {β:Type} {k a0 z0} (h:Yp.t k a0=some z0) (K:Bool->Option β):Yp.f k a0 K=K z0:=by unfold Yp.f;rw[h];rfl
theorem Yp.tm {ι α:Type} {ok:ι->Prop} {ψ:α->Prop} {p:ι->Nat} {B:Nat} (hp:∀ i,ok i->B<=p i) {a0 φ} (h:Tm (λk=>B<=k) (λk=>Yp.t k a0) φ) {G:ι->Bool->Option α} (hG:∀ z0,φ z0->Tm ok (λi=>G i z0) ψ):Tm ok (λi=>Yp.f (p i) a0 (G i)) ψ:=bd1_tm (t:=λk=>Yp.t k a0) hp h hG
theorem Yp.T {a0:BA} (ga0:a0.size<=lim):Tm Fuel (λk=>Yp.t k a0) (λ_=>True):=by
 unfold Yp.t Yp.g
 have hm:=maxLen_eq
 have hlim:lim=1048576:=rfl
 refine Tm.loop (okk:=Fuel) (p:=λk=>k) (λi hi=>hi) (b:=λk=>Yp.l0 k a0 (λz0=>some z0)) (λi=>(((a0.size:Int))-i).toNat) (λi=>0<=i/\i<=(a0.size:Int)) ?_ ?_ ?_
 ·rintro i hI
  try simp only[] at hI⊢
  have:big=2^64:=rfl
  omega
 ·((try simp only[]);omega)
 ·rintro i hI L hL
  try simp only[] at hI
  obtain⟨i0,i1⟩:=hI
  simp only[Yp.l0]
  refine Tm.ite (λh1=>?_) (λh1=>?_)
  ·try simp only[bz0,bz1,bz2,bz3,bz4,bz5,bz6,bz7,bz8,bz9,bza] at h1
   refine Tm.atStr (by first|assumption|omega) (by first|assumption|omega) (λb2 hb3=>?_)
   try rw[Z9 (x:=(b2.toNat:Int)) (by omega) (by omega)]
   refine YT.tm (λi hi=>hi.1) (YT.T) (λy5 hy4=>?_)
   refine Tm.ite (λh6=>?_) (λh6=>?_)
   ·try simp only[bz0,bz1,bz2,bz3,bz4,bz5,bz6,bz7,bz8,bz9,bza] at h6
    refine Tm.atStr (by first|assumption|omega) (by first|assumption|omega) (λb7 hb8=>?_)
    try rw[Z9 (x:=(b7.toNat:Int)) (by omega) (by omega)]
    refine YT.tm (λi hi=>hi.1) (YT.T) (λy10 hy9=>?_)
    refine Tm.ite (λh11=>?_) (λh11=>?_)
    ·try simp only[bz0,bz1,bz2,bz3,bz4,bz5,bz6,bz7,bz8,bz9,bza] at h11
     refine Tm.atStr (by first|assumption|omega) (by first|assumption|omega) (λb12 hb13=>?_)
     refine Tm.ite (λh14=>?_) (λh14=>?_)
     ·try simp only[bz0,bz1,bz2,bz3,bz4,bz5,bz6,bz7,bz8,bz9,bza] at h14
      exact Tm.ret (by trivial)
     ·try simp only[bz0,bz1,bz2,bz3,bz4,bz5,bz6,bz7,bz8,bz9,bza] at h14
      try rw[Z9 (x:=i+1) (by omega) (by omega)]
      exact hL _ (by(try simp only[]);omega) (by(try simp only[]);omega)
    ·try simp only[bz0,bz1,bz2,bz3,bz4,bz5,bz6,bz7,bz8,bz9,bza] at h11
     have z15:=hy9 h11
     try rw[Z9 (x:=i+1) (by omega) (by omega)]
     exact hL _ (by(try simp only[]);omega) (by(try simp only[]);omega)
   ·try simp only[bz0,bz1,bz2,bz3,bz4,bz5,bz6,bz7,bz8,bz9,bza] at h6
    have z16:=hy4 h6
    try rw[Z9 (x:=i+1) (by omega) (by omega)]
    exact hL _ (by(try simp only[]);omega) (by(try simp only[]);omega)
  ·try simp only[bz0,bz1,bz2,bz3,bz4,bz5,bz6,bz7,bz8,bz9,bza] at h1
   refine YT.tm (λi hi=>hi.1) (YT.T) (λy18 hy17=>?_)
   refine Tm.ite (λh19=>?_) (λh19=>?_)
   ·try simp only[bz0,bz1,bz2,bz3,bz4,bz5,bz6,bz7,bz8,bz9,bza] at h19
    have z20:=hy17 h19
    refine Tm.atStr (by first|assumption|omega) (by first|assumption|omega) (λb21 hb22=>?_)
    refine Tm.ite (λh23=>?_) (λh23=>?_)
    ·try simp only[bz0,bz1,bz2,bz3,bz4,bz5,bz6,bz7,bz8,bz9,bza] at h23
     try rw[Z9 (x:=(a0.size:Int)-1) (by omega) (by omega)]
     refine Tm.atStr (by first|assumption|omega) (by first|assumption|omega) (λb24 hb25=>?_)
     exact Tm.ret (by trivial)
    ·try simp only[bz0,bz1,bz2,bz3,bz4,bz5,bz6,bz7,bz8,bz9,bza] at h23
     exact Tm.ret (by trivial)
   ·try simp only[bz0,bz1,bz2,bz3,bz4,bz5,bz6,bz7,bz8,bz9,bza] at h19
    exact Tm.ret (by trivial)
noncomputable def Yp.v (a0:BA):Bool:=(Yp.t big a0).getD default
theorem Yp.tv {a0:BA} (ga0:a0.size<=lim) {k:Nat} (hk:Fuel k):Yp.t k a0=some (Yp.v a0):=(Yp.T ga0).val hk
theorem Yp.fv {a0:BA} (ga0:a0.size<=lim) {k:Nat} (hk:Fuel k) {β:Type} (K:Bool->Option β):Yp.f k a0 K=K (Yp.v a0):=Yp.f_of (Yp.tv ga0 hk) K
noncomputable def namesB (xs:LD):Bool:=(List.range xs.length).all λi=>Yp.v (gS xs (i:Int) 0)&&(!decide ((i:Int)>0)||strLt (gS xs ((i:Int)-1) 0) (gS xs (i:Int) 0))
theorem Y8.f_of {β:Type} {k aC aB aD aA aI z0} (h:Y8.t k aC aB aD aA aI=some z0) (K:Bool->Option β):Y8.f k aC aB aD aA aI K=K z0:=by unfold Y8.f;rw[h];rfl
theorem YA.f_of {β:Type} {k aC aB aD aA aI a1 z0} (h:YA.t k aC aB aD aA aI a1=some z0) (K:Int->Option β):YA.f k aC aB aD aA aI a1 K=K z0:=by unfold YA.f YA.w;rw[h];rfl
theorem YA.tm {ι α:Type} {ok:ι->Prop} {ψ:α->Prop} {p:ι->Nat} {B:Nat} (hp:∀ i,ok i->B<=p i) {aC aB aD aA aI a1 φ} (h:Tm (λk=>B<=k) (λk=>YA.t k aC aB aD aA aI a1) φ) {G:ι->Int->Option α} (hG:∀ z0,φ z0->Tm ok (λi=>G i z0) ψ):Tm ok (λi=>YA.f (p i) aC aB aD aA aI a1 (G i)) ψ:=bd1_tm (t:=λk=>YA.t k aC aB aD aA aI a1) hp h hG
set_option maxRecDepth 100000 in
theorem l4Keys_fv {c0:Int} {c1:BA} {c2:Int} {c3 c4:LD} (g:ZB RS lim c3) {k:Nat} (hk:Fuel k) {β:Type} (K:Bool->Option β):Y8.f k c0 c1 c2 c3 c4 K=K (namesB c3&&(c3.length:Int)==(c4.length:Int)):=Y8.f_of (by
 have hl:=g.1
 have hlim:lim=1048576:=rfl
 have hb:big=2^64:=rfl
 unfold Y8.t Y8.g
 rw[iter_all0 (n:=c3.length) (λi=>Yp.v (gS c3 (i:Int) 0)&&(!decide ((i:Int)>0)||strLt (gS c3 ((i:Int)-1) 0) (gS c3 (i:Int) 0))) (r1:=some false) (r2:=some ((c3.length:Int)==(c4.length:Int))) (by unfold Fuel at hk;omega)]
 ·unfold namesB
  generalize List.all _ _=x
  cases x<;>rfl
 ·intro L i hi
  have k0:=(RS.get g (v:=(i:Int)) (by omega) (by omega)).2.1
  simp(disch:=omega) only[Y8.l0,atR,rdQ,Q.ask,ZY (show(i:Int)<c3.length by omega),cond_true,RS.row g,Z4,ZaQ,Zan,Yp.fv k0 hk,Z9]
  by_cases h0:(i:Int)>0
  ·simp(disch:=omega) only[ZY h0,cond_true,RS.row g,Z4,ZaQ,Zan]
   cases Yp.v (gS c3 (i:Int) 0)<;>cases strLt (gS c3 ((i:Int)-1) 0) (gS c3 (i:Int) 0)<;>rfl
  ·simp only[ZZ h0,cond_false]
   cases Yp.v (gS c3 (i:Int) 0)<;>rfl
 ·intro L
  simp[Y8.l0,atR,rdQ,Q.ask]) K
def bareText:BA:=(⟨#[]⟩:BA)
noncomputable def Ya2 (kind:Int) (text:BA) (num:Int) (keys kids:LD):Bool:=
 bif kind==1 then(keys.length:Int)==0&&((kids.length:Int)==0&&(num==0&&(textB text&&decide ((text.size:Int)<=100))))
 else bif kind==2 then(keys.length:Int)==0&&((kids.length:Int)==0&&Zae text bareText)
 else bif kind==3 then(keys.length:Int)==0&&((kids.length:Int)==0&&(Zae text bareText&&inB num 0 1))
 else bif kind==4 then(keys.length:Int)==0&&(Zae text bareText&&num==0)
 else bif kind==5 then(namesB keys&&(keys.length:Int)==(kids.length:Int))&&(Zae text bareText&&num==0)
 else false
def sumL (f:List D->Int):LD->Int->Int
 |[],n=>n
 |r::rs,n=>if f r=0\/n+f r>300 then 0 else sumL f rs (n+f r)
noncomputable def YaT:Nat->List D->Int
 |0,_=>0
 |d+1,r=>bif sumL (YaT d) (rL r 4) 1==0 then 0 else bif Ya2 (rI r 0) (rS r 1) (rI r 2) (rL r 3) (rL r 4) then sumL (YaT d) (rL r 4) 1 else 0
theorem sumL_range {f:List D->Int} (hf:∀ r,0<=f r):∀ {rs:LD} {n:Int},1<=n->n<=300->0<=sumL f rs n/\sumL f rs n<=300/\(sumL f rs n≠0->n+rs.length<=300)
 |[],n,h,h'=>by simp only[sumL,List.length_nil];omega
 |r::rs,n,h,h'=>by
  have:=hf r
  simp only[sumL]
  split
  ·omega
  ·have:=sumL_range hf (rs:=rs) (n:=n+f r) (by omega) (by omega)
   simp only[List.length_cons]
   omega
theorem Ya7:∀ (d:Nat) (r:List D),0<=YaT d r/\YaT d r<=300
 |0,r=>by simp[YaT]
 |d+1,r=>by
  have:=sumL_range (f:=YaT d) (λr=>(Ya7 d r).1) (rs:=rL r 4) (n:=1) (by omega) (by omega)
  simp only[YaT]
  generalize sumL (YaT d) (rL r 4) 1=n at *
  cases n==0<;>cases Ya2 (rI r 0) (rS r 1) (rI r 2) (rL r 3) (rL r 4)<;>simp<;>omega
set_option maxRecDepth 100000 in
theorem look_t (d:Nat):∀ {c0:Int} {c1:BA} {c2:Int} {c3 c4:LD},c1.size<=lim->ZB RS lim c3->ZB Yo lim c4->d<=6->∀ {k:Nat},big+d+1<=k->YA.t k c0 c1 c2 c3 c4 (d:Int)=some (YaT d [.int .i64 c0,.str c1,.int .i64 c2,.sl c3,.sl c4]):=by
 have hlim:lim=1048576:=rfl
 have hb:big=2^64:=rfl
 induction d with
 |zero=>
  intro c0 c1 c2 c3 c4 g1 g3 g4 hd k hk
  cases k with
  |zero=>omega
  |succ k=>rfl
 |succ d ih=>
  intro c0 c1 c2 c3 c4 g1 g3 g4 hd k hk
  cases k with
  |zero=>omega
  |succ k=>
  have hl:=g4.1
  have hk0:Fuel k:=by unfold Fuel;omega
  rw[YA.t_succ]
  unfold YA.g YA.body
  rw[show(((d+1:Nat):Int)==0)=false by rw[beq_eq_false_iff_ne];omega,cond_false]
  have key:=iter_val (b:=YA.l0 k (YA.f k) ((d+1:Nat):Int) c0 c1 c2 c3 c4 λz0=>some z0) (λv=>((c4.length:Int)-v.2).toNat) (λv=>0<=v.2/\v.2<=c4.length/\1<=v.1/\v.1<=300)
   (λv=>bif sumL (YaT d) (c4.drop v.2.toNat) v.1==0 then some 0 else bif Ya2 c0 c1 c2 c3 c4 then some (sumL (YaT d) (c4.drop v.2.toNat) v.1) else some 0) ?_ k (1,0) (by simp only[];omega) (by simp only[];omega)
  ·rw[key]
   simp only[YaT]
   show(bif sumL (YaT d) (List.drop 0 c4) 1==0 then some 0 else bif Ya2 c0 c1 c2 c3 c4 then some (sumL (YaT d) (List.drop 0 c4) 1) else some 0)=some (bif sumL (YaT d) c4 1==0 then 0 else bif Ya2 c0 c1 c2 c3 c4 then sumL (YaT d) c4 1 else 0)
   rw[List.drop_zero]
   cases sumL (YaT d) c4 1==0<;>cases Ya2 c0 c1 c2 c3 c4<;>rfl
  ·rintro⟨n,i⟩ ⟨i0,i1,n0,n1⟩ L hL
   simp only[] at i0 i1 n0 n1 hL⊢
   by_cases hi:i<c4.length
   ·have hg:=Yo.get g4 i0 hi
    have hr:=Ya7 d (gR c4 i)
    have ih':=ih (c0:=gI c4 i 0) (c2:=gI c4 i 2) hg.2.2.1 hg.2.2.2.2.1 hg.2.2.2.2.2.1 (by omega) (k:=k) (by omega)
    rw[<- hg.1] at ih'
    simp(disch:=omega) only[YA.l0,atR,rdQ,Q.ask,ZY hi,cond_true,Yo.row g4,Z4,ZaQ,Z5,Zbl,Zan,Z9,show((d+1:Nat):Int)-1=(d:Int) by omega]
    rw[YA.f_of ih',drop_gR i0 hi]
    simp only[sumL]
    by_cases hz:YaT d (gR c4 i)=0
    ·rw[hz]
     simp
    ·rw[show(YaT d (gR c4 i)==0)=false by rw[beq_eq_false_iff_ne];exact hz,cond_false,Z9 (by omega) (by omega)]
     by_cases hn:n+YaT d (gR c4 i)>300
     ·rw[ZY hn,if_pos (.inr hn)]
      rfl
     ·rw[ZZ hn,if_neg (by omega),cond_false,hL _ ⟨by simp only[];omega,by simp only[];omega,by simp only[];omega,by simp only[];omega⟩ (by simp only[];omega)]
   ·rw[drop_end (by omega)]
    simp only[YA.l0,atR,rdQ,Q.ask,ZZ hi,cond_false,sumL,l4Keys_fv g3 hk0,l1In_fv,l4Text_fv g1 hk0]
    rw[show(n==0)=false by rw[beq_eq_false_iff_ne];omega,cond_false]
    unfold Ya2
    generalize(textB c1&&decide ((c1.size:Int)<=100))=b1
    generalize hb2:Zae c1 (⟨#[]⟩:BA)=b2
    have hb3:Zae c1 bareText=b2:=hb2
    rw[hb3]
    generalize namesB c3=b3
    generalize inB c2 0 1=b4
    generalize(c2==0)=b5
    generalize((c4.length:Int)==0)=b6
    generalize((c3.length:Int)==(c4.length:Int))=b7
    generalize((c3.length:Int)==0)=b8
    rcases ZaM c0 with rfl|rfl|rfl|rfl|rfl|⟨e1,e2,e3,e4,e5⟩
    ·cases b1<;>cases b5<;>cases b6<;>cases b8<;>rfl
    ·cases b2<;>cases b6<;>cases b8<;>rfl
    ·cases b2<;>cases b4<;>cases b6<;>cases b8<;>rfl
    ·cases b2<;>cases b5<;>cases b8<;>rfl
    ·cases b2<;>cases b3<;>cases b5<;>cases b7<;>cases b8<;>rfl
    ·cases b8<;>simp only[e1,e2,e3,e4,e5,cond_false,cond_true]
theorem look_fv {d c0:Int} {c1:BA} {c2:Int} {c3 c4:LD} (hd0:0<=d) (hd:d<=6) (g1:c1.size<=lim) (g3:ZB RS lim c3) (g4:ZB Yo lim c4) {k:Nat} (hk:Zai 1 k) {β:Type} (K:Int->Option β):YA.f k c0 c1 c2 c3 c4 d K=K (YaT d.toNat [.int .i64 c0,.str c1,.int .i64 c2,.sl c3,.sl c4]):=by
 have hb:big=2^64:=rfl
 have h1:lv 1=2^65:=rfl
 obtain⟨n,rfl⟩:∃ n:Nat,d=n:=⟨d.toNat,by omega⟩
 exact YA.f_of (look_t n g1 g3 g4 (by omega) (by unfold Zai at hk;omega)) K
theorem YA.T {aC:Int} {aB:BA} {aD:Int} {aA aI:LD} {a1:Int} (h0:0<=a1) (h1:a1<=6) (g1:aB.size<=lim) (g3:ZB RS lim aA) (g4:ZB Yo lim aI):Tm (Zai 1) (λk=>YA.t k aC aB aD aA aI a1) (λ_=>True):=by
 have hb:big=2^64:=rfl
 have h2:lv 1=2^65:=rfl
 obtain⟨n,rfl⟩:∃ n:Nat,a1=n:=⟨a1.toNat,by omega⟩
 exact Tm.of (λk hk=>look_t n g1 g3 g4 (by omega) (by omega)) trivial
theorem YC.f_of {β:Type} {k aC aB aD aA aI z0} (h:YC.t k aC aB aD aA aI=some z0) (K:Bool->Option β):YC.f k aC aB aD aA aI K=K z0:=by unfold YC.f;rw[h];rfl
theorem YC.tm {ι α:Type} {ok:ι->Prop} {ψ:α->Prop} {p:ι->Nat} {B:Nat} (hp:∀ i,ok i->B<=p i) {aC aB aD aA aI φ} (h:Tm (λk=>B<=k) (λk=>YC.t k aC aB aD aA aI) φ) {G:ι->Bool->Option α} (hG:∀ z0,φ z0->Tm ok (λi=>G i z0) ψ):Tm ok (λi=>YC.f (p i) aC aB aD aA aI (G i)) ψ:=bd1_tm (t:=λk=>YC.t k aC aB aD aA aI) hp h hG
theorem YC.T {aC:Int} {aB:BA} {aD:Int} {aA aI:LD} (ga0_1:aB.size<=lim) (ga0_3:ZB RS lim aA) (ga0_4:ZB Yo lim aI):Tm (Zai 1) (λk=>YC.t k aC aB aD aA aI) (λ_=>True):=by
 unfold YC.t YC.g
 have hm:=maxLen_eq
 have hlim:lim=1048576:=rfl
 have la0_3:=ga0_3.1
 have la0_4:=ga0_4.1
 refine YA.tm (λi hi=>hi) (YA.T (by first|assumption|omega) (by first|assumption|omega) (by first|assumption|omega) (by first|assumption|omega) (by first|assumption|omega)) (λy2 hy1=>?_)
 exact Tm.ret (by trivial)
noncomputable def YC.v (aC:Int) (aB:BA) (aD:Int) (aA aI:LD):Bool:=(YC.t (lv 1) aC aB aD aA aI).getD default
theorem YC.tv {aC:Int} {aB:BA} {aD:Int} {aA aI:LD} (ga0_1:aB.size<=lim) (ga0_3:ZB RS lim aA) (ga0_4:ZB Yo lim aI) {k:Nat} (hk:(Zai 1) k):YC.t k aC aB aD aA aI=some (YC.v aC aB aD aA aI):=(YC.T ga0_1 ga0_3 ga0_4).val hk
theorem YC.fv {aC:Int} {aB:BA} {aD:Int} {aA aI:LD} (ga0_1:aB.size<=lim) (ga0_3:ZB RS lim aA) (ga0_4:ZB Yo lim aI) {k:Nat} (hk:(Zai 1) k) {β:Type} (K:Bool->Option β):YC.f k aC aB aD aA aI K=K (YC.v aC aB aD aA aI):=YC.f_of (YC.tv ga0_1 ga0_3 ga0_4 hk) K
theorem Yz.f_of {β:Type} {k a0 z0} (h:Yz.t k a0=some z0) (K:Bool->Option β):Yz.f k a0 K=K z0:=by unfold Yz.f;rw[h];rfl
theorem Yz.tm {ι α:Type} {ok:ι->Prop} {ψ:α->Prop} {p:ι->Nat} {B:Nat} (hp:∀ i,ok i->B<=p i) {a0 φ} (h:Tm (λk=>B<=k) (λk=>Yz.t k a0) φ) {G:ι->Bool->Option α} (hG:∀ z0,φ z0->Tm ok (λi=>G i z0) ψ):Tm ok (λi=>Yz.f (p i) a0 (G i)) ψ:=bd1_tm (t:=λk=>Yz.t k a0) hp h hG
set_option maxRecDepth 100000 in
theorem Yz.T {a0:LD} (ga0:ZB RS lim a0):Tm Fuel (λk=>Yz.t k a0) (λ_=>True):=by
 unfold Yz.t Yz.g
 have hm:=maxLen_eq
 have hlim:lim=1048576:=rfl
 have la0:=ga0.1
 refine Tm.loop (okk:=Fuel) (p:=λk=>k) (λi hi=>hi) (b:=λk=>Yz.l0 k a0 (λz0=>some z0)) (λi=>(((a0.length:Int))-i).toNat) (λi=>0<=i/\i<=(a0.length:Int)) ?_ ?_ ?_
 ·rintro i hI
  try simp only[] at hI⊢
  have:big=2^64:=rfl
  omega
 ·((try simp only[]);omega)
 ·rintro i hI L hL
  try simp only[] at hI
  obtain⟨i0,i1⟩:=hI
  simp only[Yz.l0,atR,rdQ,Q.ask]
  refine Tm.ite (λh1=>?_) (λh1=>?_)
  ·try simp only[bz0,bz1,bz2,bz3,bz4,bz5,bz6,bz7,bz8,bz9,bza] at h1
   refine Tm.atRow (by first|assumption|omega) (by first|assumption|omega) (λx2 hx3 hm4=>?_)
   obtain⟨c5,rfl,g6,_⟩:=(ga0.2 x2 hm4).open
   refine Tm.uncons ?_
   refine Tm.dStr ?_
   refine Tm.atEnd ?_
   refine Yp.tm (λi hi=>hi.1) (Yp.T (by first|assumption|omega)) (λy8 hy7=>?_)
   refine Tm.ite (λh9=>?_) (λh9=>?_)
   ·try simp only[bz0,bz1,bz2,bz3,bz4,bz5,bz6,bz7,bz8,bz9,bza] at h9
    exact Tm.ret (by trivial)
   ·try simp only[bz0,bz1,bz2,bz3,bz4,bz5,bz6,bz7,bz8,bz9,bza] at h9
    refine Tm.ite (λh10=>?_) (λh10=>?_)
    ·try simp only[bz0,bz1,bz2,bz3,bz4,bz5,bz6,bz7,bz8,bz9,bza] at h10
     try rw[Z9 (x:=i-1) (by omega) (by omega)]
     refine Tm.atRow (by first|assumption|omega) (by first|assumption|omega) (λx11 hx12 hm13=>?_)
     obtain⟨c14,rfl,g15,_⟩:=(ga0.2 x11 hm13).open
     refine Tm.uncons ?_
     refine Tm.dStr ?_
     refine Tm.atEnd ?_
     refine Tm.atRow (by first|assumption|omega) (by first|assumption|omega) (λx16 hx17 hm18=>?_)
     rw[hx3] at hx17
     injection hx17 with hx17
     subst hx17
     refine Tm.uncons ?_
     refine Tm.dStr ?_
     refine Tm.atEnd ?_
     refine Tm.ite (λh20=>?_) (λh20=>?_)
     ·try simp only[bz0,bz1,bz2,bz3,bz4,bz5,bz6,bz7,bz8,bz9,bza] at h20
      exact Tm.ret (by trivial)
     ·try simp only[bz0,bz1,bz2,bz3,bz4,bz5,bz6,bz7,bz8,bz9,bza] at h20
      try rw[Z9 (x:=i+1) (by omega) (by omega)]
      exact hL _ (by(try simp only[]);omega) (by(try simp only[]);omega)
    ·try simp only[bz0,bz1,bz2,bz3,bz4,bz5,bz6,bz7,bz8,bz9,bza] at h10
     try rw[Z9 (x:=i+1) (by omega) (by omega)]
     exact hL _ (by(try simp only[]);omega) (by(try simp only[]);omega)
  ·try simp only[bz0,bz1,bz2,bz3,bz4,bz5,bz6,bz7,bz8,bz9,bza] at h1
   exact Tm.ret (by trivial)
noncomputable def Yz.v (a0:LD):Bool:=(Yz.t big a0).getD default
theorem Yz.tv {a0:LD} (ga0:ZB RS lim a0) {k:Nat} (hk:Fuel k):Yz.t k a0=some (Yz.v a0):=(Yz.T ga0).val hk
theorem Yz.fv {a0:LD} (ga0:ZB RS lim a0) {k:Nat} (hk:Fuel k) {β:Type} (K:Bool->Option β):Yz.f k a0 K=K (Yz.v a0):=Yz.f_of (Yz.tv ga0 hk) K
theorem Yas.f_of {β:Type} {k aC aB aD aA aI bE aW bB aR bC aT aY bA aU bD aV aZ a1 a2 a3 z0} (h:Yas.t k aC aB aD aA aI bE aW bB aR bC aT aY bA aU bD aV aZ a1 a2 a3=some z0) (K:Bool->Option β):Yas.f k aC aB aD aA aI bE aW bB aR bC aT aY bA aU bD aV aZ a1 a2 a3 K=K z0:=by unfold Yas.f;rw[h];rfl
theorem Yas.tm {ι α:Type} {ok:ι->Prop} {ψ:α->Prop} {p:ι->Nat} {B:Nat} (hp:∀ i,ok i->B<=p i) {aC aB aD aA aI bE aW bB aR bC aT aY bA aU bD aV aZ a1 a2 a3 φ} (h:Tm (λk=>B<=k) (λk=>Yas.t k aC aB aD aA aI bE aW bB aR bC aT aY bA aU bD aV aZ a1 a2 a3) φ) {G:ι->Bool->Option α} (hG:∀ z0,φ z0->Tm ok (λi=>G i z0) ψ):Tm ok (λi=>Yas.f (p i) aC aB aD aA aI bE aW bB aR bC aT aY bA aU bD aV aZ a1 a2 a3 (G i)) ψ:=bd1_tm (t:=λk=>Yas.t k aC aB aD aA aI bE aW bB aR bC aT aY bA aU bD aV aZ a1 a2 a3) hp h hG
theorem Yas.T {aC:Int} {aB:BA} {aD aA aI:Int} {bE:Bool} {aW:LD} {bB:Int} {aR:BA} {bC:Int} {aT aY:LD} {bA:Int} {aU:BA} {bD:Int} {aV aZ:LD} {a1 a2:Int} {a3:Bool} (ga0_1:aB.size<=lim) (ga0_6:ZB RS lim aW) (ga0_8:aR.size<=lim) (ga0_10:ZB RS lim aT) (ga0_11:ZB Yo lim aY) (ga0_13:aU.size<=lim) (ga0_15:ZB RS lim aV) (ga0_16:ZB Yo lim aZ):Tm (Zai 1) (λk=>Yas.t k aC aB aD aA aI bE aW bB aR bC aT aY bA aU bD aV aZ a1 a2 a3) (λ_=>True):=by
 unfold Yas.t Yas.g
 have hm:=maxLen_eq
 have hlim:lim=1048576:=rfl
 have la0_6:=ga0_6.1
 have la0_10:=ga0_10.1
 have la0_11:=ga0_11.1
 have la0_15:=ga0_15.1
 have la0_16:=ga0_16.1
 refine YT.tm (λi hi=>up0 hi) (YT.T) (λy2 hy1=>?_)
 refine Tm.ite (λh3=>?_) (λh3=>?_)
 ·try simp only[bz0,bz1,bz2,bz3,bz4,bz5,bz6,bz7,bz8,bz9,bza] at h3
  have z4:=hy1 h3
  refine Yp.tm (λi hi=>up0 hi) (Yp.T (by first|assumption|omega)) (λy6 hy5=>?_)
  refine Tm.ite (λh7=>?_) (λh7=>?_)
  ·try simp only[bz0,bz1,bz2,bz3,bz4,bz5,bz6,bz7,bz8,bz9,bza] at h7
   try rw[Z9 (x:=a2-1) (by omega) (by omega)]
   refine YT.tm (λi hi=>up0 hi) (YT.T) (λy9 hy8=>?_)
   refine Tm.ite (λh10=>?_) (λh10=>?_)
   ·try simp only[bz0,bz1,bz2,bz3,bz4,bz5,bz6,bz7,bz8,bz9,bza] at h10
    have z11:=hy8 h10
    refine YT.tm (λi hi=>up0 hi) (YT.T) (λy13 hy12=>?_)
    refine Tm.ite (λh14=>?_) (λh14=>?_)
    ·try simp only[bz0,bz1,bz2,bz3,bz4,bz5,bz6,bz7,bz8,bz9,bza] at h14
     have z15:=hy12 h14
     refine YT.tm (λi hi=>up0 hi) (YT.T) (λy17 hy16=>?_)
     refine Tm.ite (λh18=>?_) (λh18=>?_)
     ·try simp only[bz0,bz1,bz2,bz3,bz4,bz5,bz6,bz7,bz8,bz9,bza] at h18
      have z19:=hy16 h18
      refine Yz.tm (λi hi=>up0 hi) (Yz.T (by first|assumption|omega)) (λy21 hy20=>?_)
      refine Tm.ite (λh22=>?_) (λh22=>?_)
      ·try simp only[bz0,bz1,bz2,bz3,bz4,bz5,bz6,bz7,bz8,bz9,bza] at h22
       refine YC.tm (λi hi=>hi) (YC.T (by first|assumption|omega) (by first|assumption|omega) (by first|assumption|omega)) (λy24 hy23=>?_)
       refine Tm.ite (λh25=>?_) (λh25=>?_)
       ·try simp only[bz0,bz1,bz2,bz3,bz4,bz5,bz6,bz7,bz8,bz9,bza] at h25
        refine YC.tm (λi hi=>hi) (YC.T (by first|assumption|omega) (by first|assumption|omega) (by first|assumption|omega)) (λy27 hy26=>?_)
        refine Tm.ite (λh28=>?_) (λh28=>?_)
        ·try simp only[bz0,bz1,bz2,bz3,bz4,bz5,bz6,bz7,bz8,bz9,bza] at h28
         refine Tm.ite (λh29=>?_) (λh29=>?_)
         ·try simp only[bz0,bz1,bz2,bz3,bz4,bz5,bz6,bz7,bz8,bz9,bza] at h29
          exact Tm.ret (by trivial)
         ·try simp only[bz0,bz1,bz2,bz3,bz4,bz5,bz6,bz7,bz8,bz9,bza] at h29
          refine Tm.ite (λh30=>?_) (λh30=>?_)
          ·try simp only[bz0,bz1,bz2,bz3,bz4,bz5,bz6,bz7,bz8,bz9,bza] at h30
           exact Tm.ret (by trivial)
          ·try simp only[bz0,bz1,bz2,bz3,bz4,bz5,bz6,bz7,bz8,bz9,bza] at h30
           exact Tm.ret (by trivial)
        ·try simp only[bz0,bz1,bz2,bz3,bz4,bz5,bz6,bz7,bz8,bz9,bza] at h28
         exact Tm.ret (by trivial)
       ·try simp only[bz0,bz1,bz2,bz3,bz4,bz5,bz6,bz7,bz8,bz9,bza] at h25
        exact Tm.ret (by trivial)
      ·try simp only[bz0,bz1,bz2,bz3,bz4,bz5,bz6,bz7,bz8,bz9,bza] at h22
       exact Tm.ret (by trivial)
     ·try simp only[bz0,bz1,bz2,bz3,bz4,bz5,bz6,bz7,bz8,bz9,bza] at h18
      exact Tm.ret (by trivial)
    ·try simp only[bz0,bz1,bz2,bz3,bz4,bz5,bz6,bz7,bz8,bz9,bza] at h14
     exact Tm.ret (by trivial)
   ·try simp only[bz0,bz1,bz2,bz3,bz4,bz5,bz6,bz7,bz8,bz9,bza] at h10
    exact Tm.ret (by trivial)
  ·try simp only[bz0,bz1,bz2,bz3,bz4,bz5,bz6,bz7,bz8,bz9,bza] at h7
   exact Tm.ret (by trivial)
 ·try simp only[bz0,bz1,bz2,bz3,bz4,bz5,bz6,bz7,bz8,bz9,bza] at h3
  exact Tm.ret (by trivial)
theorem YaG.f_of {β:Type} {k aC aB aD aA aI bE aW bB aR bC aT aY bA aU bD aV aZ aM aN aO aP aQ bJ bK bL bM bN bO bP bQ bR bT bU bV z0} (h:YaG.t k aC aB aD aA aI bE aW bB aR bC aT aY bA aU bD aV aZ aM aN aO aP aQ bJ bK bL bM bN bO bP bQ bR bT bU bV=some z0) (K:Bool->Option β):YaG.f k aC aB aD aA aI bE aW bB aR bC aT aY bA aU bD aV aZ aM aN aO aP aQ bJ bK bL bM bN bO bP bQ bR bT bU bV K=K z0:=by unfold YaG.f;rw[h];rfl
theorem Yq.f_of {β:Type} {k a0 a1 a2 z0} (h:Yq.t k a0 a1 a2=some z0) (K:Bool->Option β):Yq.f k a0 a1 a2 K=K z0:=by unfold Yq.f;rw[h];rfl
theorem Yq.tm {ι α:Type} {ok:ι->Prop} {ψ:α->Prop} {p:ι->Nat} {B:Nat} (hp:∀ i,ok i->B<=p i) {a0 a1 a2 φ} (h:Tm (λk=>B<=k) (λk=>Yq.t k a0 a1 a2) φ) {G:ι->Bool->Option α} (hG:∀ z0,φ z0->Tm ok (λi=>G i z0) ψ):Tm ok (λi=>Yq.f (p i) a0 a1 a2 (G i)) ψ:=bd1_tm (t:=λk=>Yq.t k a0 a1 a2) hp h hG
noncomputable def objV (x0:Int) (x1:BA) (x2 x3 x4:Int) (x5:Bool) (x6:LD) (x7:Int) (x8:BA) (x9:Int) (x10 x11:LD) (x12:Int) (x13:BA) (x14:Int) (x15 x16:LD) (Z8 rev:Int) (gone:Bool):Bool:=
 inB x0 1 3&&(Yp.v x1&&(inB x2 1 Z8&&(inB x3 1 rev&&(inB x4 1 x3&&(Yz.v x6&&(YC.v x7 x8 x9 x10 x11&&(YC.v x12 x13 x14 x15 x16&&(gone||(!x5||decide ((x6.length:Int)>0))))))))))
theorem l7Obj_fv {x0:Int} {x1:BA} {x2 x3 x4:Int} {x5:Bool} {x6:LD} {x7:Int} {x8:BA} {x9:Int} {x10 x11:LD} {x12:Int} {x13:BA} {x14:Int} {x15 x16:LD} {rev next:Int} {gone:Bool} (g1:x1.size<=lim) (g6:ZB RS lim x6) (g8:x8.size<=lim) (g10:ZB RS lim x10) (g11:ZB Yo lim x11) (g13:x13.size<=lim) (g15:ZB RS lim x15) (g16:ZB Yo lim x16) {k:Nat} (hk:Zai 1 k) {β:Type} (K:Bool->Option β):
  Yas.f k x0 x1 x2 x3 x4 x5 x6 x7 x8 x9 x10 x11 x12 x13 x14 x15 x16 rev next gone K=K (objV x0 x1 x2 x3 x4 x5 x6 x7 x8 x9 x10 x11 x12 x13 x14 x15 x16 (IntKind.wrap .i64 (next-1)) rev gone):=Yas.f_of (by
 have hk0:Fuel k:=up0 hk
 unfold Yas.t Yas.g objV
 simp only[l1In_fv,Yp.fv g1 hk0,Yz.fv g6 hk0,YC.fv g8 g10 g11 hk,YC.fv g13 g15 g16 hk]
 generalize inB x0 1 3=b0
 generalize Yp.v x1=b1
 generalize inB x2 1 (IntKind.wrap .i64 (next-1))=b2
 generalize inB x3 1 rev=b3
 generalize inB x4 1 x3=b4
 generalize Yz.v x6=b5
 generalize YC.v x7 x8 x9 x10 x11=b6
 generalize YC.v x12 x13 x14 x15 x16=b7
 cases b0
 ·rfl
 cases b1
 ·rfl
 cases b2
 ·rfl
 cases b3
 ·rfl
 cases b4
 ·rfl
 cases b5
 ·rfl
 cases b6
 ·rfl
 cases b7
 ·rfl
 cases gone<;>cases x5<;>rfl) K
noncomputable def lessV (x0:Int) (x1:BA) (y0:Int) (y1:BA):Bool:=decide (x0<y0)||((x0==y0)&&strLt x1 y1)
theorem l7Less_fv {x0:Int} {x1:BA} {x2 x3 x4:Int} {x5:Bool} {x6:LD} {x7:Int} {x8:BA} {x9:Int} {x10 x11:LD} {x12:Int} {x13:BA} {x14:Int} {x15 x16:LD} {y0:Int} {y1:BA} {y2 y3 y4:Int} {y5:Bool} {y6:LD} {y7:Int} {y8:BA} {y9:Int} {y10 y11:LD} {y12:Int} {y13:BA} {y14:Int} {y15 y16:LD} {k:Nat} {β:Type} (K:Bool->Option β):
  YaG.f k x0 x1 x2 x3 x4 x5 x6 x7 x8 x9 x10 x11 x12 x13 x14 x15 x16 y0 y1 y2 y3 y4 y5 y6 y7 y8 y9 y10 y11 y12 y13 y14 y15 y16 K=K (lessV x0 x1 y0 y1):=YaG.f_of (by
 unfold YaG.t YaG.g lessV
 cases decide (x0<y0)<;>cases x0==y0<;>rfl) K
noncomputable def objR (a:LD) (i Z8 rev:Int):Bool:=objV (gI a i 0) (gS a i 1) (gI a i 2) (gI a i 3) (gI a i 4) (gB a i 5) (gL a i 6) (gI a i 7) (gS a i 8) (gI a i 9) (gL a i 10) (gL a i 11) (gI a i 12) (gS a i 13) (gI a i 14) (gL a i 15) (gL a i 16) Z8 rev false
noncomputable def objsP (a:LD) (Z8 rev:Int) (i:Nat):Bool:=objR a i Z8 rev&&((!decide ((i:Int)>0)||lessV (gI a ((i:Int)-1) 0) (gS a ((i:Int)-1) 1) (gI a (i:Int) 0) (gS a (i:Int) 1))&&(List.range i).all λj=>!(gI a (j:Int) 2==gI a (i:Int) 2))
noncomputable def objsB (a:LD) (Z8 rev:Int):Bool:=(List.range a.length).all (objsP a Z8 rev)&&decide ((a.length:Int)<=60)
set_option maxRecDepth 100000 in
theorem l7Objs_t {a:LD} {rev next:Int} (g:ZB Ya lim a) {k:Nat} (hk:Zai 1 k):Yq.t k a rev next=some (objsB a (IntKind.wrap .i64 (next-1)) rev):=by
 have hk0:Fuel k:=up0 hk
 have hl:=g.1
 have hlim:lim=1048576:=rfl
 have hb:big=2^64:=rfl
 unfold Yq.t Yq.g
 refine(iter_allT (λi=>(a,rev,next,(i:Int))) (n:=a.length) (objsP a (IntKind.wrap .i64 (next-1)) rev) (r1:=some false) (r2:=some (decide ((a.length:Int)<=60))) (by unfold Fuel at hk0;omega) (λL i hi=>?_) (λL=>by simp[Yq.l0,Yq.m0,atR,rdQ,Q.ask])).trans ?_
 ·obtain⟨-,-,k1,-,-,-,k6,-,k8,-,k10,k11,-,k13,-,k15,k16,-⟩:=Ya.get g (v:=(i:Int)) (by omega) (by omega)
  have hin:∀ {b:(Int->Option Bool)->Int->Option Bool},(∀ (L1:Int->Option Bool) (j:Nat),j<i->b L1 (j:Int)=bif !(gI a (j:Int) 2==gI a (i:Int) 2) then L1 ((j:Int)+1) else some false)->(∀ L1,b L1 (i:Int)=L (a,rev,next,((i+1:Nat):Int)))->ZA b k 0=bif(List.range i).all (λj=>!(gI a (j:Int) 2==gI a (i:Int) 2)) then L (a,rev,next,((i+1:Nat):Int)) else some false:=λq1 q2=>iter_all0 _ (by unfold Fuel at hk0;omega) q1 q2
  have e1:ZA (Yq.l1 k a rev next (i:Int) L some) k 0=bif(List.range i).all (λj=>!(gI a (j:Int) 2==gI a (i:Int) 2)) then L (a,rev,next,((i+1:Nat):Int)) else some false:=hin (λL1 j hj=>by
   simp(disch:=omega) only[Yq.l1,atR,rdQ,Q.ask,ZY (show(j:Int)<i by omega),cond_true,Ya.row g,Z4,Z5,ZaQ,ZaV,Zbl,Zan,Z9]
   cases gI a (j:Int) 2==gI a (i:Int) 2<;>rfl) (λL1=>by
   simp(disch:=omega) only[Yq.l1,atR,rdQ,Q.ask,ZZ (show ¬ (i:Int)<i by omega),cond_false,Z9]
   rfl)
  have e2:ZA (Yq.l2 k a rev next (i:Int) L some) k 0=bif(List.range i).all (λj=>!(gI a (j:Int) 2==gI a (i:Int) 2)) then L (a,rev,next,((i+1:Nat):Int)) else some false:=hin (λL1 j hj=>by
   simp(disch:=omega) only[Yq.l2,atR,rdQ,Q.ask,ZY (show(j:Int)<i by omega),cond_true,Ya.row g,Z4,Z5,ZaQ,ZaV,Zbl,Zan,Z9]
   cases gI a (j:Int) 2==gI a (i:Int) 2<;>rfl) (λL1=>by
   simp(disch:=omega) only[Yq.l2,atR,rdQ,Q.ask,ZZ (show ¬ (i:Int)<i by omega),cond_false,Z9]
   rfl)
  have e3:∀ {F:Bool->Option Bool},Yas.f k (gI a i 0) (gS a i 1) (gI a i 2) (gI a i 3) (gI a i 4) (gB a i 5) (gL a i 6) (gI a i 7) (gS a i 8) (gI a i 9) (gL a i 10) (gL a i 11) (gI a i 12) (gS a i 13) (gI a i 14) (gL a i 15) (gL a i 16) rev next false F=F (objR a i (IntKind.wrap .i64 (next-1)) rev):=l7Obj_fv k1 k6 k8 k10 k11 k13 k15 k16 hk _
  unfold objsP
  simp(disch:=omega) only[Yq.l0,Yq.m0,atR,rdQ,Q.ask,ZY (show(i:Int)<a.length by omega),cond_true,Ya.row g,Z4,Z5,ZaQ,ZaV,Zbl,Zan,e3,e1,e2]
  cases objR a (i:Int) (IntKind.wrap .i64 (next-1)) rev
  ·rfl
  by_cases h0:(i:Int)>0
  ·simp(disch:=omega) only[ZY h0,cond_true,Z9,Ya.row g,Z4,Z5,ZaQ,ZaV,Zbl,Zan,l7Less_fv,Bool.not_true,cond_false]
   cases lessV (gI a ((i:Int)-1) 0) (gS a ((i:Int)-1) 1) (gI a (i:Int) 0) (gS a (i:Int) 1)<;>rfl
  ·simp only[ZZ h0,cond_false,Bool.not_true,Bool.not_false,Bool.true_or,Bool.true_and]
 ·unfold objsB
  cases(List.range a.length).all (objsP a (IntKind.wrap .i64 (next-1)) rev)<;>rfl
theorem l7Objs_fv {a:LD} {rev next:Int} (g:ZB Ya lim a) {k:Nat} (hk:Zai 1 k) {β:Type} (K:Bool->Option β):Yq.f k a rev next K=K (objsB a (IntKind.wrap .i64 (next-1)) rev):=Yq.f_of (l7Objs_t g hk) K
theorem Yq.T {a0:LD} {a1 a2:Int} (g:ZB Ya lim a0):Tm (Zai 1) (λk=>Yq.t k a0 a1 a2) (λ_=>True):=Tm.of (v:=objsB a0 (IntKind.wrap .i64 (a2-1)) a1) (λk hk=>l7Objs_t g hk) trivial
theorem bl_step (x y:UInt8) (xs ys:List UInt8):Op.bytesLess (x::xs) (y::ys)=true↔x.toNat<y.toNat\/(x=y/\Op.bytesLess xs ys=true):=by
 rw[show Op.bytesLess (x::xs) (y::ys)=(decide (x<y)||(x==y&&Op.bytesLess xs ys)) by simp only[Op.bytesLess]]
 by_cases h:x<y
 ·have:x.toNat<y.toNat:=UInt8.lt_iff_toNat_lt.mp h
  simp[h,this]
 ·have hn:¬ x.toNat<y.toNat:=λq=>h (UInt8.lt_iff_toNat_lt.mpr q)
  by_cases e:x=y
  ·subst e;simp[h]
  ·have h2:y<x:=by
    refine UInt8.lt_iff_toNat_lt.mpr ?_
    have:x.toNat≠y.toNat:=λq=>e (UInt8.toNat_inj.mp q)
    omega
   simp[h,hn,e,h2]
theorem bl_trans:∀ {x y z:List UInt8},Op.bytesLess x y=true->Op.bytesLess y z=true->Op.bytesLess x z=true
 |[],[],z,h,_=>by simp[Op.bytesLess] at h
 |[],_::_,[],_,h=>by simp[Op.bytesLess] at h
 |[],_::_,_::_,_,_=>by simp[Op.bytesLess]
 |_::_,[],_,h,_=>by simp[Op.bytesLess] at h
 |_::_,_::_,[],_,h=>by simp[Op.bytesLess] at h
 |x::xs,y::ys,z::zs,h1,h2=>by
  rw[bl_step] at h1 h2⊢
  rcases h1 with h1|⟨rfl,h1⟩<;>rcases h2 with h2|⟨rfl,h2⟩
  ·exact .inl (by omega)
  ·exact .inl h1
  ·exact .inl h2
  ·exact .inr ⟨rfl,bl_trans h1 h2⟩
theorem bl_irr:∀ x:List UInt8,Op.bytesLess x x=false
 |[]=>by simp[Op.bytesLess]
 |x::xs=>by
  cases h:Op.bytesLess (x::xs) (x::xs)
  ·rfl
  ·rw[bl_step] at h
   rcases h with h|⟨_,h⟩
   ·omega
   ·rw[bl_irr xs] at h;cases h
theorem bl_tri:∀ {x y:List UInt8},Op.bytesLess x y=false->x≠y->Op.bytesLess y x=true
 |[],[],_,h=>absurd rfl h
 |[],_::_,h,_=>by simp[Op.bytesLess] at h
 |_::_,[],_,_=>by simp[Op.bytesLess]
 |x::xs,y::ys,h,hne=>by
  rw[bl_step]
  have h':¬ (x.toNat<y.toNat\/(x=y/\Op.bytesLess xs ys=true)):=λq=>by rw[(bl_step x y xs ys).mpr q] at h;cases h
  by_cases e:x=y
  ·subst e
   refine .inr ⟨rfl,bl_tri ?_ λq=>hne (by rw[q])⟩
   cases q:Op.bytesLess xs ys
   ·rfl
   ·exact absurd (.inr ⟨rfl,q⟩) h'
  ·have:x.toNat≠y.toNat:=λq=>e (UInt8.toNat_inj.mp q)
   exact .inl (by have:=λq=>h' (.inl q);omega)
theorem strEq_iff2 {a b:BA}:Zae a b=true↔a.toList=b.toList:=by unfold Zae;exact beq_iff_eq
noncomputable def Yaj (x y:List D):Bool:=lessV (rI x 0) (rS x 1) (rI y 0) (rS y 1)
def YaQ (x y:List D):Bool:=(rI x 0==rI y 0)&&Zae (rS x 1) (rS y 1)
theorem YaZ {x y:List D}:Yaj x y=true↔rI x 0<rI y 0\/(rI x 0=rI y 0/\Op.bytesLess (rS x 1).toList (rS y 1).toList=true):=by
 unfold Yaj lessV strLt
 simp
theorem sameR_iff {x y:List D}:YaQ x y=true↔rI x 0=rI y 0/\(rS x 1).toList=(rS y 1).toList:=by
 unfold YaQ
 rw[Bool.and_eq_true,beq_iff_eq,strEq_iff2]
theorem Ya0:Ordered Yaj YaQ where
 irr x y h:=by
  obtain⟨h1,h2⟩:=sameR_iff.mp h
  cases q:Yaj x y
  ·rfl
  ·rcases YaZ.mp q with z|⟨_,z⟩
   ·omega
   ·rw[h2,bl_irr] at z;cases z
 tri x y h1 h2:=by
  have h1':¬ (rI x 0<rI y 0\/(rI x 0=rI y 0/\Op.bytesLess (rS x 1).toList (rS y 1).toList=true)):=λq=>by rw[YaZ.mpr q] at h1;cases h1
  have h2':¬ (rI x 0=rI y 0/\(rS x 1).toList=(rS y 1).toList):=λq=>by rw[sameR_iff.mpr q] at h2;cases h2
  refine YaZ.mpr ?_
  by_cases e:rI x 0=rI y 0
  ·refine .inr ⟨e.symm,bl_tri ?_ λq=>h2' ⟨e,q⟩⟩
   cases q:Op.bytesLess (rS x 1).toList (rS y 1).toList
   ·rfl
   ·exact absurd (.inr ⟨e,q⟩) h1'
  ·exact .inl (by have:=λq=>h1' (.inl q);omega)
 asym x y h:=by
  cases q:Yaj y x
  ·rfl
  ·rcases YaZ.mp h with z|⟨z1,z2⟩<;>rcases YaZ.mp q with u|⟨u1,u2⟩
   ·omega
   ·omega
   ·omega
   ·have:=bl_trans z2 u2
    rw[bl_irr] at this;cases this
 trans x y z h1 h2:=by
  refine YaZ.mpr ?_
  rcases YaZ.mp h1 with z1|⟨z1,z2⟩<;>rcases YaZ.mp h2 with u|⟨u1,u2⟩
  ·exact .inl (by omega)
  ·exact .inl (by omega)
  ·exact .inl (by omega)
  ·exact .inr ⟨by omega,bl_trans z2 u2⟩
 cong x y z h1 h2:=by
  obtain⟨a1,a2⟩:=sameR_iff.mp h1
  refine YaZ.mpr ?_
  rcases YaZ.mp h2 with u|⟨u1,u2⟩
  ·exact .inl (by omega)
  ·exact .inr ⟨by omega,by rw[a2];exact u2⟩
 sym x y h:=by
  obtain⟨a1,a2⟩:=sameR_iff.mp h
  exact sameR_iff.mpr ⟨a1.symm,a2.symm⟩
theorem Yv.f_of {β:Type} {k aC aB aD aA z0} (h:Yv.t k aC aB aD aA=some z0) (K:Bool->Option β):Yv.f k aC aB aD aA K=K z0:=by unfold Yv.f;rw[h];rfl
theorem Yv.tm {ι α:Type} {ok:ι->Prop} {ψ:α->Prop} {p:ι->Nat} {B:Nat} (hp:∀ i,ok i->B<=p i) {aC aB aD aA φ} (h:Tm (λk=>B<=k) (λk=>Yv.t k aC aB aD aA) φ) {G:ι->Bool->Option α} (hG:∀ z0,φ z0->Tm ok (λi=>G i z0) ψ):Tm ok (λi=>Yv.f (p i) aC aB aD aA (G i)) ψ:=bd1_tm (t:=λk=>Yv.t k aC aB aD aA) hp h hG
set_option maxRecDepth 100000 in
theorem Yv.T {aC:LD} {aB aD:Int} {aA:LD} (ga0_0:ZB Ya lim aC) (ga0_3:ZB Yb lim aA):Tm (Zai 1) (λk=>Yv.t k aC aB aD aA) (λ_=>True):=by
 unfold Yv.t Yv.g Yv.m
 have hm:=maxLen_eq
 have hlim:lim=1048576:=rfl
 have la0_0:=ga0_0.1
 have la0_3:=ga0_3.1
 refine YT.tm (λi hi=>up0 hi) (YT.T) (λy2 hy1=>?_)
 refine Tm.ite (λh3=>?_) (λh3=>?_)
 ·try simp only[bz0,bz1,bz2,bz3,bz4,bz5,bz6,bz7,bz8,bz9,bza] at h3
  exact Tm.ret (by trivial)
 ·try simp only[bz0,bz1,bz2,bz3,bz4,bz5,bz6,bz7,bz8,bz9,bza] at h3
  have z4:=hy1 h3
  refine YT.tm (λi hi=>up0 hi) (YT.T) (λy6 hy5=>?_)
  refine Tm.ite (λh7=>?_) (λh7=>?_)
  ·try simp only[bz0,bz1,bz2,bz3,bz4,bz5,bz6,bz7,bz8,bz9,bza] at h7
   exact Tm.ret (by trivial)
  ·try simp only[bz0,bz1,bz2,bz3,bz4,bz5,bz6,bz7,bz8,bz9,bza] at h7
   have z8:=hy5 h7
   refine Tm.ite (λh9=>?_) (λh9=>?_)
   ·try simp only[bz0,bz1,bz2,bz3,bz4,bz5,bz6,bz7,bz8,bz9,bza] at h9
    exact Tm.ret (by trivial)
   ·try simp only[bz0,bz1,bz2,bz3,bz4,bz5,bz6,bz7,bz8,bz9,bza] at h9
    refine Yq.tm (λi hi=>hi) (Yq.T (by first|assumption|omega)) (λy11 hy10=>?_)
    refine Tm.ite (λh12=>?_) (λh12=>?_)
    ·try simp only[bz0,bz1,bz2,bz3,bz4,bz5,bz6,bz7,bz8,bz9,bza] at h12
     exact Tm.ret (by trivial)
    ·try simp only[bz0,bz1,bz2,bz3,bz4,bz5,bz6,bz7,bz8,bz9,bza] at h12
     refine Tm.loop (okk:=(Zai 1)) (p:=λk=>k) (λi hi=>up0 hi) (b:=λk=>Yv.l0 k aC aB aD aA (λz0=>some z0)) (λi=>(((aA.length:Int))-i).toNat) (λi=>0<=i/\i<=(aA.length:Int)) ?_ ?_ ?_
     ·rintro i hI
      try simp only[] at hI⊢
      have:big=2^64:=rfl
      omega
     ·((try simp only[]);omega)
     ·rintro i hI L hL
      try simp only[] at hI
      obtain⟨i0,i1⟩:=hI
      simp only[Yv.l0,atR,rdQ,Q.ask]
      refine Tm.ite (λh13=>?_) (λh13=>?_)
      ·try simp only[bz0,bz1,bz2,bz3,bz4,bz5,bz6,bz7,bz8,bz9,bza] at h13
       refine Tm.atRow (by first|assumption|omega) (by first|assumption|omega) (λx14 hx15 hm16=>?_)
       obtain⟨c17,c18,c19,c20,c21,c22,c23,c24,c25,c26,c27,c28,c29,c30,c31,c32,c33,c34,c35,rfl,g36,g37,g38,g39,g40,g41,g42,g43,g44,g45,g46,g47,g48,g49,g50,g51,g52,_⟩:=(ga0_3.2 x14 hm16).open
       refine Tm.uncons ?_
       refine Tm.dInt ?_
       refine Tm.uncons ?_
       refine Tm.dBool ?_
       refine Tm.uncons ?_
       refine Tm.dInt ?_
       refine Tm.uncons ?_
       refine Tm.dStr ?_
       refine Tm.uncons ?_
       refine Tm.dInt ?_
       refine Tm.uncons ?_
       refine Tm.dInt ?_
       refine Tm.uncons ?_
       refine Tm.dInt ?_
       refine Tm.uncons ?_
       refine Tm.dBool ?_
       refine Tm.uncons ?_
       refine Tm.dSl ?_
       refine Tm.uncons ?_
       refine Tm.dInt ?_
       refine Tm.uncons ?_
       refine Tm.dStr ?_
       refine Tm.uncons ?_
       refine Tm.dInt ?_
       refine Tm.uncons ?_
       refine Tm.dSl ?_
       refine Tm.uncons ?_
       refine Tm.dSl ?_
       refine Tm.uncons ?_
       refine Tm.dInt ?_
       refine Tm.uncons ?_
       refine Tm.dStr ?_
       refine Tm.uncons ?_
       refine Tm.dInt ?_
       refine Tm.uncons ?_
       refine Tm.dSl ?_
       refine Tm.uncons ?_
       refine Tm.dSl ?_
       refine Tm.atEnd ?_
       refine Yas.tm (λi hi=>hi.1) (Yas.T (by first|assumption|omega) (by first|assumption|omega) (by first|assumption|omega) (by first|assumption|omega) (by first|assumption|omega) (by first|assumption|omega) (by first|assumption|omega) (by first|assumption|omega)) (λy54 hy53=>?_)
       refine Tm.ite (λh55=>?_) (λh55=>?_)
       ·try simp only[bz0,bz1,bz2,bz3,bz4,bz5,bz6,bz7,bz8,bz9,bza] at h55
        exact Tm.ret (by trivial)
       ·try simp only[bz0,bz1,bz2,bz3,bz4,bz5,bz6,bz7,bz8,bz9,bza] at h55
        refine Tm.ite (λh56=>?_) (λh56=>?_)
        ·try simp only[bz0,bz1,bz2,bz3,bz4,bz5,bz6,bz7,bz8,bz9,bza] at h56
         exact Tm.ret (by trivial)
        ·try simp only[bz0,bz1,bz2,bz3,bz4,bz5,bz6,bz7,bz8,bz9,bza] at h56
         refine Tm.ite (λh57=>?_) (λh57=>?_)
         ·try simp only[bz0,bz1,bz2,bz3,bz4,bz5,bz6,bz7,bz8,bz9,bza] at h57
          try rw[Z9 (x:=i-1) (by omega) (by omega)]
          refine Tm.atRow (by first|assumption|omega) (by first|assumption|omega) (λx58 hx59 hm60=>?_)
          obtain⟨c61,c62,c63,c64,c65,c66,c67,c68,c69,c70,c71,c72,c73,c74,c75,c76,c77,c78,c79,rfl,g80,g81,g82,g83,g84,g85,g86,g87,g88,g89,g90,g91,g92,g93,g94,g95,g96,_⟩:=(ga0_3.2 x58 hm60).open
          refine Tm.uncons ?_
          refine Tm.dInt ?_
          refine Tm.uncons ?_
          refine Tm.dBool ?_
          refine Tm.uncons ?_
          refine Tm.dInt ?_
          refine Tm.uncons ?_
          refine Tm.dStr ?_
          refine Tm.uncons ?_
          refine Tm.dInt ?_
          refine Tm.uncons ?_
          refine Tm.dInt ?_
          refine Tm.uncons ?_
          refine Tm.dInt ?_
          refine Tm.uncons ?_
          refine Tm.dBool ?_
          refine Tm.uncons ?_
          refine Tm.dSl ?_
          refine Tm.uncons ?_
          refine Tm.dInt ?_
          refine Tm.uncons ?_
          refine Tm.dStr ?_
          refine Tm.uncons ?_
          refine Tm.dInt ?_
          refine Tm.uncons ?_
          refine Tm.dSl ?_
          refine Tm.uncons ?_
          refine Tm.dSl ?_
          refine Tm.uncons ?_
          refine Tm.dInt ?_
          refine Tm.uncons ?_
          refine Tm.dStr ?_
          refine Tm.uncons ?_
          refine Tm.dInt ?_
          refine Tm.uncons ?_
          refine Tm.dSl ?_
          refine Tm.uncons ?_
          refine Tm.dSl ?_
          refine Tm.atEnd ?_
          refine Tm.ite (λh97=>?_) (λh97=>?_)
          ·try simp only[bz0,bz1,bz2,bz3,bz4,bz5,bz6,bz7,bz8,bz9,bza] at h97
           exact Tm.ret (by trivial)
          ·try simp only[bz0,bz1,bz2,bz3,bz4,bz5,bz6,bz7,bz8,bz9,bza] at h97
           try rw[Z9 (x:=i+1) (by omega) (by omega)]
           exact hL _ (by(try simp only[]);omega) (by(try simp only[]);omega)
         ·try simp only[bz0,bz1,bz2,bz3,bz4,bz5,bz6,bz7,bz8,bz9,bza] at h57
          try rw[Z9 (x:=i+1) (by omega) (by omega)]
          exact hL _ (by(try simp only[]);omega) (by(try simp only[]);omega)
      ·try simp only[bz0,bz1,bz2,bz3,bz4,bz5,bz6,bz7,bz8,bz9,bza] at h13
       exact Tm.ret (by trivial)
noncomputable def Yv.v (aC:LD) (aB aD:Int) (aA:LD):Bool:=(Yv.t (lv 1) aC aB aD aA).getD default
theorem Yv.tv {aC:LD} {aB aD:Int} {aA:LD} (ga0_0:ZB Ya lim aC) (ga0_3:ZB Yb lim aA) {k:Nat} (hk:(Zai 1) k):Yv.t k aC aB aD aA=some (Yv.v aC aB aD aA):=(Yv.T ga0_0 ga0_3).val hk
theorem Yv.fv {aC:LD} {aB aD:Int} {aA:LD} (ga0_0:ZB Ya lim aC) (ga0_3:ZB Yb lim aA) {k:Nat} (hk:(Zai 1) k) {β:Type} (K:Bool->Option β):Yv.f k aC aB aD aA K=K (Yv.v aC aB aD aA):=Yv.f_of (Yv.tv ga0_0 ga0_3 hk) K
def sinceL (d:LD) (n:Int):LD:=d.filter λr=>!decide (rI r 0<=n)
noncomputable def sinceV (a:LD) (b c:Int) (d:LD) (n:Int):LC×Bool:=
 bif Yv.v a b c d&&inB n 0 b then(bif decide (((sinceL d n).length:Int)<IntKind.wrap .i64 (b-n)) then([],false) else(Zc (sinceL d n),true)) else([],false)
theorem sinceL_ok {d:LD} {n:Int} {B:Nat} (g:ZB Yb B d):ZB Yb B (sinceL d n):=⟨Nat.le_trans (List.length_filter_le _ _) g.1,λr hr=>g.2 r (List.mem_filter.mp hr).1⟩
theorem wt_filter (p:List D->Bool):∀ (d:LD),Zu (d.filter p)<=Zu d
 |[]=>Nat.le_refl _
 |r::d=>by
  have:=wt_filter p d
  rw[List.filter_cons]
  split
  ·simp only[Zu];omega
  ·simp only[Zu];omega
theorem YU.f_of {β:Type} {k aC aB aD aA a1 a2 a3 z0} (h:YU.t k aC aB aD aA a1 a2 a3=some z0) (K:Int->Option β):YU.f k aC aB aD aA a1 a2 a3 K=K z0:=by unfold YU.f;rw[h];rfl
theorem YU.T {aC:LD} {aB aD:Int} {aA:LD} {a1:Int} {a2:BA} {a3:Bool} (ga0_0:ZB Ya lim aC) (ga0_3:ZB Yb lim aA) (ga2:a2.size<=lim):Tm (Zai 1) (λk=>YU.t k aC aB aD aA a1 a2 a3) (λ_=>True):=by
 unfold YU.t YU.g
 have hm:=maxLen_eq
 have hlim:lim=1048576:=rfl
 have la0_0:=ga0_0.1
 have la0_3:=ga0_3.1
 refine Yv.tm (λi hi=>hi) (Yv.T (by first|assumption|omega) (by first|assumption|omega)) (λy2 hy1=>?_)
 refine Tm.ite (λh3=>?_) (λh3=>?_)
 ·try simp only[bz0,bz1,bz2,bz3,bz4,bz5,bz6,bz7,bz8,bz9,bza] at h3
  exact Tm.ret (by trivial)
 ·try simp only[bz0,bz1,bz2,bz3,bz4,bz5,bz6,bz7,bz8,bz9,bza] at h3
  refine YT.tm (λi hi=>up0 hi) (YT.T) (λy5 hy4=>?_)
  refine Tm.ite (λh6=>?_) (λh6=>?_)
  ·try simp only[bz0,bz1,bz2,bz3,bz4,bz5,bz6,bz7,bz8,bz9,bza] at h6
   exact Tm.ret (by trivial)
  ·try simp only[bz0,bz1,bz2,bz3,bz4,bz5,bz6,bz7,bz8,bz9,bza] at h6
   have z7:=hy4 h6
   refine Yp.tm (λi hi=>up0 hi) (Yp.T (by first|assumption|omega)) (λy9 hy8=>?_)
   refine Tm.ite (λh10=>?_) (λh10=>?_)
   ·try simp only[bz0,bz1,bz2,bz3,bz4,bz5,bz6,bz7,bz8,bz9,bza] at h10
    exact Tm.ret (by trivial)
   ·try simp only[bz0,bz1,bz2,bz3,bz4,bz5,bz6,bz7,bz8,bz9,bza] at h10
    refine Tm.ite (λh11=>?_) (λh11=>?_)
    ·try simp only[bz0,bz1,bz2,bz3,bz4,bz5,bz6,bz7,bz8,bz9,bza] at h11
     exact Tm.ret (by trivial)
    ·try simp only[bz0,bz1,bz2,bz3,bz4,bz5,bz6,bz7,bz8,bz9,bza] at h11
     refine Tm.ite (λh12=>?_) (λh12=>?_)
     ·try simp only[bz0,bz1,bz2,bz3,bz4,bz5,bz6,bz7,bz8,bz9,bza] at h12
      exact Tm.ret (by trivial)
     ·try simp only[bz0,bz1,bz2,bz3,bz4,bz5,bz6,bz7,bz8,bz9,bza] at h12
      refine Tm.ite (λh13=>?_) (λh13=>?_)
      ·try simp only[bz0,bz1,bz2,bz3,bz4,bz5,bz6,bz7,bz8,bz9,bza] at h13
       exact Tm.ret (by trivial)
      ·try simp only[bz0,bz1,bz2,bz3,bz4,bz5,bz6,bz7,bz8,bz9,bza] at h13
       exact Tm.ret (by trivial)
noncomputable def YU.v (aC:LD) (aB aD:Int) (aA:LD) (a1:Int) (a2:BA) (a3:Bool):Int:=(YU.t (lv 1) aC aB aD aA a1 a2 a3).getD default
theorem YU.tv {aC:LD} {aB aD:Int} {aA:LD} {a1:Int} {a2:BA} {a3:Bool} (ga0_0:ZB Ya lim aC) (ga0_3:ZB Yb lim aA) (ga2:a2.size<=lim) {k:Nat} (hk:(Zai 1) k):YU.t k aC aB aD aA a1 a2 a3=some (YU.v aC aB aD aA a1 a2 a3):=(YU.T ga0_0 ga0_3 ga2).val hk
theorem YU.fv {aC:LD} {aB aD:Int} {aA:LD} {a1:Int} {a2:BA} {a3:Bool} (ga0_0:ZB Ya lim aC) (ga0_3:ZB Yb lim aA) (ga2:a2.size<=lim) {k:Nat} (hk:(Zai 1) k) {β:Type} (K:Int->Option β):YU.f k aC aB aD aA a1 a2 a3 K=K (YU.v aC aB aD aA a1 a2 a3):=YU.f_of (YU.tv ga0_0 ga0_3 ga2 hk) K
theorem YF.f_of {β:Type} {k aC aB aD aA aI z0 z1 z2 z3 z4} (h:YF.t k aC aB aD aA aI=some (z0,z1,z2,z3,z4)) (K:Int->BA->Int->LC->LC->Option β):YF.f k aC aB aD aA aI K=K z0 z1 z2 z3 z4:=by unfold YF.f YF.w;rw[h];rfl
theorem Yai.f_of {β:Type} {k:Nat} {aC:Int} {aB:BA} {aD aA aI:Int} {bE:Bool} {aW:LD} {bB:Int} {aR:BA} {bC:Int} {aT aY:LD} {bA:Int} {aU:BA} {bD:Int} {aV aZ:LD} {z0:Int} {z1:BA} {z2 z3 z4:Int} {z5:Bool} {z6:LC} {z7:Int} {z8:BA} {z9:Int} {z10 z11:LC} {z12:Int} {z13:BA} {z14:Int} {z15 z16:LC} (h:Yai.t k aC aB aD aA aI bE aW bB aR bC aT aY bA aU bD aV aZ=some (z0,z1,z2,z3,z4,z5,z6,z7,z8,z9,z10,z11,z12,z13,z14,z15,z16)) (K:Int->BA->Int->Int->Int->Bool->LC->Int->BA->Int->LC->LC->Int->BA->Int->LC->LC->Option β):Yai.f k aC aB aD aA aI bE aW bB aR bC aT aY bA aU bD aV aZ K=K z0 z1 z2 z3 z4 z5 z6 z7 z8 z9 z10 z11 z12 z13 z14 z15 z16:=by
 unfold Yai.f
 rw[h]
theorem YL.f_of {β:Type} {k a0 z0} (h:YL.t k a0=some z0) (K:LC->Option β):YL.f k a0 K=K z0:=by unfold YL.f;rw[h];rfl
theorem YS.f_of {β:Type} {k a0 z0} (h:YS.t k a0=some z0) (K:LC->Option β):YS.f k a0 K=K z0:=by unfold YS.f;rw[h];rfl
theorem Yat.f_of {β:Type} {k aC aB aD aA z0 z1 z2 z3} (h:Yat.t k aC aB aD aA=some (z0,z1,z2,z3)) (K:LC->Int->Int->LC->Option β):Yat.f k aC aB aD aA K=K z0 z1 z2 z3:=by unfold Yat.f;rw[h];rfl
theorem Y5.f_of {β:Type} {k a0 a1 a2 z0} (h:Y5.t k a0 a1 a2=some z0) (K:Int->Option β):Y5.f k a0 a1 a2 K=K z0:=by unfold Y5.f;rw[h];rfl
theorem Yh.f_of {β:Type} {k aC aB aD aA aI aM aN aO aP aQ z0} (h:Yh.t k aC aB aD aA aI aM aN aO aP aQ=some z0) (K:Bool->Option β):Yh.f k aC aB aD aA aI aM aN aO aP aQ K=K z0:=by unfold Yh.f Yh.w;rw[h];rfl
theorem Y9.f_of {β:Type} {k a0 aM aN aO aP aQ bJ bK bL bM bN bO bP bQ bR bT bU bV z0} (h:Y9.t k a0 aM aN aO aP aQ bJ bK bL bM bN bO bP bQ bR bT bU bV=some z0) (K:LC->Option β):Y9.f k a0 aM aN aO aP aQ bJ bK bL bM bN bO bP bQ bR bT bU bV K=K z0:=by unfold Y9.f;rw[h];rfl
theorem Yam.f_of {β:Type} {k aC aB aD aA aM aN aO aP aQ bJ bK bL bM bN bO bP bQ bR bT bU bV a2 z0 z1 z2 z3} (h:Yam.t k aC aB aD aA aM aN aO aP aQ bJ bK bL bM bN bO bP bQ bR bT bU bV a2=some (z0,z1,z2,z3)) (K:LC->Int->Int->LC->Option β):Yam.f k aC aB aD aA aM aN aO aP aQ bJ bK bL bM bN bO bP bQ bR bT bU bV a2 K=K z0 z1 z2 z3:=by unfold Yam.f;rw[h];rfl
theorem YaD.tm {ι α:Type} {ok:ι->Prop} {ψ:α->Prop} {p:ι->Nat} {B:Nat} (hp:∀ i,ok i->B<=p i) {aC aB aD aA a1 a2 a3 cA cC cE cF bZ φ} (h:Tm (λk=>B<=k) (λk=>YaD.t k aC aB aD aA a1 a2 a3 cA cC cE cF bZ) φ) {G:ι->LD->Int->Int->LD->Int->Option α} (hG:∀ z0 z1 z2 z3 z4,φ (z0,z1,z2,z3,z4)->Tm ok (λi=>G i z0 z1 z2 z3 z4) ψ):Tm ok (λi=>YaD.f (p i) aC aB aD aA a1 a2 a3 cA cC cE cF bZ (G i)) ψ:=bd5_tm (t:=λk=>YaD.t k aC aB aD aA a1 a2 a3 cA cC cE cF bZ) hp h hG
theorem Yae.f_of {β:Type} {k a0 a1 a2 z0} (h:Yae.t k a0 a1 a2=some z0) (K:Bool->Option β):Yae.f k a0 a1 a2 K=K z0:=by unfold Yae.f;rw[h];rfl
theorem within_f {β:Type} {k:Nat} {a b c:Int} (K:Bool->Option β):Yae.f k a b c K=K (decide (b<=a)&&decide (a<=c)):=by
 refine Yae.f_of ?_ K
 unfold Yae.t Yae.g
 by_cases h:b<=a<;>simp[h]
theorem Y4.same {k:Nat} {a:BA}:Y4.t k a=Yp.t k a:=by
 unfold Y4.t Yp.t Y4.g Yp.g
 congr 1
 funext L v
 simp only[Y4.l0,Yp.l0,l1In_f,within_f]
 refine bif_congr (λ_=>?_) (λ_=>rfl)
 unfold atStr
 split
 ·split
  ·rename_i b _
   have hb:b.toNat<256:=b.toNat_lt
   simp only[]
   rw[Z9 (x:=(b.toNat:Int)) (by omega) (by omega)]
   generalize(b.toNat:Int)=x
   by_cases h1:x<97<;>by_cases h2:x<48<;>by_cases h3:x>57<;>by_cases h4:x>122<;>simp[h1,h2,h3,h4]<;>(try omega)<;>grind
  ·rfl
 ·rfl
theorem Ybi {β:Type} {k:Nat} {a:BA} (K:Bool->Option β):Y4.f k a K=Yp.f k a K:=by
 unfold Y4.f Yp.f
 rw[Y4.same]
theorem Ya9 {β:Type} {k:Nat} {a b c:Int} (K:Bool->Option β):Yae.f k a b c K=K (inB a b c):=within_f K
theorem YY.f_of {β:Type} {k a0 a1 z0} (h:YY.t k a0 a1=some z0) (K:Bool->Option β):YY.f k a0 a1 K=K z0:=by unfold YY.f;rw[h];rfl
set_option maxRecDepth 100000 in
theorem namesOk_fv {a:LD} {n:Int} (g:ZB RS lim a) {k:Nat} (hk:Fuel k) {β:Type} (K:Bool->Option β):YY.f k a n K=K (namesB a&&decide ((a.length:Int)<=n)):=YY.f_of (by
 have hl:=g.1
 have hlim:lim=1048576:=rfl
 have hb:big=2^64:=rfl
 unfold YY.t YY.g
 rw[iter_all0 (n:=a.length) (λi=>Yp.v (gS a (i:Int) 0)&&(!decide ((i:Int)>0)||strLt (gS a ((i:Int)-1) 0) (gS a (i:Int) 0))) (r1:=some false) (r2:=some (decide ((a.length:Int)<=n))) (by unfold Fuel at hk;omega)]
 ·unfold namesB
  generalize List.all _ _=x
  cases x<;>rfl
 ·intro L i hi
  have k0:=(RS.get g (v:=(i:Int)) (by omega) (by omega)).2.1
  simp(disch:=omega) only[YY.l0,atR,rdQ,Q.ask,ZY (show(i:Int)<a.length by omega),cond_true,RS.row g,Z4,ZaQ,Zan,Ybi,Yp.fv k0 hk,Z9]
  by_cases h0:(i:Int)>0
  ·simp(disch:=omega) only[ZY h0,cond_true,RS.row g,Z4,ZaQ,Zan]
   cases Yp.v (gS a (i:Int) 0)<;>cases strLt (gS a ((i:Int)-1) 0) (gS a (i:Int) 0)<;>rfl
  ·simp only[ZZ h0,cond_false]
   cases Yp.v (gS a (i:Int) 0)<;>rfl
 ·intro L
  simp[YY.l0,atR,rdQ,Q.ask]) K
theorem YX.f_of {β:Type} {k aC aB aD aA aI z0} (h:YX.t k aC aB aD aA aI=some z0) (K:Bool->Option β):YX.f k aC aB aD aA aI K=K z0:=by unfold YX.f;rw[h];rfl
theorem Yt.f_of {β:Type} {k aC aB aD aA aI a1 z0} (h:Yt.t k aC aB aD aA aI a1=some z0) (K:Int->Option β):Yt.f k aC aB aD aA aI a1 K=K z0:=by unfold Yt.f Yt.w;rw[h];rfl
theorem Yak.f_of {β:Type} {k aC aB aD aA aI z0} (h:Yak.t k aC aB aD aA aI=some z0) (K:Bool->Option β):Yak.f k aC aB aD aA aI K=K z0:=by unfold Yak.f;rw[h];rfl
theorem shapeOk_fv {c0:Int} {c1:BA} {c2:Int} {c3 c4:LD} (g1:c1.size<=lim) (g3:ZB RS lim c3) {k:Nat} (hk:Fuel k) {β:Type} (K:Bool->Option β):YX.f k c0 c1 c2 c3 c4 K=K (Ya2 c0 c1 c2 c3 c4&&(!(c0==5)||decide ((c3.length:Int)<=300))):=YX.f_of (by
 have hlim:lim=1048576:=rfl
 have hb:big=2^64:=rfl
 unfold YX.t YX.g YX.m
 have text:ZA (YX.l0 k ((c2:Int)==0) (((c3.length:Int):Int)==0) (((c4.length:Int):Int)==0) (c1.size:Int) c0 c1 c2 c3 c4 λz0=>some z0) k 0=some (textB c1&&(decide ((c1.size:Int)<=100)&&(c2==0&&((c3.length:Int)==0&&(c4.length:Int)==0)))):=by
  rw[iter_all0 (n:=c1.size) (λi=>inB (bS c1 (i:Int)) 32 126) (r1:=some false) (r2:=some (decide ((c1.size:Int)<=100)&&(c2==0&&((c3.length:Int)==0&&(c4.length:Int)==0)))) (by unfold Fuel at hk;omega)]
  ·unfold textB
   generalize List.all _ _=x
   cases x<;>rfl
  ·intro L i hi
   simp(disch:=omega) only[YX.l0,ZY (show(i:Int)<c1.size by omega),cond_true,atStr_at,wrap_b,Ya9,Z9]
   generalize inB _ _ _=x
   cases x<;>rfl
  ·intro L
   simp only[YX.l0,ZZ (show ¬ (c1.size:Int)<c1.size by omega),cond_false]
   cases decide ((c1.size:Int)<=100)<;>cases c2==0<;>cases((c3.length:Int)==0)<;>rfl
 simp only[text,Ya9,namesOk_fv g3 hk]
 unfold Ya2
 generalize textB c1=b1
 generalize decide ((c1.size:Int)<=100)=b0
 generalize hb2:Zae c1 (⟨#[]⟩:BA)=b2
 have hb3:Zae c1 bareText=b2:=hb2
 rw[hb3]
 generalize namesB c3=b3
 generalize inB c2 0 1=b4
 generalize(c2==0)=b5
 generalize((c4.length:Int)==0)=b6
 generalize((c3.length:Int)==(c4.length:Int))=b7
 generalize((c3.length:Int)==0)=b8
 generalize decide ((c3.length:Int)<=300)=b9
 rcases ZaM c0 with rfl|rfl|rfl|rfl|rfl|⟨e1,e2,e3,e4,e5⟩
 ·cases b0<;>cases b1<;>cases b5<;>cases b6<;>cases b8<;>rfl
 ·cases b2<;>cases b6<;>cases b8<;>rfl
 ·cases b2<;>cases b4<;>cases b6<;>cases b8<;>rfl
 ·cases b2<;>cases b5<;>cases b8<;>rfl
 ·cases b2<;>cases b3<;>cases b5<;>cases b7<;>cases b9<;>rfl
 ·simp only[e1,e2,e3,e4,e5,cond_false,Bool.false_and]) K
set_option maxRecDepth 100000 in
theorem measured_t (d:Nat):∀ {c0:Int} {c1:BA} {c2:Int} {c3 c4:LD},c1.size<=lim->ZB RS lim c3->ZB Yo lim c4->d<=6->∀ {k:Nat},big+d+1<=k->Yt.t k c0 c1 c2 c3 c4 (d:Int)=some (bif YaT d [.int .i64 c0,.str c1,.int .i64 c2,.sl c3,.sl c4]==0 then 301 else YaT d [.int .i64 c0,.str c1,.int .i64 c2,.sl c3,.sl c4]):=by
 have hlim:lim=1048576:=rfl
 have hb:big=2^64:=rfl
 induction d with
 |zero=>
  intro c0 c1 c2 c3 c4 g1 g3 g4 hd k hk
  cases k with
  |zero=>omega
  |succ k=>rfl
 |succ d ih=>
  intro c0 c1 c2 c3 c4 g1 g3 g4 hd k hk
  cases k with
  |zero=>omega
  |succ k=>
  have hl:=g4.1
  have hk0:Fuel k:=by unfold Fuel;omega
  rw[Yt.t_succ]
  unfold Yt.g Yt.body
  rw[show(((d+1:Nat):Int)==0)=false by rw[beq_eq_false_iff_ne];omega,cond_false,shapeOk_fv g1 g3 hk0]
  have key:=iter_val (b:=Yt.l0 k (Yt.f k) ((d+1:Nat):Int) c4 (c4.length:Int) λz0=>some z0) (λv=>((c4.length:Int)-v.2).toNat) (λv=>0<=v.2/\v.2<=c4.length/\1<=v.1/\v.1<=300)
   (λv=>bif sumL (YaT d) (c4.drop v.2.toNat) v.1==0 then some 301 else some (sumL (YaT d) (c4.drop v.2.toNat) v.1)) ?_ k (1,0) (by simp only[];omega) (by simp only[];omega)
  ·rw[key]
   show(bif !(Ya2 c0 c1 c2 c3 c4&&(!(c0==5)||decide ((c3.length:Int)<=300))) then some 301 else bif sumL (YaT d) (List.drop 0 c4) 1==0 then some 301 else some (sumL (YaT d) (List.drop 0 c4) 1))=some (bif YaT (d+1) [.int .i64 c0,.str c1,.int .i64 c2,.sl c3,.sl c4]==0 then 301 else YaT (d+1) [.int .i64 c0,.str c1,.int .i64 c2,.sl c3,.sl c4])
   have el:YaT (d+1) [.int .i64 c0,.str c1,.int .i64 c2,.sl c3,.sl c4]=bif sumL (YaT d) c4 1==0 then 0 else bif Ya2 c0 c1 c2 c3 c4 then sumL (YaT d) c4 1 else 0:=rfl
   rw[List.drop_zero,el]
   have hs:=sumL_range (f:=YaT d) (λr=>(Ya7 d r).1) (rs:=c4) (n:=1) (by omega) (by omega)
   by_cases hz:sumL (YaT d) c4 1=0
   ·rw[hz]
    cases(Ya2 c0 c1 c2 c3 c4&&(!(c0==5)||decide ((c3.length:Int)<=300)))<;>rfl
   ·have hz':(sumL (YaT d) c4 1==0)=false:=by rw[beq_eq_false_iff_ne];exact hz
    rw[hz',cond_false,cond_false]
    by_cases hsh:Ya2 c0 c1 c2 c3 c4=true
    ·have h5:(!(c0==5)||decide ((c3.length:Int)<=300))=true:=by
      by_cases h5:c0=5
      ·subst h5
       have:(c3.length:Int)=c4.length:=by
        unfold Ya2 at hsh
        simp at hsh
        omega
       have:=hs.2.2 hz
       simp
       omega
      ·simp[h5]
     rw[hsh,h5]
     simp only[Bool.and_self,Bool.not_true,cond_false,cond_true,hz']
    ·rw[Bool.not_eq_true] at hsh
     rw[hsh]
     rfl
  ·rintro⟨n,i⟩ ⟨i0,i1,n0,n1⟩ L hL
   simp only[] at i0 i1 n0 n1 hL⊢
   by_cases hi:i<c4.length
   ·have hg:=Yo.get g4 i0 hi
    have hr:=Ya7 d (gR c4 i)
    have ih':=ih (c0:=gI c4 i 0) (c2:=gI c4 i 2) hg.2.2.1 hg.2.2.2.2.1 hg.2.2.2.2.2.1 (by omega) (k:=k) (by omega)
    rw[<- hg.1] at ih'
    simp(disch:=omega) only[Yt.l0,atR,rdQ,Q.ask,ZY hi,cond_true,Yo.row g4,Z4,ZaQ,Z5,Zbl,Zan,Z9,show((d+1:Nat):Int)-1=(d:Int) by omega]
    rw[Yt.f_of ih',drop_gR i0 hi]
    simp only[sumL]
    by_cases hz:YaT d (gR c4 i)=0
    ·rw[hz,show((0:Int)==0)=true from rfl,cond_true,Z9 (by omega) (by omega),ZY (by omega)]
     simp
    ·rw[show(YaT d (gR c4 i)==0)=false by rw[beq_eq_false_iff_ne];exact hz,cond_false,Z9 (by omega) (by omega)]
     by_cases hn:n+YaT d (gR c4 i)>300
     ·rw[ZY hn,if_pos (.inr hn)]
      rfl
     ·rw[ZZ hn,if_neg (by omega),cond_false,hL _ ⟨by simp only[];omega,by simp only[];omega,by simp only[];omega,by simp only[];omega⟩ (by simp only[];omega)]
   ·rw[drop_end (by omega)]
    simp only[Yt.l0,atR,rdQ,Q.ask,ZZ hi,cond_false,sumL]
    rw[show(n==0)=false by rw[beq_eq_false_iff_ne];omega,cond_false]
noncomputable def valB (c0:Int) (c1:BA) (c2:Int) (c3 c4:LD):Bool:=decide (YaT 6 [.int .i64 c0,.str c1,.int .i64 c2,.sl c3,.sl c4]>0)
theorem spec_ValueOk_fv {c0:Int} {c1:BA} {c2:Int} {c3 c4:LD} (g1:c1.size<=lim) (g3:ZB RS lim c3) (g4:ZB Yo lim c4) {k:Nat} (hk:Zai 1 k) {β:Type} (K:Bool->Option β):YC.f k c0 c1 c2 c3 c4 K=K (valB c0 c1 c2 c3 c4):=YC.f_of (by
 unfold YC.t YC.g
 rw[look_fv (by omega) (by omega) g1 g3 g4 hk]
 rfl) K
theorem impl_ValueOk_fv {c0:Int} {c1:BA} {c2:Int} {c3 c4:LD} (g1:c1.size<=lim) (g3:ZB RS lim c3) (g4:ZB Yo lim c4) {k:Nat} (hk:Zai 1 k) {β:Type} (K:Bool->Option β):Yak.f k c0 c1 c2 c3 c4 K=K (valB c0 c1 c2 c3 c4):=Yak.f_of (by
 have hb:big=2^64:=rfl
 have h1:lv 1=2^65:=rfl
 unfold Yak.t Yak.g
 rw[Yt.f_of (show Yt.t k c0 c1 c2 c3 c4 6=_ from measured_t 6 g1 g3 g4 (by omega) (by unfold Zai at hk;omega))]
 unfold valB
 have hr:=Ya7 6 [.int .i64 c0,.str c1,.int .i64 c2,.sl c3,.sl c4]
 generalize YaT 6 [.int .i64 c0,.str c1,.int .i64 c2,.sl c3,.sl c4]=n at *
 by_cases hz:n=0
 ·subst hz;rfl
 ·rw[show(n==0)=false by rw[beq_eq_false_iff_ne];exact hz,cond_false,ZY (by omega),ZY (by omega)]) K
theorem Yaz.f_of {β:Type} {k a0 z0} (h:Yaz.t k a0=some z0) (K:Bool->Option β):Yaz.f k a0 K=K z0:=by unfold Yaz.f;rw[h];rfl
theorem YaJ.f_of {β:Type} {k aC aB aD aA aI bE aW bB aR bC aT aY bA aU bD aV aZ a1 a2 a3 z0} (h:YaJ.t k aC aB aD aA aI bE aW bB aR bC aT aY bA aU bD aV aZ a1 a2 a3=some z0) (K:Bool->Option β):YaJ.f k aC aB aD aA aI bE aW bB aR bC aT aY bA aU bD aV aZ a1 a2 a3 K=K z0:=by unfold YaJ.f;rw[h];rfl
theorem Yar.f_of {β:Type} {k a0 z0} (h:Yar.t k a0=some z0) (K:Bool->Option β):Yar.f k a0 K=K z0:=by unfold Yar.f;rw[h];rfl
theorem Yag.f_of {β:Type} {k a0 a1 z0} (h:Yag.t k a0 a1=some z0) (K:Int->Option β):Yag.f k a0 a1 K=K z0:=by unfold Yag.f;rw[h];rfl
theorem Yaf.f_of {β:Type} {k a0 a1 z0} (h:Yaf.t k a0 a1=some z0) (K:Int->Option β):Yaf.f k a0 a1 K=K z0:=by unfold Yaf.f;rw[h];rfl
theorem Yah.f_of {β:Type} {k aC aB aD aA aI bE aW bB aR bC aT aY bA aU bD aV aZ aM aN aO aP aQ bJ bK bL bM bN bO bP bQ bR bT bU bV z0} (h:Yah.t k aC aB aD aA aI bE aW bB aR bC aT aY bA aU bD aV aZ aM aN aO aP aQ bJ bK bL bM bN bO bP bQ bR bT bU bV=some z0) (K:Int->Option β):Yah.f k aC aB aD aA aI bE aW bB aR bC aT aY bA aU bD aV aZ aM aN aO aP aQ bJ bK bL bM bN bO bP bQ bR bT bU bV K=K z0:=by unfold Yah.f;rw[h];rfl
theorem YaC.f_of {β:Type} {k aC aB aD aA aI bE aW bB aR bC aT aY bA aU bD aV aZ f0_0 f0_1 f0_2 f0_3 f0_4 f0_5 f0_6 f0_7 f0_8 f0_9 f0_10 f0_11 f0_12 f0_13 f0_14 f0_15 f0_16 z0} (h:YaC.t k aC aB aD aA aI bE aW bB aR bC aT aY bA aU bD aV aZ f0_0 f0_1 f0_2 f0_3 f0_4 f0_5 f0_6 f0_7 f0_8 f0_9 f0_10 f0_11 f0_12 f0_13 f0_14 f0_15 f0_16=some z0) (K:Bool->Option β):YaC.f k aC aB aD aA aI bE aW bB aR bC aT aY bA aU bD aV aZ f0_0 f0_1 f0_2 f0_3 f0_4 f0_5 f0_6 f0_7 f0_8 f0_9 f0_10 f0_11 f0_12 f0_13 f0_14 f0_15 f0_16 K=K z0:=by unfold YaC.f;rw[h];rfl
theorem Ye.f_of {β:Type} {k a0 a1_0_0 a1_0_1 a1_0_2 a1_0_3 a1_0_4 a1_0_5 a1_0_6 a1_0_7 a1_0_8 a1_0_9 a1_0_10 a1_0_11 a1_0_12 a1_0_13 a1_0_14 a1_0_15 a1_0_16 z0} (h:Ye.t k a0 a1_0_0 a1_0_1 a1_0_2 a1_0_3 a1_0_4 a1_0_5 a1_0_6 a1_0_7 a1_0_8 a1_0_9 a1_0_10 a1_0_11 a1_0_12 a1_0_13 a1_0_14 a1_0_15 a1_0_16=some z0) (K:Int->Option β):Ye.f k a0 a1_0_0 a1_0_1 a1_0_2 a1_0_3 a1_0_4 a1_0_5 a1_0_6 a1_0_7 a1_0_8 a1_0_9 a1_0_10 a1_0_11 a1_0_12 a1_0_13 a1_0_14 a1_0_15 a1_0_16 K=K z0:=by unfold Ye.f;rw[h];rfl
theorem Yn.f_of {β:Type} {k a0 a1_0_0 a1_0_1 a1_0_2 a1_0_3 a1_0_4 a1_0_5 a1_0_6 a1_0_7 a1_0_8 a1_0_9 a1_0_10 a1_0_11 a1_0_12 a1_0_13 a1_0_14 a1_0_15 a1_0_16 z0} (h:Yn.t k a0 a1_0_0 a1_0_1 a1_0_2 a1_0_3 a1_0_4 a1_0_5 a1_0_6 a1_0_7 a1_0_8 a1_0_9 a1_0_10 a1_0_11 a1_0_12 a1_0_13 a1_0_14 a1_0_15 a1_0_16=some z0) (K:Bool->Option β):Yn.f k a0 a1_0_0 a1_0_1 a1_0_2 a1_0_3 a1_0_4 a1_0_5 a1_0_6 a1_0_7 a1_0_8 a1_0_9 a1_0_10 a1_0_11 a1_0_12 a1_0_13 a1_0_14 a1_0_15 a1_0_16 K=K z0:=by unfold Yn.f;rw[h];rfl
theorem Yab.f_of {β:Type} {k a0 a1 a2 z0} (h:Yab.t k a0 a1 a2=some z0) (K:Bool->Option β):Yab.f k a0 a1 a2 K=K z0:=by unfold Yab.f;rw[h];rfl
theorem less_cmp:∀ (a b:List UInt8),decide (Go.Lib.compareBytes a b>=0)=!Op.bytesLess a b
 |[],[]=>rfl
 |[],_::_=>rfl
 |_::_,[]=>rfl
 |x::a,y::b=>by
  have ih:=less_cmp a b
  unfold Go.Lib.compareBytes Op.bytesLess
  by_cases h1:x<y
  ·simp[h1]
  ·by_cases h2:y<x
   ·have h3:x≠y:=λe=>by subst e;exact h1 h2
    simp[h1,h2,h3]
   ·have h3:x=y:=UInt8.le_antisymm (UInt8.not_lt.1 h2) (UInt8.not_lt.1 h1)
    subst h3
    simp only[h1,if_false,ih]
    simp
theorem cmpS_less (a b:BA):decide (cmpS a b>=0)=!strLt a b:=by
 unfold cmpS strLt
 rw[less_cmp,Go.Lib.toList_data,Go.Lib.toList_data]
set_option maxRecDepth 100000 in
theorem waits_v {a:LD} (g:ZB RS lim a) {k:Nat} (hk:Fuel k):Yz.v a=(namesB a&&decide ((a.length:Int)<=4)):=by
 have hv:=Yz.tv g hk
 suffices h:Yz.t k a=some (namesB a&&decide ((a.length:Int)<=4)) by
  rw[hv] at h
  injection h
 have hl:=g.1
 have hlim:lim=1048576:=rfl
 have hb:big=2^64:=rfl
 unfold Yz.t Yz.g
 rw[iter_all0 (n:=a.length) (λi=>Yp.v (gS a (i:Int) 0)&&(!decide ((i:Int)>0)||strLt (gS a ((i:Int)-1) 0) (gS a (i:Int) 0))) (r1:=some false) (r2:=some (decide ((a.length:Int)<=4))) (by unfold Fuel at hk;omega)]
 ·unfold namesB
  generalize List.all _ _=x
  cases x<;>rfl
 ·intro L i hi
  have k0:=(RS.get g (v:=(i:Int)) (by omega) (by omega)).2.1
  simp(disch:=omega) only[Yz.l0,atR,rdQ,Q.ask,ZY (show(i:Int)<a.length by omega),cond_true,RS.row g,Z4,ZaQ,Zan,Yp.fv k0 hk,Z9]
  by_cases h0:(i:Int)>0
  ·simp(disch:=omega) only[ZY h0,cond_true,RS.row g,Z4,ZaQ,Zan]
   cases Yp.v (gS a (i:Int) 0)<;>cases strLt (gS a ((i:Int)-1) 0) (gS a (i:Int) 0)<;>rfl
  ·simp only[ZZ h0,cond_false]
   cases Yp.v (gS a (i:Int) 0)<;>rfl
 ·intro L
  simp[Yz.l0,atR,rdQ,Q.ask]
theorem Ybd {c0:Int} {c1:BA} {c2:Int} {c3 c4:LD} (g1:c1.size<=lim) (g3:ZB RS lim c3) (g4:ZB Yo lim c4) {k:Nat} (hk:Zai 1 k) {β:Type} (K:Bool->Option β):Yak.f k c0 c1 c2 c3 c4 K=K (YC.v c0 c1 c2 c3 c4):=by
 have h:some (YC.v c0 c1 c2 c3 c4)=some (valB c0 c1 c2 c3 c4):=(YC.fv (aC:=c0) (aD:=c2) g1 g3 g4 hk some).symm.trans (spec_ValueOk_fv g1 g3 g4 hk some)
 injection h with h
 rw[impl_ValueOk_fv g1 g3 g4 hk,h]
theorem objOk_fv {x0:Int} {x1:BA} {x2 x3 x4:Int} {x5:Bool} {x6:LD} {x7:Int} {x8:BA} {x9:Int} {x10 x11:LD} {x12:Int} {x13:BA} {x14:Int} {x15 x16:LD} {rev Z8:Int} {gone:Bool} (g1:x1.size<=lim) (g6:ZB RS lim x6) (g8:x8.size<=lim) (g10:ZB RS lim x10) (g11:ZB Yo lim x11) (g13:x13.size<=lim) (g15:ZB RS lim x15) (g16:ZB Yo lim x16) {k:Nat} (hk:Zai 1 k) {β:Type} (K:Bool->Option β):
  YaJ.f k x0 x1 x2 x3 x4 x5 x6 x7 x8 x9 x10 x11 x12 x13 x14 x15 x16 Z8 rev gone K=K (objV x0 x1 x2 x3 x4 x5 x6 x7 x8 x9 x10 x11 x12 x13 x14 x15 x16 Z8 rev gone):=YaJ.f_of (by
 have hk0:Fuel k:=up0 hk
 have hi:∀ {n:Int} {β:Type} (K:Bool->Option β),Yaz.f k n K=K (inB n 1 3):=λK=>Yaz.f_of (by unfold Yaz.t Yaz.g;rw[Ya9]) K
 unfold YaJ.t YaJ.g objV
 simp only[hi,Ya9,Ybi,Yp.fv g1 hk0,namesOk_fv g6 hk0,<- waits_v g6 hk0,Ybd g8 g10 g11 hk,Ybd g13 g15 g16 hk]
 generalize inB x0 1 3=b0
 generalize Yp.v x1=b1
 generalize inB x2 1 Z8=b2
 generalize inB x3 1 rev=b3
 generalize inB x4 1 x3=b4
 generalize Yz.v x6=b5
 generalize YC.v x7 x8 x9 x10 x11=b6
 generalize YC.v x12 x13 x14 x15 x16=b7
 generalize decide ((x6.length:Int)>0)=b8
 cases b0
 ·rfl
 cases b1
 ·rfl
 cases b2
 ·rfl
 cases b3
 ·rfl
 cases b4
 ·rfl
 cases b5
 ·rfl
 cases b6<;>cases b7<;>cases gone<;>cases x5<;>cases b8<;>rfl) K
theorem cmpObjs_fv {x0:Int} {x1:BA} {x2 x3 x4:Int} {x5:Bool} {x6:LD} {x7:Int} {x8:BA} {x9:Int} {x10 x11:LD} {x12:Int} {x13:BA} {x14:Int} {x15 x16:LD} {y0:Int} {y1:BA} {y2 y3 y4:Int} {y5:Bool} {y6:LD} {y7:Int} {y8:BA} {y9:Int} {y10 y11:LD} {y12:Int} {y13:BA} {y14:Int} {y15 y16:LD} {k:Nat}:
  ∃ c:Int,decide (c>=0)=!lessV x0 x1 y0 y1/\∀ {β:Type} (K:Int->Option β),Yah.f k x0 x1 x2 x3 x4 x5 x6 x7 x8 x9 x10 x11 x12 x13 x14 x15 x16 y0 y1 y2 y3 y4 y5 y6 y7 y8 y9 y10 y11 y12 y13 y14 y15 y16 K=K c:=by
 have hn:∀ {n:Int} {β:Type} (K:Bool->Option β),Yar.f k n K=K false:=λ{n β} K=>Yar.f_of (by unfold Yar.t Yar.g;simp) K
 have hc:∀ {β:Type} (K:Int->Option β),Yag.f k x0 y0 K=K (if x0<y0 then -1 else if x0>y0 then 1 else 0):=λK=>Yag.f_of (by
  unfold Yag.t Yag.g
  simp only[hn,cond_false]
  by_cases h1:x0<y0
  ·simp[h1]
  ·by_cases h2:x0>y0<;>simp[h1,h2]) K
 have hs:∀ {β:Type} (K:Int->Option β),Yaf.f k x1 y1 K=K (cmpS x1 y1):=λK=>Yaf.f_of (by unfold Yaf.t Yaf.g;rfl) K
 refine⟨if x0<y0 then -1 else if x0>y0 then 1 else cmpS x1 y1,?_,λ{β} K=>Yah.f_of ?_ K⟩
 ·unfold lessV
  by_cases h1:x0<y0
  ·simp[h1]
  ·by_cases h2:x0>y0
   ·have h3:¬ x0=y0:=by omega
    simp[h1,h2,h3]
   ·have h3:x0=y0:=by omega
    subst h3
    simp only[h1,gt_iff_lt,if_false,decide_false,Bool.false_or,beq_self_eq_true,Bool.true_and]
    exact cmpS_less x1 y1
 ·unfold Yah.t Yah.g
  simp only[hc,hs]
  by_cases h1:x0<y0
  ·simp[h1]
  ·by_cases h2:x0>y0<;>simp[h1,h2]
set_option maxRecDepth 100000 in
theorem objsOk_fv {a:LD} {rev Z8:Int} (g:ZB Ya lim a) {k:Nat} (hk:Zai 1 k) {β:Type} (K:Bool->Option β):Yab.f k a Z8 rev K=K (objsB a Z8 rev):=Yab.f_of (by
 have hk0:Fuel k:=up0 hk
 have hl:=g.1
 have hlim:lim=1048576:=rfl
 have hb:big=2^64:=rfl
 unfold Yab.t Yab.g
 rw[iter_all0 (n:=a.length) (objsP a Z8 rev) (r1:=some false) (r2:=some (decide ((a.length:Int)<=60))) (by unfold Fuel at hk0;omega)]
 ·unfold objsB
  cases(List.range a.length).all (objsP a Z8 rev)<;>rfl
 ·intro L i hi
  obtain⟨-,-,k1,-,-,-,k6,-,k8,-,k10,k11,-,k13,-,k15,k16,-⟩:=Ya.get g (v:=(i:Int)) (by omega) (by omega)
  have e3:∀ {F:Bool->Option Bool},YaJ.f k (gI a i 0) (gS a i 1) (gI a i 2) (gI a i 3) (gI a i 4) (gB a i 5) (gL a i 6) (gI a i 7) (gS a i 8) (gI a i 9) (gL a i 10) (gL a i 11) (gI a i 12) (gS a i 13) (gI a i 14) (gL a i 15) (gL a i 16) Z8 rev false F=F (objR a i Z8 rev):=objOk_fv k1 k6 k8 k10 k11 k13 k15 k16 hk _
  have gt:ZB Ya lim (a.take i):=⟨by rw[List.length_take];omega,rows_take g.2⟩
  have hx:∀ {y0:Int} {y1:BA} {y2 y3 y4:Int} {y5:Bool} {y6:LD} {y7:Int} {y8:BA} {y9:Int} {y10 y11:LD} {y12:Int} {y13:BA} {y14:Int} {y15 y16:LD} {β:Type} (K:Bool->Option β),Yn.f k (a.take i) y0 y1 y2 y3 y4 y5 y6 y7 y8 y9 y10 y11 y12 y13 y14 y15 y16 K=K (!(List.range i).all λj=>!(gI a (j:Int) 2==y2)):=by
   intro y0 y1 y2 y3 y4 y5 y6 y7 y8 y9 y10 y11 y12 y13 y14 y15 y16 β K
   refine Yn.f_of ?_ K
   have hli:(a.take i).length=i:=by rw[List.length_take];omega
   have hf:∀ {β:Type} (K:Int->Option β),Ye.f k (a.take i) y0 y1 y2 y3 y4 y5 y6 y7 y8 y9 y10 y11 y12 y13 y14 y15 y16 K=K (ZbV (λj=>gI a (j:Int) 2==y2) i):=λK=>Ye.f_of (by
    unfold Ye.t Ye.g
    refine iter_findI (n:=i) _ some (by unfold Fuel at hk0;omega) (λL j hj=>?_) (λL=>by simp[Ye.l0,atR,rdQ,Q.ask,hli])
    have hs:∀ {z0:Int} {z1:BA} {z2 z3 z4:Int} {z5:Bool} {z6:LD} {z7:Int} {z8:BA} {z9:Int} {z10 z11:LD} {z12:Int} {z13:BA} {z14:Int} {z15 z16:LD} {β:Type} (K:Bool->Option β),YaC.f k z0 z1 z2 z3 z4 z5 z6 z7 z8 z9 z10 z11 z12 z13 z14 z15 z16 y0 y1 y2 y3 y4 y5 y6 y7 y8 y9 y10 y11 y12 y13 y14 y15 y16 K=K (z2==y2):=λK=>YaC.f_of (by unfold YaC.t YaC.g;rfl) K
    have hg:gI (a.take i) (j:Int) 2=gI a (j:Int) 2:=by unfold gI;rw[gR_take (by omega) (by omega)]
    simp(disch:=omega) only[Ye.l0,atR,rdQ,Q.ask,ZY (show(j:Int)<(a.take i).length by omega),cond_true,Ya.row gt,Z4,Z5,ZaQ,ZaV,Zbl,Zan,hs,hg,Z9]) K
   unfold Yn.t Yn.g
   rw[hf,findI_all]
  have hd:(a.drop (Int.toNat (0:Int))).take (Int.toNat (i:Int)-Int.toNat (0:Int))=a.take i:=by simp
  have hg:∀ {F:Option Bool},Zd (0<=(0:Int)/\(0:Int)<=(i:Int)/\(i:Int)<=(a.length:Int)/\Zbk 17 a) F=F:=ZH ⟨by omega,by omega,by omega,λr hr=>(g.2 r hr).len⟩
  unfold objsP
  simp(disch:=omega) only[Yab.l0,atR,rdQ,Q.ask,ZY (show(i:Int)<a.length by omega),cond_true,Ya.row g,Z4,Z5,ZaQ,ZaV,Zbl,Zan,e3,hg,hd,hx]
  cases objR a (i:Int) Z8 rev
  ·rfl
  by_cases h0:(i:Int)>0
  ·simp(disch:=omega) only[ZY h0,cond_true,Z9,Ya.row g,Z4,Z5,ZaQ,ZaV,Zbl,Zan,Bool.not_true,cond_false]
   obtain⟨c,hc,hf⟩:=cmpObjs_fv (k:=k) (x0:=gI a ((i:Int)-1) 0) (x1:=gS a ((i:Int)-1) 1) (x2:=gI a ((i:Int)-1) 2) (x3:=gI a ((i:Int)-1) 3) (x4:=gI a ((i:Int)-1) 4) (x5:=gB a ((i:Int)-1) 5) (x6:=gL a ((i:Int)-1) 6) (x7:=gI a ((i:Int)-1) 7) (x8:=gS a ((i:Int)-1) 8) (x9:=gI a ((i:Int)-1) 9) (x10:=gL a ((i:Int)-1) 10) (x11:=gL a ((i:Int)-1) 11) (x12:=gI a ((i:Int)-1) 12) (x13:=gS a ((i:Int)-1) 13) (x14:=gI a ((i:Int)-1) 14) (x15:=gL a ((i:Int)-1) 15) (x16:=gL a ((i:Int)-1) 16) (y0:=gI a (i:Int) 0) (y1:=gS a (i:Int) 1) (y2:=gI a (i:Int) 2) (y3:=gI a (i:Int) 3) (y4:=gI a (i:Int) 4) (y5:=gB a (i:Int) 5) (y6:=gL a (i:Int) 6) (y7:=gI a (i:Int) 7) (y8:=gS a (i:Int) 8) (y9:=gI a (i:Int) 9) (y10:=gL a (i:Int) 10) (y11:=gL a (i:Int) 11) (y12:=gI a (i:Int) 12) (y13:=gS a (i:Int) 13) (y14:=gI a (i:Int) 14) (y15:=gL a (i:Int) 15) (y16:=gL a (i:Int) 16)
   rw[hf,hc]
   cases lessV (gI a ((i:Int)-1) 0) (gS a ((i:Int)-1) 1) (gI a (i:Int) 0) (gS a (i:Int) 1)
   ·rfl
   ·simp(disch:=omega) only[Bool.not_true,cond_false,Bool.not_false,Bool.false_or,Bool.true_and,Z9]
    cases(List.range i).all _<;>rfl
  ·simp only[ZZ h0,cond_false,Bool.not_true,Bool.not_false,Bool.true_or,Bool.true_and]
   simp(disch:=omega) only[Z9]
   cases(List.range i).all _<;>rfl
 ·intro L
  simp[Yab.l0,atR,rdQ,Q.ask]) K
theorem cmp_zero:∀ (a b:List UInt8),(Go.Lib.compareBytes a b==0)=(a==b)
 |[],[]=>by simp[Go.Lib.compareBytes]
 |[],_::_=>by simp[Go.Lib.compareBytes]
 |_::_,[]=>by simp[Go.Lib.compareBytes]
 |x::a,y::b=>by
  have ih:=cmp_zero a b
  unfold Go.Lib.compareBytes
  by_cases h:x<y
  ·have:x≠y:=λe=>by subst e;exact absurd h (UInt8.lt_irrefl _)
   simp[h,this]
  ·by_cases h2:y<x
   ·have:x≠y:=λe=>by subst e;exact absurd h2 (UInt8.lt_irrefl _)
    simp[h,h2,this]
   ·have e:x=y:=by
     refine UInt8.toNat_inj.mp ?_
     have h1:¬ x.toNat<y.toNat:=λq=>h (UInt8.lt_iff_toNat_lt.mpr q)
     have h3:¬ y.toNat<x.toNat:=λq=>h2 (UInt8.lt_iff_toNat_lt.mpr q)
     omega
    subst e
    simpa[h] using ih
theorem cmpObjs2 {x0:Int} {x1:BA} {x2 x3 x4:Int} {x5:Bool} {x6:LD} {x7:Int} {x8:BA} {x9:Int} {x10 x11:LD} {x12:Int} {x13:BA} {x14:Int} {x15 x16:LD} {y0:Int} {y1:BA} {y2 y3 y4:Int} {y5:Bool} {y6:LD} {y7:Int} {y8:BA} {y9:Int} {y10 y11:LD} {y12:Int} {y13:BA} {y14:Int} {y15 y16:LD} {k:Nat}:
  ∃ c:Int,decide (c<0)=lessV x0 x1 y0 y1/\(c==0)=((x0==y0)&&Zae x1 y1)/\∀ {β:Type} (K:Int->Option β),Yah.f k x0 x1 x2 x3 x4 x5 x6 x7 x8 x9 x10 x11 x12 x13 x14 x15 x16 y0 y1 y2 y3 y4 y5 y6 y7 y8 y9 y10 y11 y12 y13 y14 y15 y16 K=K c:=by
 have hn:∀ {n:Int} {β:Type} (K:Bool->Option β),Yar.f k n K=K false:=λ{n β} K=>Yar.f_of (by unfold Yar.t Yar.g;simp) K
 have hc:∀ {β:Type} (K:Int->Option β),Yag.f k x0 y0 K=K (if x0<y0 then -1 else if x0>y0 then 1 else 0):=λK=>Yag.f_of (by
  unfold Yag.t Yag.g
  simp only[hn,cond_false]
  by_cases h1:x0<y0
  ·simp[h1]
  ·by_cases h2:x0>y0<;>simp[h1,h2]) K
 have hs:∀ {β:Type} (K:Int->Option β),Yaf.f k x1 y1 K=K (cmpS x1 y1):=λK=>Yaf.f_of (by unfold Yaf.t Yaf.g;rfl) K
 refine⟨if x0<y0 then -1 else if x0>y0 then 1 else cmpS x1 y1,?_,?_,λ{β} K=>Yah.f_of ?_ K⟩
 ·have hneg:∀ c:Int,decide (c<0)=!decide (c>=0):=λc=>by by_cases h:c<0<;>simp[h];omega
  unfold lessV
  by_cases h1:x0<y0
  ·simp[h1]
  ·by_cases h2:x0>y0
   ·have h3:¬ x0=y0:=by omega
    simp[h1,h2,h3]
   ·have h3:x0=y0:=by omega
    subst h3
    simp only[h1,gt_iff_lt,if_false,decide_false,Bool.false_or,beq_self_eq_true,Bool.true_and]
    rw[hneg,cmpS_less,Bool.not_not]
 ·by_cases h1:x0<y0
  ·have h3:¬ x0=y0:=by omega
   simp[h1,h3]
  ·by_cases h2:x0>y0
   ·have h3:¬ x0=y0:=by omega
    simp[h1,h2,h3]
   ·have h3:x0=y0:=by omega
    subst h3
    simp only[h1,gt_iff_lt,if_false,beq_self_eq_true,Bool.true_and]
    unfold cmpS Zae
    rw[cmp_zero,Go.Lib.toList_data,Go.Lib.toList_data]
 ·unfold Yah.t Yah.g
  simp only[hc,hs]
  by_cases h1:x0<y0
  ·simp[h1]
  ·by_cases h2:x0>y0<;>simp[h1,h2]
theorem Y1.f_of {β:Type} {k aC aB aD aA z0} (h:Y1.t k aC aB aD aA=some z0) (K:Bool->Option β):Y1.f k aC aB aD aA K=K z0:=by unfold Y1.f;rw[h];rfl
set_option maxRecDepth 100000 in
theorem Y1.same {aC:LD} {aB aD:Int} {aA:LD} (g0:ZB Ya lim aC) (g3:ZB Yb lim aA) {k:Nat} (hk:Zai 1 k):Y1.t k aC aB aD aA=Yv.t k aC aB aD aA:=by
 have hl:=g3.1
 have hlim:lim=1048576:=rfl
 have hloop:ZA (Y1.l0 k aA (aA.length:Int) aC aB aD aA some) k 0=ZA (Yv.l0 k aC aB aD aA some) k 0:=by
  refine congrArg (λb=>ZA b k 0) (funext λL=>funext λv=>?_)
  simp only[Y1.l0,atR,rdQ,Q.ask,Yv.l0,atR,rdQ,Q.ask]
  refine bif_congr (λh=>?_) (λ_=>rfl)
  by_cases h0:0<=v/\v<aA.length
  ·obtain⟨h0,h1⟩:=h0
   obtain⟨-,-,-,k1,-,-,-,k6,-,k8,-,k10,k11,-,k13,-,k15,k16,-⟩:=Yb.get g3 h0 h1
   simp(disch:=omega) only[Yb.row g3,Z4,Z5,ZaQ,ZaV,Zbl,Zan,l7Obj_fv k1 k6 k8 k10 k11 k13 k15 k16 hk,objOk_fv k1 k6 k8 k10 k11 k13 k15 k16 hk]
  ·simp only[atRow_none h0]
 unfold Y1.t Yv.t Y1.g Y1.m Yv.g Yv.m
 simp only[Ya9,l1In_fv,objsOk_fv g0 hk,l7Objs_fv g0 hk]
 rw[hloop]
 cases inB aB 0 1000000
 ·rfl
 cases inB aD 1 1000000
 ·rfl
 cases objsB aC (IntKind.wrap .i64 (aD-1)) aB<;>cases decide ((aA.length:Int)>40)<;>rfl
theorem BaseOkI {aC:LD} {aB aD:Int} {aA:LD} (g0:ZB Ya lim aC) (g3:ZB Yb lim aA) {k:Nat} (hk:Zai 1 k) {β:Type} (K:Bool->Option β):Y1.f k aC aB aD aA K=K (Yv.v aC aB aD aA):=
 Y1.f_of ((Y1.same g0 g3 hk).trans (Yv.tv g0 g3 hk)) K
theorem YaM.f_of {β:Type} {k aC aB aD aA a1 a2 a3 z0} (h:YaM.t k aC aB aD aA a1 a2 a3=some z0) (K:Int->Option β):YaM.f k aC aB aD aA a1 a2 a3 K=K z0:=by unfold YaM.f;rw[h];rfl
end Go.Proofs.YtlobhlnahhjpjaaGreat
