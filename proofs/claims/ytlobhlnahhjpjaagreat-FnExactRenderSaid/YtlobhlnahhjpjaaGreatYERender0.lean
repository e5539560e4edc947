/- Printed,and by hand: the functions that FnExactRender reaches come to their end; the program's answer as the reference's. -/
import Derived.Test.YtlobhlnahhjpjaaGreatXERender1
import Derived.KernelRfl
set_option linter.unusedVariables false
set_option linter.unusedSimpArgs false
namespace Go.Proofs.YtlobhlnahhjpjaaGreat
open Go Go.T Go.Proofs
theorem iter_ex {V β:Type} {b:(V->Option β)->V->Option β} (m:V->Nat) (Inv:V->Prop) (Q:Option β->Prop) (step:∀ v,Inv v->∀ L,(∀ v',Inv v'->m v'<m v->Q (L v'))->Q (b L v)):∀ {k:Nat} {v:V},Inv v->m v<k->Q (ZA b k v)
 |0,v,_,h=>absurd h (Nat.not_lt_zero _)
 |k+1,v,hv,h=>step v hv (ZA b k) λv' hv' hlt=>iter_ex m Inv Q step hv' (by omega)
theorem mem_modify {α:Type} {P:α->Prop} {f:α->α} (hf:∀ x,P x->P (f x)):∀ {xs:List α} {j:Nat},(∀ x∈xs,P x)->∀ x∈xs.modify j f,P x
 |[],j,h,x,hx=>by cases j<;>cases hx
 |y::xs,0,h,x,hx=>by
  simp only[List.modify_zero_cons] at hx
  rcases List.mem_cons.mp hx with rfl|hx
  ·exact hf y (h y (by simp))
  ·exact h x (by simp[hx])
 |y::xs,j+1,h,x,hx=>by
  simp only[List.modify_succ_cons] at hx
  rcases List.mem_cons.mp hx with rfl|hx
  ·exact h x (by simp)
  ·exact mem_modify hf (λz hz=>h z (by simp[hz])) x hx
theorem mem_snoc {α:Type} {P:α->Prop} {xs:List α} {y:α} (h:∀ x∈xs,P x) (hy:P y):∀ x∈xs++[y],P x:=by
 intro x hx
 rcases List.mem_append.mp hx with q|q
 ·exact h x q
 ·simp at q;subst q;exact hy
theorem wf_of {x:Int} (h0 : -9223372036854775808<=x) (h1:x<=9223372036854775807):(Lit.int .i64 x).wf=true:=by
 simp[Lit.wf,IntKind.min,IntKind.max,IntKind.signed,IntKind.bits]
 omega
theorem big_lv1 {n:Nat} (h:n<=4398046511104):big+n<=lv 1:=by
 have hb:big=2^64:=rfl
 have:lv 1=2^65:=rfl
 omega
theorem ZaM (n:Int):n=1\/n=2\/n=3\/n=4\/n=5\/((n==1)=false/\(n==2)=false/\(n==3)=false/\(n==4)=false/\(n==5)=false):=by
 simp only[beq_eq_false_iff_ne]
 omega
theorem delR_deep {pr:List D->Option Bool} {q:List D->Bool}:∀ {e:LD},(∀ r∈e,pr r=some (q r))->delR pr (Zc e)=some (Zc (e.filter λr=>!q r))
 |[],_=>rfl
 |r::e,h=>by
  simp only[Zc,delR,imm_deepCells,h r (by simp),delR_deep (e:=e) λx hx=>h x (by simp[hx])]
  rw[List.filter_cons]
  cases q r<;>rfl
theorem delK_deep {ix:LD->Option Int} {pr:List D->Option Bool} {q:List D->Bool} {d:LD} (hl:d.length<=1048576) (hix:ix d=some (ZbV (λi=>q (gR d (i:Int))) d.length)) (h:∀ r∈d,pr r=some (q r)):delK ix pr (Zc d)=some (Zc (d.filter λr=>!q r)):=by
 unfold delK
 rw[ZK,hix]
 have hg:∀ i (hi:i<d.length),gR d (i:Int)=d[i]:=λi hi=>by
  have:=gR_at (xs:=d) (v:=(i:Int)) (by omega) (by omega)
  rw[Int.toNat_natCast,List.getElem?_eq_getElem hi] at this
  injection this with this
  exact this.symm
 by_cases hz:ZbV (λi=>q (gR d (i:Int))) d.length<0
 ·obtain⟨h1,h2⟩:=findI_none hz
  simp only[h1,if_true]
  congr 2
  symm
  rw[List.filter_eq_self]
  intro x hx
  obtain⟨i,hi,rfl⟩:=List.mem_iff_getElem.mp hx
  have:=h2 i hi
  rw[hg i hi] at this
  rw[this];rfl
 ·obtain⟨h1,h2,h3,h4⟩:=findI_some (p:=λi=>q (gR d (i:Int))) (n:=d.length) (by omega)
  generalize ZbV (λi=>q (gR d (i:Int))) d.length=z at *
  simp only[show ¬ z = -1 by omega,if_false]
  rw[ZH ⟨by omega,by rw[ZS];omega,by rw[ZS];omega⟩]
  have ht:∀ m,m<=d.length->(Zc d).take m=Zc (d.take m)/\(Zc d).drop m=Zc (d.drop m):=λm hm=>by
   have e:Zc d=Zc (d.take m)++Zc (d.drop m):=by rw[<- Zbb,List.take_append_drop]
   have l:(Zc (d.take m)).length=m:=by rw[ZS,List.length_take];omega
   rw[e]
   exact⟨List.take_left' l,List.drop_left' l⟩
  rw[(ht z.toNat (by omega)).1,(ht (z.toNat+1) (by omega)).2,delR_deep λr hr=>h r (List.mem_of_mem_drop hr)]
  simp only[]
  rw[<- Zbb]
  congr 2
  have h5:d=d.take z.toNat++(d[z.toNat]::d.drop (z.toNat+1)):=by rw[List.getElem_cons_drop,List.take_append_drop]
  conv=>rhs;rw[h5]
  rw[List.filter_append,List.filter_cons]
  have h7:q d[z.toNat]=true:=by have:=h2;rwa[hg _ h1] at this
  rw[h7]
  simp only[Bool.not_true,Bool.false_eq_true,if_false]
  congr 1
  symm
  rw[List.filter_eq_self]
  intro x hx
  obtain⟨i,hi,rfl⟩:=List.mem_iff_getElem.mp hx
  rw[List.length_take] at hi
  have:=h4 i (by omega)
  rw[hg i (by omega)] at this
  rw[List.getElem_take,this];rfl
def insD (r:Nat->Int) (x:Nat):List Nat->List Nat
 |[]=>[x]
 |y::l=>if r y<r x then x::y::l else y::insD r x l
def Ybo (r:Nat->Int) (l:List Nat):List Nat:=l.foldl (λa x=>insD r x a) []
def AheadD (r:Nat->Int) (i j:Nat):Prop:=r j<r i\/(r i=r j/\i<j)
theorem insD_mem {r:Nat->Int} {x z:Nat}:∀ {l:List Nat},z∈insD r x l↔z=x\/z∈l
 |[]=>by simp[insD]
 |y::l=>by
  unfold insD
  split
  ·simp
  ·simp only[List.mem_cons,insD_mem (l:=l)]
   constructor
   ·rintro(h|h|h)<;>simp[h]
   ·rintro(h|h|h)<;>simp[h]
theorem insD_len {r:Nat->Int} {x:Nat}:∀ {l:List Nat},(insD r x l).length=l.length+1
 |[]=>rfl
 |y::l=>by
  unfold insD
  split
  ·simp
  ·simp[insD_len (l:=l)]
theorem insD_pair {r:Nat->Int} {x:Nat}:∀ {l:List Nat},l.Pairwise (AheadD r)->(∀ y∈l,y<x)->(insD r x l).Pairwise (AheadD r)
 |[],_,_=>by simp[insD]
 |y::l,h,hx=>by
  obtain⟨h1,h2⟩:=List.pairwise_cons.mp h
  unfold insD
  split
  ·rename_i hr
   refine List.pairwise_cons.mpr ⟨λz hz=>?_,h⟩
   rcases List.mem_cons.mp hz with rfl|hz
   ·exact .inl hr
   ·rcases h1 z hz with q|q
    ·exact .inl (by omega)
    ·exact .inl (by omega)
  ·rename_i hr
   refine List.pairwise_cons.mpr ⟨λz hz=>?_,insD_pair h2 λz hz=>hx z (by simp[hz])⟩
   rcases insD_mem.mp hz with rfl|hz
   ·have:=hx y (by simp)
    by_cases he:r y=r z
    ·exact .inr ⟨he,this⟩
    ·exact .inl (by omega)
   ·exact h1 z hz
theorem foldD {r:Nat->Int}:∀ (l a:List Nat),a.Pairwise (AheadD r)->l.Pairwise (·<·)->(∀ y∈a,∀ x∈l,y<x)->
  (l.foldl (λa x=>insD r x a) a).Pairwise (AheadD r)/\(∀ z,z∈l.foldl (λa x=>insD r x a) a↔z∈a\/z∈l)/\(l.foldl (λa x=>insD r x a) a).length=a.length+l.length
 |[],a,h,_,_=>⟨h,by simp,by simp⟩
 |x::l,a,h,hl,hx=>by
  obtain⟨h1,h2⟩:=List.pairwise_cons.mp hl
  obtain⟨q1,q2,q3⟩:=foldD l (insD r x a) (insD_pair h λy hy=>hx y hy x (by simp)) h2 (λy hy z hz=>by
   rcases insD_mem.mp hy with rfl|hy
   ·exact h1 z hz
   ·exact hx y hy z (by simp[hz]))
  refine⟨q1,λz=>?_,by rw[List.foldl_cons,q3,insD_len,List.length_cons];omega⟩
  rw[List.foldl_cons,q2,insD_mem,List.mem_cons]
  constructor
  ·rintro((h|h)|h)<;>simp[h]
  ·rintro(h|h|h)<;>simp[h]
theorem isortD_facts {r:Nat->Int} {l:List Nat} (hl:l.Pairwise (·<·)):(Ybo r l).Pairwise (AheadD r)/\(∀ z,z∈Ybo r l↔z∈l)/\(Ybo r l).length=l.length:=by
 obtain⟨h1,h2,h3⟩:=foldD (r:=r) l [] (by simp) hl (by simp)
 exact⟨h1,λz=>by rw[Ybo,h2];simp,by rw[Ybo,h3];simp⟩
theorem insD_map {r:Nat->Int} {f:Nat->Nat} {x:Nat}:∀ {l:List Nat},insD r (f x) (l.map f)=(insD (λi=>r (f i)) x l).map f
 |[]=>rfl
 |y::l=>by
  simp only[List.map_cons,insD]
  split
  ·rfl
  ·rw[insD_map (l:=l)];rfl
theorem isortD_map {r:Nat->Int} {f:Nat->Nat} {l:List Nat}:Ybo r (l.map f)=(Ybo (λi=>r (f i)) l).map f:=by
 have:∀ (l a:List Nat),(l.map f).foldl (λa x=>insD r x a) (a.map f)=(l.foldl (λa x=>insD (λi=>r (f i)) x a) a).map f:=by
  intro l
  induction l with
  |nil=>intro a;rfl
  |cons x l ih=>intro a;simp only[List.map_cons,List.foldl_cons,insD_map,ih]
 exact this l []
def bestD (r:Nat->Int):List Nat->Option Nat->Option Nat
 |[],b=>b
 |i::l,none=>bestD r l (some i)
 |i::l,some b=>if r b<r i then bestD r l (some i) else bestD r l (some b)
theorem bestD_some {r:Nat->Int}:∀ {l:List Nat} {b:Nat},(∀ i∈l,b<i)->l.Pairwise (·<·)->∃ c,bestD r l (some b)=some c/\(c=b\/c∈l)/\(c=b\/AheadD r c b)/\∀ i∈l,i=c\/AheadD r c i
 |[],b,_,_=>⟨b,rfl,.inl rfl,.inl rfl,by simp⟩
 |i::l,b,h,hl=>by
  obtain⟨h1,h2⟩:=List.pairwise_cons.mp hl
  unfold bestD
  split
  ·rename_i hr
   obtain⟨c,q1,q2,q3,q4⟩:=bestD_some (r:=r) (b:=i) h1 h2
   refine⟨c,q1,.inr (by rcases q2 with h|h<;>simp[h]),.inr ?_,λj hj=>?_⟩
   ·rcases q3 with rfl|q3
    ·exact .inl hr
    ·rcases q3 with q|q
     ·exact .inl (by omega)
     ·exact .inl (by omega)
   ·rcases List.mem_cons.mp hj with rfl|hj
    ·rcases q3 with rfl|q3
     ·exact .inl rfl
     ·exact .inr q3
    ·exact q4 j hj
  ·rename_i hr
   have hb:=h i (by simp)
   obtain⟨c,q1,q2,q3,q4⟩:=bestD_some (r:=r) (b:=b) (λj hj=>h j (by simp[hj])) h2
   refine⟨c,q1,by rcases q2 with h|h<;>simp[h],q3,λj hj=>?_⟩
   rcases List.mem_cons.mp hj with rfl|hj
   ·have hbi:AheadD r b j:=by
     by_cases he:r b=r j
     ·exact .inr ⟨he,hb⟩
     ·exact .inl (by omega)
    rcases q3 with rfl|q3
    ·exact .inr hbi
    ·right
     rcases q3 with q|q<;>rcases hbi with p|p
     ·exact .inl (by omega)
     ·exact .inl (by omega)
     ·exact .inl (by omega)
     ·exact .inr ⟨by omega,by omega⟩
   ·exact q4 j hj
theorem best_next {r:Nat->Int} {l:List Nat} (hl:l.Pairwise (·<·)) (h0:∀ i∈l,0<=r i) {t:Nat} (ht:t<l.length) {r':Nat->Int}
  (hr:∀ i∈l,r' i=if i∈(Ybo r l).take t then -1 else r i):bestD r' l none=(Ybo r l)[t]?:=by
 obtain⟨s1,s2,s3⟩:=isortD_facts (r:=r) hl
 have hT:t<(Ybo r l).length:=by omega
 generalize Ybo r l=S at s1 s2 s3 hr hT⊢
 rw[List.getElem?_eq_getElem hT]
 cases l with
 |nil=>simp at ht
 |cons a l=>
  obtain⟨h1,h2⟩:=List.pairwise_cons.mp hl
  obtain⟨c,q1,q2,q3,q4⟩:=bestD_some (r:=r') h1 h2
  unfold bestD
  rw[q1]
  congr 1
  have hnd:S.Nodup:=s1.imp λ{i j} h e=>by subst e;rcases h with h|h<;>omega
  have hSt:S[t]∉S.take t:=λh=>by
   obtain⟨i,hi,he⟩:=List.mem_take_iff_getElem.mp h
   have:=(List.getElem_inj hnd).mp he
   omega
  have hm:S[t]∈a::l:=(s2 _).mp (List.getElem_mem hT)
  have hrt:r' S[t]=r S[t]:=by rw[hr _ hm,if_neg hSt]
  have h0t:=h0 _ hm
  -- c is in the list,and nothing is ahead of it
  have hcm:c∈a::l:=by rcases q2 with h|h<;>simp[h]
  have hall:∀ i∈a::l,i=c\/AheadD r' c i:=λi hi=>by
   rcases List.mem_cons.mp hi with rfl|hi
   ·rcases q3 with rfl|q
    ·exact .inl rfl
    ·exact .inr q
   ·exact q4 i hi
  rcases hall _ hm with h|h
  ·exact h.symm
  ·exfalso
   have hcn:c∉S.take t:=λhc=>by
    have:=hr c hcm
    rw[if_pos hc] at this
    rcases h with h|h<;>omega
   have hcr:r' c=r c:=by rw[hr c hcm,if_neg hcn]
   obtain⟨j,hj,rfl⟩:=List.mem_iff_getElem.mp ((s2 c).mpr hcm)
   have hjt:t<j:=by
    rcases Nat.lt_trichotomy j t with q|q|q
    ·exact absurd (List.mem_take_iff_getElem.mpr ⟨j,by omega,rfl⟩) hcn
    ·subst q
     rcases h with h|h<;>omega
    ·exact q
   have:=List.pairwise_iff_getElem.mp s1 t j hT hj hjt
   rw[AheadD,hrt,hcr] at h
   rcases this with p|p<;>rcases h with q|q<;>omega
section
variable (w c o:Nat->Int) (L:Nat) (n:Int)
def opB (i:Nat):Bool:=decide (0<w i)&&decide (o i<c i)
def opL:List Nat:=(List.range L).filter (opB w c o)
def smL (l:List Nat):Int:=(l.map w).sum
abbrev smD:Int:=smL w (opL w c o L)
def bsD (s:Int) (i:Nat):Int:=Int.tdiv (n*w i) s
def rsD (s:Int) (i:Nat):Int:=Int.tmod (n*w i) s
def lfD (s:Int) (l:List Nat):Int:=n-(l.map (bsD w n s)).sum
def chD (s:Int) (l:List Nat):List Nat:=(Ybo (rsD w n s) l).take (lfD w n s l).toNat
def xD (s:Int) (l:List Nat) (i:Nat):Int:=bsD w n s i+if i∈chD w n s l then 1 else 0
def clD (s:Int) (l:List Nat) (i:Nat):Int:=if c i-o i<xD w n s l i then c i-o i else xD w n s l i
end
theorem sum_le {f:Nat->Int} {b:Int}:∀ {l:List Nat},(∀ i∈l,0<=f i/\f i<=b)->0<=(l.map f).sum/\(l.map f).sum<=b*l.length
 |[],_=>by simp
 |x::l,h=>by
  obtain⟨q1,q2⟩:=sum_le (f:=f) (b:=b) (l:=l) λi hi=>h i (by simp[hi])
  obtain⟨p1,p2⟩:=h x (by simp)
  simp only[List.map_cons,List.sum_cons,List.length_cons]
  have:b*((l.length+1:Nat):Int)=b*(l.length:Int)+b:=by rw[show((l.length+1:Nat):Int)=(l.length:Int)+1 by omega,Int.mul_add,Int.mul_one]
  omega
theorem sum_split {w:Nat->Int} {n s:Int} (hs:0<s) (hn:0<=n):∀ {l:List Nat},(∀ i∈l,0<=w i)->n*(l.map w).sum=s*(l.map (bsD w n s)).sum+(l.map (rsD w n s)).sum
 |[],_=>by simp
 |x::l,h=>by
  have ih:=sum_split (w:=w) hs hn (l:=l) λi hi=>h i (by simp[hi])
  have h1:s*bsD w n s x+rsD w n s x=n*w x:=Int.mul_tdiv_add_tmod (n*w x) s
  simp only[List.map_cons,List.sum_cons]
  rw[Int.mul_add,Int.mul_add,ih,<- h1]
  omega
theorem rsD_bound {w:Nat->Int} {n s:Int} (hs:0<s) (hn:0<=n) {i:Nat} (h:0<=w i):0<=rsD w n s i/\rsD w n s i<s/\0<=bsD w n s i:=by
 have h0:0<=n*w i:=Int.mul_nonneg hn h
 exact⟨Int.tmod_nonneg _ h0,Int.tmod_lt_of_pos _ hs,Int.tdiv_nonneg h0 (by omega)⟩
theorem lfD_bound {w:Nat->Int} {n:Int} {l:List Nat} (hn:0<=n) (hw:∀ i∈l,0<w i) (hl:l≠[]):0<smL w l/\0<=lfD w n (smL w l) l/\lfD w n (smL w l) l<l.length/\0<=(l.map (bsD w n (smL w l))).sum:=by
 have hs:0<smL w l:=by
  cases l with
  |nil=>exact absurd rfl hl
  |cons x l=>
   unfold smL
   have h1:=hw x (by simp)
   have h2:0<=(l.map w).sum:=by
    have:∀ {l:List Nat},(∀ i∈l,0<w i)->0<=(l.map w).sum:=λ{l}=>by
     induction l with
     |nil=>simp
     |cons y l ih=>
      intro h
      have:=h y (by simp)
      have:=ih λi hi=>h i (by simp[hi])
      simp only[List.map_cons,List.sum_cons]
      omega
    exact this λi hi=>hw i (by simp[hi])
   simp only[List.map_cons,List.sum_cons]
   omega
 have hsp:=sum_split (w:=w) (n:=n) hs hn (l:=l) λi hi=>Int.le_of_lt (hw i hi)
 have hr:=sum_le (f:=rsD w n (smL w l)) (b:=smL w l-1) (l:=l) λi hi=>by
  obtain⟨p1,p2,_⟩:=rsD_bound (w:=w) (n:=n) hs hn (i:=i) (Int.le_of_lt (hw i hi))
  omega
 change n*smL w l=_ at hsp
 have hb0:0<=(l.map (bsD w n (smL w l))).sum:=by
  have:∀ {l':List Nat} {s:Int},0<s->(∀ i∈l',0<w i)->0<=(l'.map (bsD w n s)).sum:=λ{l' s} hs=>by
   induction l' with
   |nil=>simp
   |cons y l ih=>
    intro h
    obtain⟨_,_,p⟩:=rsD_bound (w:=w) (n:=n) hs hn (i:=y) (Int.le_of_lt (h y (by simp)))
    have:=ih λi hi=>h i (by simp[hi])
    simp only[List.map_cons,List.sum_cons]
    omega
  exact this hs hw
 generalize(l.map (rsD w n (smL w l))).sum=R at hsp hr
 have hlf:smL w l*lfD w n (smL w l) l=R:=by
  unfold lfD
  rw[Int.mul_sub,Int.mul_comm _ n,hsp]
  omega
 refine⟨hs,?_,?_,hb0⟩
 ·generalize lfD w n (smL w l) l=f at hlf
  apply Int.not_lt.mp
  intro h
  have:=Int.mul_neg_of_pos_of_neg hs h
  omega
 ·generalize lfD w n (smL w l) l=f at hlf
  have h1:smL w l*f<smL w l*l.length:=by
   rw[hlf]
   have:(smL w l-1)*(l.length:Int)=smL w l*l.length-l.length:=by rw[Int.sub_mul,Int.one_mul]
   have h2:0<l.length:=List.length_pos_iff.mpr hl
   omega
  exact Int.lt_of_mul_lt_mul_left h1 (Int.le_of_lt hs)
theorem opL_facts {w c o:Nat->Int} {L:Nat}:(opL w c o L).Pairwise (·<·)/\∀ i,i∈opL w c o L↔i<L/\0<w i/\o i<c i:=by
 refine⟨List.Pairwise.filter _ List.pairwise_lt_range,λi=>?_⟩
 simp[opL,opB]
theorem xD_sum {w:Nat->Int} {n:Int} {l:List Nat} (hp:l.Pairwise (·<·)) (hn:0<=n) (hw:∀ i∈l,0<w i) (hl:l≠[]):(l.map (xD w n (smL w l) l)).sum=n:=by
 obtain⟨h1,h2,h3,_⟩:=lfD_bound hn hw hl
 generalize hs:smL w l=s at h1 h2 h3
 obtain⟨s1,s2,s3⟩:=isortD_facts (r:=rsD w n s) hp
 have hnd:(chD w n s l).Nodup:=by
  have:(Ybo (rsD w n s) l).Nodup:=s1.imp λ{i j} h e=>by subst e;rcases h with h|h<;>omega
  exact this.sublist (List.take_sublist _ _)
 have hlen:((chD w n s l).length:Int)=lfD w n s l:=by
  unfold chD
  rw[List.length_take,s3]
  omega
 have hsub:∀ i∈chD w n s l,i∈l:=λi hi=>(s2 i).mp (List.mem_of_mem_take hi)
 have hcount:∀ (l:List Nat),l.Pairwise (·<·)->∀ (ch:List Nat),ch.Nodup->(∀ i∈ch,i∈l)->(l.map λi=>if i∈ch then(1:Int) else 0).sum=ch.length:=by
  intro l
  induction l with
  |nil=>
   intro _ ch _ h
   cases ch with
   |nil=>rfl
   |cons x ch=>exact absurd (h x (by simp)) (by simp)
  |cons x l ih=>
   intro hp ch hnd hsub
   obtain⟨p1,p2⟩:=List.pairwise_cons.mp hp
   simp only[List.map_cons,List.sum_cons]
   have hx:x∉l:=λh=>by have:=p1 x h;omega
   have e:(l.map λi=>if i∈ch then(1:Int) else 0)=l.map λi=>if i∈ch.erase x then(1:Int) else 0:=List.map_congr_left λi hi=>by
    have:i≠x:=λh=>hx (h▸hi)
    simp only[List.mem_erase_of_ne this]
   rw[e,ih p2 (ch.erase x) (hnd.erase x) λi hi=>by
    have hne:i≠x:=λh=>by subst h;exact(List.Nodup.not_mem_erase hnd) hi
    rcases List.mem_cons.mp (hsub i (List.mem_of_mem_erase hi)) with h|h
    ·exact absurd h hne
    ·exact h]
   by_cases hm:x∈ch
   ·rw[if_pos hm,List.length_erase_of_mem hm]
    have:=List.length_pos_of_mem hm
    omega
   ·rw[if_neg hm,List.erase_of_not_mem hm]
    omega
 have hadd:∀ (l:List Nat) (f g:Nat->Int),(l.map λi=>f i+g i).sum=(l.map f).sum+(l.map g).sum:=by
  intro l f g
  induction l with
  |nil=>rfl
  |cons x l ih=>simp only[List.map_cons,List.sum_cons,ih];omega
 have:l.map (xD w n s l)=l.map λi=>bsD w n s i+(if i∈chD w n s l then(1:Int) else 0):=rfl
 rw[this,hadd,hcount l hp _ hnd hsub,hlen]
 unfold lfD
 omega
theorem clD_sum {w c o:Nat->Int} {n:Int} {l:List Nat} (hp:l.Pairwise (·<·)) (hn:0<n) (hw:∀ i∈l,0<w i) (hc:∀ i∈l,o i<c i) (hl:l≠[]):
  (∀ i∈l,0<=clD w c o n (smL w l) l i/\clD w c o n (smL w l) l i<=c i-o i/\0<=xD w n (smL w l) l i)/\0<(l.map (clD w c o n (smL w l) l)).sum/\(l.map (clD w c o n (smL w l) l)).sum<=n:=by
 obtain⟨h1,h2,h3,_⟩:=lfD_bound (Int.le_of_lt hn) hw hl
 have hx:=xD_sum hp (Int.le_of_lt hn) hw hl
 generalize smL w l=s at *
 have hx0:∀ i∈l,0<=xD w n s l i:=λi hi=>by
  obtain⟨_,_,p⟩:=rsD_bound (w:=w) (n:=n) h1 (Int.le_of_lt hn) (i:=i) (Int.le_of_lt (hw i hi))
  unfold xD
  split<;>omega
 have hcl:∀ i∈l,0<=clD w c o n s l i/\clD w c o n s l i<=c i-o i/\clD w c o n s l i<=xD w n s l i/\(0<xD w n s l i->0<clD w c o n s l i):=λi hi=>by
  have:=hx0 i hi
  have:=hc i hi
  unfold clD
  split<;>omega
 refine⟨λi hi=>⟨(hcl i hi).1,(hcl i hi).2.1,hx0 i hi⟩,?_⟩
 have gen:∀ l':List Nat,(∀ i∈l',i∈l)->0<=(l'.map (clD w c o n s l)).sum/\(l'.map (clD w c o n s l)).sum<=(l'.map (xD w n s l)).sum/\(0<(l'.map (xD w n s l)).sum->0<(l'.map (clD w c o n s l)).sum):=by
  intro l'
  induction l' with
  |nil=>intro _;simp
  |cons y l' ih=>
   intro h
   obtain⟨q1,q2,q3⟩:=ih λi hi=>h i (by simp[hi])
   obtain⟨p1,_,p2,p3⟩:=hcl y (h y (by simp))
   have:=hx0 y (h y (by simp))
   simp only[List.map_cons,List.sum_cons]
   refine⟨by omega,by omega,λh=>?_⟩
   by_cases h0:0<xD w n s l y
   ·have:=p3 h0;omega
   ·have:=q3 (by omega);omega
 have:=gen l λi hi=>hi
 rw[hx] at this
 exact⟨this.2.2 hn,this.2.1⟩
def rowF (L:Nat) (g:Nat->C):LC:=(List.range L).map λj=>[g j]
def rowD (L:Nat) (g:Nat->D):LD:=(List.range L).map λj=>[g j]
abbrev cI (o:Nat->Int):Nat->C:=λj=>.d (.int .i64 (o j))
abbrev cB (o:Nat->Bool):Nat->C:=λj=>.d (.bool (o j))
theorem rowF_len (L:Nat) (g:Nat->C):(rowF L g).length=L:=by simp[rowF]
theorem rowD_len (L:Nat) (g:Nat->D):(rowD L g).length=L:=by simp[rowD]
theorem rowF_ext {L:Nat} {g h:Nat->C} (e:∀ j,j<L->g j=h j):rowF L g=rowF L h:=List.map_congr_left λj hj=>by rw[e j (List.mem_range.mp hj)]
theorem rowF_at {L:Nat} {g:Nat->C} {i:Nat} (h:i<L) {β:Type} (F:List C->Option β):ZaR (rowF L g) i F=F [g i]:=by
 unfold ZaR rowF
 rw[List.getElem?_map,List.getElem?_range h]
 rfl
theorem rowF_mod {L:Nat} {g:Nat->C} {i:Nat} (h:i<L) (x:C):((rowF L g).modify i λc=>Zs c 0 [x])=rowF L (λj=>if j=i then x else g j):=by
 refine List.ext_getElem (by simp[rowF]) λj h1 h2=>?_
 rw[List.getElem_modify]
 simp only[rowF,List.getElem_map,List.getElem_range]
 by_cases hj:i=j
 ·subst hj;simp[Zs]
 ·rw[if_neg hj,if_neg (λh=>hj h.symm)]
theorem rowF_rep (L:Nat) (x:C):List.replicate L [x]=rowF L (λ_=>x):=by
 refine List.ext_getElem (by simp[rowF]) λj h1 h2=>?_
 simp[rowF]
theorem immRows_map:∀ (l:LC),C.immRows l=l.map C.immCells
 |[]=>rfl
 |x::l=>by simp only[C.immRows,List.map_cons,immRows_map l]
theorem imm_rowF (L:Nat) (g:Nat->C):C.immRows (rowF L g)=rowD L (λj=>(g j).imm):=by
 rw[immRows_map,rowF,rowD,List.map_map]
 rfl
theorem rowD_at {L:Nat} {g:Nat->D} {i:Nat} (h:i<L) {β:Type} (F:List D->Option β):atRow (rowD L g) (i:Int) F=F [g i]:=by
 unfold atRow
 rw[if_pos (by omega),Int.toNat_natCast]
 unfold ZaR rowD
 rw[List.getElem?_map,List.getElem?_range h]
 rfl
theorem deep_rowI {L:Nat} {o:Nat->Int}:Zc (rowD L (λj=>.int .i64 (o j)))=rowF L (cI o):=by
 have:∀ l:List Nat,Zc (l.map λj=>[D.int .i64 (o j)])=l.map λj=>[C.d (.int .i64 (o j))]:=λl=>by
  induction l with
  |nil=>rfl
  |cons x l ih=>simp only[List.map_cons,Zc,ZN,deepD,ih]
 exact this _
def upN (l:List Nat):LC:=l.map λ(x:Nat)=>[.d (.int .i64 (x:Int))]
def ofN (l:List Nat):LD:=l.map λ(x:Nat)=>[.int .i64 (x:Int)]
theorem upN_len (l:List Nat):(upN l).length=l.length:=by simp[upN]
theorem ofN_len (l:List Nat):(ofN l).length=l.length:=by simp[ofN]
theorem upN_app (a b:List Nat):upN a++upN b=upN (a++b):=by simp[upN]
theorem imm_upN (l:List Nat):C.immRows (upN l)=ofN l:=by
 rw[immRows_map,upN,ofN,List.map_map]
 rfl
theorem upN_at {l:List Nat} {i:Nat} (h:i<l.length) {β:Type} (F:List C->Option β):ZaR (upN l) i F=F [.d (.int .i64 (l[i]:Int))]:=by simp[ZaR,upN,h]
theorem ofN_at {l:List Nat} {i:Nat} (h:i<l.length) {β:Type} (F:List D->Option β):atRow (ofN l) (i:Int) F=F [.int .i64 (l[i]:Int)]:=by
 unfold atRow
 rw[if_pos (by omega),Int.toNat_natCast]
 simp[ZaR,ofN,h]
theorem range_filter_succ (p:Nat->Bool) (i:Nat):(List.range (i+1)).filter p=(List.range i).filter p++(if p i then[i] else[]):=by
 rw[List.range_succ,List.filter_append]
 simp[List.filter_cons]
section
variable {α:Type} (less same:α->α->Bool)
structure Ordered:Prop where
 irr:∀ x y,same x y=true->less x y=false
 tri:∀ x y,less x y=false->same x y=false->less y x=true
 asym:∀ x y,less x y=true->less y x=false
 trans:∀ x y z,less x y=true->less y z=true->less x z=true
 cong:∀ x y z,same x y=true->less y z=true->less x z=true
 sym:∀ x y,same x y=true->same y x=true
def withF (o o':α):Bool->List α->List α
 |put,[]=>if put then[] else[o']
 |put,x::xs=>(if !put&&!less x o then[o'] else[])++((if same x o then[] else[x])++withF o o' (put||!less x o) xs)
def lbF (o:α) (l:List α):Nat:=(l.takeWhile λx=>less x o).length
def hitF (o:α) (l:List α):Bool:=match l[lbF less o l]? with|some x=>same x o|none=>false
end
section
variable {α:Type} {less same:α->α->Bool} (H:Ordered less same) {o o':α}
include H
theorem withF_past:∀ {l:List α},(∀ x∈l,less o x=true)->withF less same o o' true l=l
 |[],_=>rfl
 |x::xs,h=>by
  have hx:=h x (by simp)
  have hs:same x o=false:=by
   cases q:same x o
   ·rfl
   ·have:=H.irr o x (H.sym _ _ q)
    rw[hx] at this;cases this
  unfold withF
  rw[hs,Bool.true_or,withF_past λy hy=>h y (by simp[hy])]
  rfl
theorem withF_eq:∀ {l:List α},l.Pairwise (λx y=>less x y=true)->withF less same o o' false l=l.take (lbF less o l)++o'::l.drop (lbF less o l+if hitF less same o l then 1 else 0)
 |[],_=>rfl
 |x::xs,h=>by
  obtain⟨h1,h2⟩:=List.pairwise_cons.mp h
  cases hx:less x o with
  |true=>
   have hs:same x o=false:=by
    cases q:same x o
    ·rfl
    ·have:=H.irr _ _ q
     rw[hx] at this;cases this
   have e:lbF less o (x::xs)=lbF less o xs+1:=by simp[lbF,List.takeWhile_cons,hx]
   have e2:hitF less same o (x::xs)=hitF less same o xs:=by unfold hitF;rw[e];rfl
   unfold withF
   rw[hx,hs]
   show[x]++withF less same o o' false xs=_
   rw[withF_eq h2,e,e2]
   simp only[List.nil_append,List.take_succ_cons,List.cons_append]
   rw[show lbF less o xs+1+(if hitF less same o xs=true then 1 else 0)=(lbF less o xs+if hitF less same o xs=true then 1 else 0)+1 by omega,List.drop_succ_cons]
  |false=>
   have e:lbF less o (x::xs)=0:=by simp[lbF,List.takeWhile_cons,hx]
   have e2:hitF less same o (x::xs)=same x o:=by unfold hitF;rw[e];rfl
   have hp:∀ y∈xs,less o y=true:=λy hy=>by
    cases hs:same x o with
    |true=>exact H.cong _ _ _ (H.sym _ _ hs) (h1 y hy)
    |false=>exact H.trans _ _ _ (H.tri _ _ hx hs) (h1 y hy)
   unfold withF
   rw[hx,Bool.not_false,Bool.false_or,withF_past H hp,e,e2]
   cases same x o<;>simp
omit H in
theorem lbF_below:∀ {l:List α} {i:Nat} (hi:i<l.length),i<lbF less o l->less l[i] o=true
 |x::xs,i,hi,h=>by
  cases hx:less x o with
  |false=>simp[lbF,List.takeWhile_cons,hx] at h
  |true=>
   cases i with
   |zero=>exact hx
   |succ i=>exact lbF_below (l:=xs) (by simpa using hi) (by simpa[lbF,List.takeWhile_cons,hx] using h)
theorem lbF_above:∀ {l:List α} (_:l.Pairwise (λx y=>less x y=true)) {i:Nat} (hi:i<l.length),lbF less o l<=i->less l[i] o=false
 |x::xs,hp,i,hi,h=>by
  obtain⟨h1,h2⟩:=List.pairwise_cons.mp hp
  cases hx:less x o with
  |true=>
   cases i with
   |zero=>simp[lbF,List.takeWhile_cons,hx] at h
   |succ i=>exact lbF_above h2 (by simpa using hi) (by simpa[lbF,List.takeWhile_cons,hx] using h)
  |false=>
   cases i with
   |zero=>exact hx
   |succ i=>
    have hxi:=h1 (xs[i]'(by simpa using hi)) (List.getElem_mem _)
    show less (xs[i]'(by simpa using hi)) o=false
    cases q:less (xs[i]'(by simpa using hi)) o with
    |false=>rfl
    |true=>
     have:=H.trans _ _ _ hxi q
     rw[hx] at this;cases this
end
theorem bl_step (x y:UInt8) (xs ys:List UInt8):Op.bytesLess (x::xs) (y::ys)=true↔x.toNat<y.toNat\/(x=y/\Op.bytesLess xs ys=true):=by
 rw[show Op.bytesLess (x::xs) (y::ys)=(decide (x<y)||(x==y&&Op.bytesLess xs ys)) by simp only[Op.bytesLess]]
 by_cases h:x<y
 ·have:x.toNat<y.toNat:=UInt8.lt_iff_toNat_lt.mp h
  simp[h,this]
 ·have hn:¬ x.toNat<y.toNat:=λq=>h (UInt8.lt_iff_toNat_lt.mpr q)
  by_cases e:x=y
  ·subst e;simp[h]
  ·have h2:y<x:=by
    refine UInt8.lt_iff_toNat_lt.mpr ?_
    have:x.toNat≠y.toNat:=λq=>e (UInt8.toNat_inj.mp q)
    omega
   simp[h,hn,e,h2]
theorem bl_trans:∀ {x y z:List UInt8},Op.bytesLess x y=true->Op.bytesLess y z=true->Op.bytesLess x z=true
 |[],[],z,h,_=>by simp[Op.bytesLess] at h
 |[],_::_,[],_,h=>by simp[Op.bytesLess] at h
 |[],_::_,_::_,_,_=>by simp[Op.bytesLess]
 |_::_,[],_,h,_=>by simp[Op.bytesLess] at h
 |_::_,_::_,[],_,h=>by simp[Op.bytesLess] at h
 |x::xs,y::ys,z::zs,h1,h2=>by
  rw[bl_step] at h1 h2⊢
  rcases h1 with h1|⟨rfl,h1⟩<;>rcases h2 with h2|⟨rfl,h2⟩
  ·exact .inl (by omega)
  ·exact .inl h1
  ·exact .inl h2
  ·exact .inr ⟨rfl,bl_trans h1 h2⟩
theorem bl_irr:∀ x:List UInt8,Op.bytesLess x x=false
 |[]=>by simp[Op.bytesLess]
 |x::xs=>by
  cases h:Op.bytesLess (x::xs) (x::xs)
  ·rfl
  ·rw[bl_step] at h
   rcases h with h|⟨_,h⟩
   ·omega
   ·rw[bl_irr xs] at h;cases h
theorem bl_tri:∀ {x y:List UInt8},Op.bytesLess x y=false->x≠y->Op.bytesLess y x=true
 |[],[],_,h=>absurd rfl h
 |[],_::_,h,_=>by simp[Op.bytesLess] at h
 |_::_,[],_,_=>by simp[Op.bytesLess]
 |x::xs,y::ys,h,hne=>by
  rw[bl_step]
  have h':¬ (x.toNat<y.toNat\/(x=y/\Op.bytesLess xs ys=true)):=λq=>by rw[(bl_step x y xs ys).mpr q] at h;cases h
  by_cases e:x=y
  ·subst e
   refine .inr ⟨rfl,bl_tri ?_ λq=>hne (by rw[q])⟩
   cases q:Op.bytesLess xs ys
   ·rfl
   ·exact absurd (.inr ⟨rfl,q⟩) h'
  ·have:x.toNat≠y.toNat:=λq=>e (UInt8.toNat_inj.mp q)
   exact .inl (by have:=λq=>h' (.inl q);omega)
theorem strEq_iff2 {a b:BA}:Zae a b=true↔a.toList=b.toList:=by unfold Zae;exact beq_iff_eq
theorem halfF {x:Int} (h0:0<=x) (h1:x<4611686018427387904):Int.fdiv (IntKind.wrap .u64 (IntKind.wrap .i64 x)) (2^(min (1:Int).toNat 64))=x/2:=by
 rw[Z9 (by omega) (by omega)]
 have:IntKind.wrap .u64 x=x:=by simp only[IntKind.wrap,IntKind.signed,IntKind.bits];simp;omega
 rw[this,show(min (1:Int).toNat 64)=1 from rfl,Int.pow_one,Int.fdiv_eq_ediv_of_nonneg _ (by decide)]
theorem withF_nil {α:Type} {less same:α->α->Bool} {o o':α} {put:Bool}:withF less same o o' put []=if put then[] else[o']:=by unfold withF;rfl
theorem gR_lt {l:LD} {i:Nat} (hi:i<l.length):gR l (i:Int)=l[i]:=by
 unfold gR
 rw[Int.toNat_natCast,List.getD_eq_getElem?_getD,List.getElem?_eq_getElem hi]
 rfl
theorem Ybg:∀ r:List D,(ZN r).length=r.length
 |[]=>by simp only[ZN,List.length_nil]
 |d::r=>by simp only[ZN,List.length_cons,Ybg r]
theorem deepRows_mod {f:List C->List C} {o:List D}:∀ {l:LD} {i:Nat},i<l.length->(∀ r,l[i]? = some r->f (ZN r)=ZN o)->(Zc l).modify i f=Zc (l.take i++o::l.drop (i+1))
 |[],i,h,_=>absurd h (by simp)
 |r::xs,0,_,h2=>by
  simp only[Zc,List.modify_zero_cons,List.take_zero,List.nil_append,List.drop_succ_cons,List.drop_zero]
  rw[h2 r rfl]
 |r::xs,i+1,h1,h2=>by
  simp only[Zc,List.modify_succ_cons,List.take_succ_cons,List.cons_append,List.drop_succ_cons]
  rw[deepRows_mod (by simpa using h1) λx hx=>h2 x (by simpa using hx)]
theorem Ybd:∀ {l:LD} {i:Nat},(Zc l).take i=Zc (l.take i)
 |[],i=>by simp only[Zc,List.take_nil]
 |_::_,0=>by simp only[Zc,List.take_zero]
 |r::xs,i+1=>by simp only[Zc,List.take_succ_cons,Ybd]
theorem Ybe:∀ {l:LD} {i:Nat},(Zc l).drop i=Zc (l.drop i)
 |[],i=>by simp only[Zc,List.drop_nil]
 |_::_,0=>by simp only[Zc,List.drop_zero]
 |r::xs,i+1=>by simp only[Zc,List.drop_succ_cons,Ybe]
theorem splice_full {α:Type} {c n:List α} (h:c.length=n.length):Zs c 0 n=n:=by
 unfold Zs
 rw[List.take_zero,List.nil_append,Nat.zero_add,List.drop_eq_nil_of_le (by omega),List.append_nil]
def ltK (key:Nat->Int) (i j:Nat):Prop:=key i<key j\/(key i=key j/\i<j)
theorem ltK_tr {key:Nat->Int} {i j l:Nat} (h:ltK key i j) (h':ltK key j l):ltK key i l:=by
 unfold ltK at *;omega
theorem ltK_as {key:Nat->Int} {i j:Nat} (h:ltK key i j):¬ ltK key j i:=by
 unfold ltK at *;omega
theorem st_uniq {key:Nat->Int}:∀ {L M:List Nat},L.Pairwise (ltK key)->M.Pairwise (ltK key)->(∀ x,x∈L↔x∈M)->L=M
 |[],[],_,_,_=>rfl
 |[],y::M,_,_,h=>by have:=(h y).mpr (by simp);simp at this
 |x::L,[],_,_,h=>by have:=(h x).mp (by simp);simp at this
 |x::L,y::M,hL,hM,h=>by
  obtain⟨hx,hL2⟩:=List.pairwise_cons.mp hL
  obtain⟨hy,hM2⟩:=List.pairwise_cons.mp hM
  have e:x=y:=by
   rcases List.mem_cons.mp ((h x).mp (by simp)) with e|e
   ·exact e
   ·rcases List.mem_cons.mp ((h y).mpr (by simp)) with e2|e2
    ·exact e2.symm
    ·exact absurd (hy x e) (ltK_as (hx y e2))
  subst e
  refine congrArg _ (st_uniq hL2 hM2 λz=>⟨λhz=>?_,λhz=>?_⟩)
  ·rcases List.mem_cons.mp ((h z).mp (by simp[hz])) with e|e
   ·subst e;exact absurd (hx z hz) (λq=>ltK_as q q)
   ·exact e
  ·rcases List.mem_cons.mp ((h z).mpr (by simp[hz])) with e|e
   ·subst e;exact absurd (hy z hz) (λq=>ltK_as q q)
   ·exact e
def StOf (key:Nat->Int) (L R:List Nat):Prop:=R.Pairwise (ltK key)/\R.Perm L
theorem StOf.len {key:Nat->Int} {L R:List Nat} (h:StOf key L R):R.length=L.length:=h.2.length_eq
theorem st_join {key:Nat->Int} {A1 A2 B1 B2 R1 R2:List Nat} (hA:(A1++A2).Pairwise (ltK key)) (hB:(B1++B2).Pairwise (ltK key)) (h1:∀ x∈A1,∀ y∈B2,ltK key x y) (h2:∀ x∈A2,∀ y∈B1,ltK key y x)
  (r1:StOf key (A1++B1) R1) (r2:StOf key (A2++B2) R2):StOf key ((A1++A2)++(B1++B2)) (R1++R2):=by
 refine⟨List.pairwise_append.mpr ⟨r1.1,r2.1,λx hx y hy=>?_⟩,?_⟩
 ·have hA3:=(List.pairwise_append.mp hA).2.2
  have hB3:=(List.pairwise_append.mp hB).2.2
  rcases List.mem_append.mp (r1.2.mem_iff.mp hx) with hx|hx<;>rcases List.mem_append.mp (r2.2.mem_iff.mp hy) with hy|hy
  ·exact hA3 x hx y hy
  ·exact h1 x hx y hy
  ·exact h2 y hy x hx
  ·exact hB3 x hx y hy
 ·refine(r1.2.append r2.2).trans ?_
  rw[List.append_assoc,List.append_assoc]
  refine List.Perm.append_left A1 ?_
  rw[<- List.append_assoc,<- List.append_assoc]
  exact List.Perm.append_right B2 List.perm_append_comm
theorem st_cut {key:Nat->Int} {L:List Nat} (h:L.Pairwise (ltK key)) {i j:Nat} (hi:i<L.length) (hj:j<L.length) (hij:i<j):ltK key L[i] L[j]:=List.pairwise_iff_getElem.mp h i j hi hj hij
theorem st_le {key:Nat->Int} {L:List Nat} (h:L.Pairwise (ltK key)) {i j:Nat} (hi:i<L.length) (hj:j<L.length) (hij:i<=j):L[i]=L[j]\/ltK key L[i] L[j]:=by
 rcases Nat.lt_or_eq_of_le hij with h1|h1
 ·exact .inr (st_cut h hi hj h1)
 ·subst h1;exact .inl rfl
theorem mem_take_get {L:List Nat} {s x:Nat} (h:x∈L.take s):∃ i,∃ (hi:i<L.length),i<s/\L[i]=x:=by
 obtain⟨i,hi,rfl⟩:=List.mem_iff_getElem.mp h
 rw[List.length_take] at hi
 exact⟨i,by omega,by omega,by simp⟩
theorem mem_drop_get {L:List Nat} {s x:Nat} (h:x∈L.drop s):∃ i,∃ (hi:i<L.length),s<=i/\L[i]=x:=by
 obtain⟨i,hi,rfl⟩:=List.mem_iff_getElem.mp h
 rw[List.length_drop] at hi
 exact⟨s+i,by omega,by omega,by simp⟩
theorem st_across {key:Nat->Int} {A B:List Nat} (hA:A.Pairwise (ltK key)) (hB:B.Pairwise (ltK key)) {s e:Nat} (h:∀ (h0:0<s) (h1:s<=A.length) (h2:e<B.length),ltK key (A[s-1]'(by omega)) B[e]) (hs:s<=A.length):∀ x∈A.take s,∀ y∈B.drop e,ltK key x y:=by
 intro x hx y hy
 obtain⟨i,hi,his,rfl⟩:=mem_take_get hx
 obtain⟨j,hj,hej,rfl⟩:=mem_drop_get hy
 have h0:=h (by omega) hs (by omega)
 have h1:A[i]=A[s-1]'(by omega)\/ltK key A[i] (A[s-1]'(by omega)):=st_le hA hi (by omega) (by omega)
 have h2:B[e]'(by omega)=B[j]\/ltK key (B[e]'(by omega)) B[j]:=st_le hB (by omega) hj hej
 rcases h1 with h1|h1<;>rcases h2 with h2|h2
 ·rw[h1,<- h2];exact h0
 ·rw[h1];exact ltK_tr h0 h2
 ·rw[<- h2];exact ltK_tr h1 h0
 ·exact ltK_tr h1 (ltK_tr h0 h2)
def leK (key:Nat->Int) (i j:Nat):Bool:=decide (key i<key j\/(key i=key j/\i<=j))
def srtK (key:Nat->Int) (L:List Nat):List Nat:=L.mergeSort (leK key)
theorem srtK_of {key:Nat->Int} {L:List Nat} (h:L.Nodup):StOf key L (srtK key L):=by
 have hp:(srtK key L).Perm L:=List.mergeSort_perm L _
 have h1:(srtK key L).Pairwise (λa b=>leK key a b=true):=List.pairwise_mergeSort (λa b c h1 h2=>by simp only[leK,decide_eq_true_eq] at *;omega) (λa b=>by simp only[leK,Bool.or_eq_true,decide_eq_true_eq];omega) L
 have h2:(srtK key L).Nodup:=hp.nodup_iff.mpr h
 refine⟨?_,hp⟩
 refine List.Pairwise.imp ?_ (h1.and h2)
 intro a b ⟨h3,h4⟩
 simp only[leK,decide_eq_true_eq] at h3
 unfold ltK
 omega
theorem StOf.nodup {key:Nat->Int} {L R:List Nat} (h:StOf key L R):L.Nodup:=by
 refine h.2.nodup_iff.mp (List.Pairwise.imp ?_ h.1)
 intro a b h1 h2
 subst h2
 exact ltK_as h1 h1
theorem srtK_eq {key:Nat->Int} {L R:List Nat} (h:StOf key L R):R=srtK key L:=by
 have h2:=srtK_of (key:=key) h.nodup
 exact st_uniq h.1 h2.1 λx=>by rw[h.2.mem_iff,h2.2.mem_iff]
theorem srtK_len {key:Nat->Int} {L:List Nat}:(srtK key L).length=L.length:=(List.mergeSort_perm L _).length_eq
theorem srtK_mem {key:Nat->Int} {L:List Nat} {x:Nat}:x∈srtK key L↔x∈L:=(List.mergeSort_perm L _).mem_iff
theorem srtK_self {key:Nat->Int} {L:List Nat} (h:L.Pairwise (ltK key)):srtK key L=L:=(srtK_eq ⟨h,List.Perm.refl _⟩).symm
def cmpL (key:Nat->Int):Nat->List Nat->List Nat
 |_,[]=>[]
 |x,s::r=>bif key s==key x then cmpL key s r else s::cmpL key s r
theorem cmpL_spec {key:Nat->Int}:∀ {r:List Nat} {x:Nat},(x::r).Pairwise (ltK key)->(cmpL key x r).Pairwise (λi j=>key i<key j)/\(∀ y∈cmpL key x r,key x<key y)/\∀ y,y∈cmpL key x r↔y∈r/\key y≠key x/\∀ z∈r,key z=key y->y<=z
 |[],x,_=>⟨List.Pairwise.nil,by simp[cmpL],by simp[cmpL]⟩
 |s::r,x,h=>by
  obtain⟨hx,h2⟩:=List.pairwise_cons.mp h
  obtain⟨hs,h3⟩:=List.pairwise_cons.mp h2
  obtain⟨i1,i2,i3⟩:=cmpL_spec h2
  have hxs:=hx s (by simp)
  have hkx:∀ y∈r,key s<=key y:=λy hy=>by have:=hs y hy;unfold ltK at this;omega
  unfold cmpL
  cases hq:key s==key x with
  |true=>
   have hq:=eq_of_beq hq
   simp only[cond_true]
   refine⟨i1,λy hy=>by have:=i2 y hy;omega,λy=>?_⟩
   rw[i3 y]
   refine⟨λ⟨a,b,c⟩=>⟨by simp[a],by omega,λz hz he=>?_⟩,λ⟨a,b,c⟩=>⟨?_,by omega,λz hz he=>c z (by simp[hz]) he⟩⟩
   ·rcases List.mem_cons.mp hz with rfl|hz
    ·exact absurd he.symm b
    ·exact c z hz he
   ·rcases List.mem_cons.mp a with rfl|a
    ·exact absurd hq b
    ·exact a
  |false=>
   have hq:=ne_of_beq_false hq
   simp only[cond_false]
   have hlt:key x<key s:=by unfold ltK at hxs;omega
   refine⟨List.pairwise_cons.mpr ⟨i2,i1⟩,λy hy=>?_,λy=>?_⟩
   ·rcases List.mem_cons.mp hy with rfl|hy
    ·exact hlt
    ·have:=i2 y hy;omega
   ·refine⟨λhy=>?_,λ⟨a,b,c⟩=>?_⟩
    ·rcases List.mem_cons.mp hy with rfl|hy
     ·refine⟨by simp,hq,λz hz he=>?_⟩
      rcases List.mem_cons.mp hz with rfl|hz
      ·exact Nat.le_refl _
      ·have:=hs z hz;unfold ltK at this;omega
     ·obtain⟨a,b,c⟩:=(i3 y).mp hy
      have:=hkx y a
      refine⟨by simp[a],by omega,λz hz he=>?_⟩
      rcases List.mem_cons.mp hz with rfl|hz
      ·exact absurd he.symm b
      ·exact c z hz he
    ·rcases List.mem_cons.mp a with rfl|a
     ·simp
     ·refine List.mem_cons.mpr (.inr ((i3 y).mpr ⟨a,λhe=>?_,λz hz he=>c z (by simp[hz]) he⟩))
      have h4:=c s (by simp) he.symm
      have h5:=hs y a
      unfold ltK at h5;omega
def cmpA (key:Nat->Int):List Nat->List Nat
 |[]=>[]
 |x::r=>x::cmpL key x r
theorem cmpA_spec {key:Nat->Int} {L:List Nat} (h:L.Pairwise (ltK key)):(cmpA key L).Pairwise (λi j=>key i<key j)/\∀ y,y∈cmpA key L↔y∈L/\∀ z∈L,key z=key y->y<=z:=by
 cases L with
 |nil=>exact⟨List.Pairwise.nil,by simp[cmpA]⟩
 |cons x r=>
  obtain⟨i1,i2,i3⟩:=cmpL_spec h
  obtain⟨hx,h2⟩:=List.pairwise_cons.mp h
  unfold cmpA
  refine⟨List.pairwise_cons.mpr ⟨i2,i1⟩,λy=>⟨λhy=>?_,λ⟨a,c⟩=>?_⟩⟩
  ·rcases List.mem_cons.mp hy with rfl|hy
   ·refine⟨by simp,λz hz he=>?_⟩
    rcases List.mem_cons.mp hz with rfl|hz
    ·exact Nat.le_refl _
    ·have:=hx z hz;unfold ltK at this;omega
   ·obtain⟨a,b,c⟩:=(i3 y).mp hy
    refine⟨by simp[a],λz hz he=>?_⟩
    rcases List.mem_cons.mp hz with rfl|hz
    ·exact absurd he.symm b
    ·exact c z hz he
  ·rcases List.mem_cons.mp a with rfl|a
   ·simp
   ·refine List.mem_cons.mpr (.inr ((i3 y).mpr ⟨a,λhe=>?_,λz hz he=>c z (by simp[hz]) he⟩))
    have h4:=c x (by simp) he.symm
    have h5:=hx y a
    unfold ltK at h5;omega
structure Firsts (key:Nat->Int) (n:Nat) (O:List Nat):Prop where
 asc:O.Pairwise (λi j=>key i<key j)
 mem:∀ y,y∈O↔y<n/\∀ z,z<y->key z≠key y
theorem Firsts.uniq {key:Nat->Int} {n:Nat} {O M:List Nat} (h:Firsts key n O) (h':Firsts key n M):O=M:=
 st_uniq (key:=key) (h.asc.imp λq=>.inl q) (h'.asc.imp λq=>.inl q) λx=>by rw[h.mem,h'.mem]
theorem firsts_cmpA {key:Nat->Int} {n:Nat}:Firsts key n (cmpA key (srtK key (List.range n))):=by
 obtain⟨h1,h2⟩:=cmpA_spec (srtK_of (key:=key) (List.nodup_range (n:=n))).1
 refine⟨h1,λy=>?_⟩
 rw[h2 y]
 simp only[srtK_mem,List.mem_range]
 exact⟨λ⟨a,b⟩=>⟨a,λz hz he=>by have:=b z (by omega) he;omega⟩,λ⟨a,b⟩=>⟨a,λz hz he=>Nat.le_of_not_lt λq=>b z q he⟩⟩
theorem cmpL_len {key:Nat->Int}:∀ {r:List Nat} {x:Nat},(cmpL key x r).length<=r.length
 |[],_=>Nat.le_refl _
 |s::r,x=>by
  unfold cmpL
  have:=cmpL_len (key:=key) (r:=r) (x:=s)
  cases key s==key x<;>simp only[cond_true,cond_false,List.length_cons]<;>omega
theorem firsts_len {key:Nat->Int} {n:Nat} {O:List Nat} (h:Firsts key n O):O.length<=n:=by
 rw[h.uniq firsts_cmpA]
 have:(srtK key (List.range n)).length=n:=by rw[srtK_len,List.length_range]
 cases hL:srtK key (List.range n) with
 |nil=>rw[hL] at this;simp at this;simp[cmpA]
 |cons x r=>
  rw[hL] at this
  have h2:=cmpL_len (key:=key) (r:=r) (x:=x)
  simp only[cmpA,List.length_cons] at this⊢
  omega
theorem Yx.tm {ι α:Type} {ok:ι->Prop} {ψ:α->Prop} {p:ι->Nat} {B:Nat} (hp:∀ i,ok i->B<=p i) {a0 a1 φ} (h:Tm (λk=>B<=k) (λk=>Yx.t k a0 a1) φ) {G:ι->Int->Option α} (hG:∀ z0,φ z0->Tm ok (λi=>G i z0) ψ):Tm ok (λi=>Yx.f (p i) a0 a1 (G i)) ψ:=bd1_tm (t:=λk=>Yx.t k a0 a1) hp h hG
def RS (B:Nat) (r:List D):Prop:=∃ (c0:BA),r=[.str c0]/\c0.size<=B/\True
theorem RS.open {B:Nat} {r:List D} (h:RS B r):∃ (c0:BA),r=[.str c0]/\c0.size<=B/\True:=h
theorem RS.mono {B B':Nat} (hb:B<=B') {r:List D} (h:RS B r):RS B' r:=by
 obtain⟨c0,rfl,k0,_⟩:=h
 exact⟨_,rfl,(Nat.le_trans k0 hb),trivial⟩
theorem RS.wide {xs:LD} (h:ZB RS lim xs):ZB RS 2097152 xs:=⟨Nat.le_trans h.1 (by decide),λr hr=>(h.2 r hr).mono (by decide)⟩
theorem RS.len {B:Nat} {r:List D} (h:RS B r):r.length=1:=by
 obtain⟨c0,rfl,_⟩:=h.open
 rfl
theorem RS.flat {B:Nat} {xs:LD} (h:∀ r∈xs,RS B r):Zcg 1 xs:=λr hr=>by
 obtain⟨c0,rfl,_⟩:=(h r hr).open
 exact⟨rfl,by simp[Zag]⟩
theorem RS.wt {B:Nat} {xs:LD} (h:∀ r∈xs,RS B r):Zu xs=1*xs.length:=wt_flat (R:=RS B) (λr h=>by obtain⟨c0,rfl,_⟩:=h;rfl) xs h
theorem RS.deep {B:Nat} {xs:LD} (h:∀ r∈xs,RS B r):Zc xs=xs.map (·.map C.d):=deep_flat (R:=RS B) (λr h=>by obtain⟨c0,rfl,_⟩:=h;rfl) xs h
theorem RS.gets {B:Nat} {xs:LD} (h:∀ r∈xs,RS B r) {v:Int} (h0:0<=v) (h1:v<xs.length):gR xs v=[.str (gS xs v 0)]/\(gS xs v 0).size<=B/\True:=by
 obtain⟨c0,e,k0,_⟩:=(h (gR xs v) (gR_mem h0 h1)).open
 unfold gS
 rw[e]
 exact⟨rfl,k0,trivial⟩
theorem RS.rows {B:Nat} {xs:LD} (h:∀ r∈xs,RS B r) {v:Int} (h0:0<=v) (h1:v<xs.length) {β:Type} (F:List D->Option β):atRow xs v F=F [.str (gS xs v 0)]:=by
 rw[<- (RS.gets h h0 h1).1]
 exact Zck h0 h1 F
theorem RS.get {B:Nat} {xs:LD} (h:ZB RS B xs) {v:Int} (h0:0<=v) (h1:v<xs.length):gR xs v=[.str (gS xs v 0)]/\(gS xs v 0).size<=B/\True:=RS.gets h.2 h0 h1
theorem RS.row {B:Nat} {xs:LD} (h:ZB RS B xs) {v:Int} (h0:0<=v) (h1:v<xs.length) {β:Type} (F:List D->Option β):atRow xs v F=F [.str (gS xs v 0)]:=RS.rows h.2 h0 h1 F
set_option maxRecDepth 100000 in
theorem Yx.T {a0:LD} {a1:Int} (h0:0<=a1) (h1:a1<=1048576) (ga0:ZB RS maxLen a0):Tm Fuel (λk=>Yx.t k a0 a1) (λr=>r<0\/0<=r/\r<=a1/\ZB RS lim a0/\((Zu a0:Nat):Int)<=64*(a1-r)/\True):=by
 unfold Yx.t Yx.g
 have hm:=maxLen_eq
 have hlim:lim=1048576:=rfl
 have hlen:=ga0.1
 try rw[Z9 (x:=a1-(a0.length:Int)) (by omega) (by omega)]
 refine Tm.ite (λh1=>?_) (λh1=>?_)
 ·try simp only[bz0,bz1,bz2,bz3,bz4,bz5,bz6,bz7,bz8,bz9,bza] at h1
  exact Tm.ret (by first|(left;omega)|(right;refine⟨?_,?_,?_,?_,trivial⟩<;>first|assumption|omega))
 ·try simp only[bz0,bz1,bz2,bz3,bz4,bz5,bz6,bz7,bz8,bz9,bza] at h1
  refine Tm.loop (okk:=Fuel) (p:=λk=>k) (λi hi=>hi) (b:=λk=>Yx.l0 k a0 (λz0=>some z0)) (λv=>match v with|(u0,i)=>(((a0.length:Int))-i).toNat) (λv=>match v with|(u0,i)=>0<=u0/\u0<=a1/\0<=i/\i<=(a0.length:Int)/\(∀ r∈a0.take i.toNat,RS lim r)/\((Zu (a0.take i.toNat):Nat):Int)<=64*(a1-a0.length-u0+i)) ?_ ?_ ?_
  ·rintro⟨u0,i⟩ hI
   try simp only[] at hI⊢
   have:big=2^64:=rfl
   have:=ga0.1
   omega
  ·exact⟨by omega,by omega,by omega,by simp,by simp,by simp[Zu]⟩
  ·rintro⟨u0,i⟩ hI L hL
   try simp only[] at hI
   obtain⟨u0a,u0b,i0,i1,hr,hwt⟩:=hI
   simp only[Yx.l0,atR,rdQ,Q.ask]
   refine Tm.ite (λh2=>?_) (λh2=>?_)
   ·try simp only[bz0,bz1,bz2,bz3,bz4,bz5,bz6,bz7,bz8,bz9,bza] at h2
    refine Tm.atRow (by first|assumption|omega) (by first|assumption|omega) (λx3 hx4 hm5=>?_)
    obtain⟨c6,rfl,g7,_⟩:=(ga0.2 x3 hm5).open
    refine Tm.uncons ?_
    refine Tm.dStr ?_
    refine Tm.atEnd ?_
    try rw[Z9 (x:=u0-(c6.size:Int)) (by omega) (by omega)]
    refine Tm.ite (λh8=>?_) (λh8=>?_)
    ·try simp only[bz0,bz1,bz2,bz3,bz4,bz5,bz6,bz7,bz8,bz9,bza] at h8
     exact Tm.ret (by first|(left;omega)|(rw[List.take_of_length_le (by omega)] at hwt;exact .inr ⟨by omega,by omega,⟨by simp only[lim];omega,all_rows (by omega) hr⟩,by omega,trivial⟩))
    ·try simp only[bz0,bz1,bz2,bz3,bz4,bz5,bz6,bz7,bz8,bz9,bza] at h8
     try rw[Z9 (x:=i+1) (by omega) (by omega)]
     have hwx:=wt_take i0 hx4
     simp only[ZbY,wtD] at hwx
     refine hL ((u0-(c6.size:Int)),(i+1)) ⟨by omega,by omega,by omega,by omega,take_rows i0 hx4 hr ⟨_,rfl,by first|assumption|omega,trivial⟩,by omega⟩ (by(try simp only[]);omega)
   ·try simp only[bz0,bz1,bz2,bz3,bz4,bz5,bz6,bz7,bz8,bz9,bza] at h2
    exact Tm.ret (by first|(left;omega)|(rw[List.take_of_length_le (by omega)] at hwt;exact .inr ⟨by omega,by omega,⟨by simp only[lim];omega,all_rows (by omega) hr⟩,by omega,trivial⟩))
theorem YaK.tm {ι α:Type} {ok:ι->Prop} {ψ:α->Prop} {p:ι->Nat} {B:Nat} (hp:∀ i,ok i->B<=p i) {aB aA aC a1 φ} (h:Tm (λk=>B<=k) (λk=>YaK.t k aB aA aC a1) φ) {G:ι->Int->Option α} (hG:∀ z0,φ z0->Tm ok (λi=>G i z0) ψ):Tm ok (λi=>YaK.f (p i) aB aA aC a1 (G i)) ψ:=bd1_tm (t:=λk=>YaK.t k aB aA aC a1) hp h hG
theorem YaK.T {aB:Int} {aA:BA} {aC:LD} {a1:Int} (h0:0<=a1) (h1:a1<=1048576) (ga0_1:aA.size<=maxLen) (ga0_2:ZB RS maxLen aC):Tm Fuel (λk=>YaK.t k aB aA aC a1) (λr=>r<0\/0<=r/\r<=a1/\aA.size<=lim/\ZB RS lim aC/\((Zu aC:Nat):Int)<=64*(a1-r)/\True):=by
 unfold YaK.t YaK.g
 have hm:=maxLen_eq
 have hlim:lim=1048576:=rfl
 try rw[Z9 (x:=a1-(aA.size:Int)) (by omega) (by omega)]
 refine Tm.ite (λh1=>?_) (λh1=>?_)
 ·try simp only[bz0,bz1,bz2,bz3,bz4,bz5,bz6,bz7,bz8,bz9,bza] at h1
  exact Tm.ret (by first|(left;omega)|(right;refine⟨?_,?_,?_,?_,?_,trivial⟩<;>first|assumption|omega))
 ·try simp only[bz0,bz1,bz2,bz3,bz4,bz5,bz6,bz7,bz8,bz9,bza] at h1
  refine Yx.tm (λi hi=>hi) (Yx.T (by first|assumption|omega) (by first|assumption|omega) (by first|assumption|omega)) (λy3 hy2=>?_)
  rcases hy2 with hy2|⟨p6,p7,q4,q5,_⟩
  ·exact Tm.ite (λ_=>Tm.ret (by left;omega)) (λh=>by simp at h;omega)
  refine Tm.ite (λh8=>?_) (λh8=>?_)
  ·try simp only[bz0,bz1,bz2,bz3,bz4,bz5,bz6,bz7,bz8,bz9,bza] at h8
   exact Tm.ret (by first|(left;omega)|(right;refine⟨?_,?_,?_,?_,?_,trivial⟩<;>first|assumption|omega))
  ·try simp only[bz0,bz1,bz2,bz3,bz4,bz5,bz6,bz7,bz8,bz9,bza] at h8
   exact Tm.ret (by first|(left;omega)|(right;refine⟨?_,?_,?_,?_,?_,trivial⟩<;>first|assumption|omega))
theorem YY.tm {ι α:Type} {ok:ι->Prop} {ψ:α->Prop} {p:ι->Nat} {B:Nat} (hp:∀ i,ok i->B<=p i) {a0 a1 φ} (h:Tm (λk=>B<=k) (λk=>YY.t k a0 a1) φ) {G:ι->Int->Option α} (hG:∀ z0,φ z0->Tm ok (λi=>G i z0) ψ):Tm ok (λi=>YY.f (p i) a0 a1 (G i)) ψ:=bd1_tm (t:=λk=>YY.t k a0 a1) hp h hG
def YaY (B:Nat) (r:List D):Prop:=∃ (c0:Int) (c1:BA) (c2:LD),r=[.int .i64 c0,.str c1,.sl c2]/\(Lit.int .i64 c0).wf=true/\c1.size<=B/\ZB RS B c2/\True
theorem YaY.open {B:Nat} {r:List D} (h:YaY B r):∃ (c0:Int) (c1:BA) (c2:LD),r=[.int .i64 c0,.str c1,.sl c2]/\(Lit.int .i64 c0).wf=true/\c1.size<=B/\ZB RS B c2/\True:=h
theorem YaY.mono {B B':Nat} (hb:B<=B') {r:List D} (h:YaY B r):YaY B' r:=by
 obtain⟨c0,c1,c2,rfl,k0,k1,k2,_⟩:=h
 exact⟨_,_,_,rfl,k0,(Nat.le_trans k1 hb),⟨Nat.le_trans k2.1 hb,λr hr=>(k2.2 r hr).mono hb⟩,trivial⟩
theorem YaY.wide {xs:LD} (h:ZB YaY lim xs):ZB YaY 2097152 xs:=⟨Nat.le_trans h.1 (by decide),λr hr=>(h.2 r hr).mono (by decide)⟩
theorem YaY.len {B:Nat} {r:List D} (h:YaY B r):r.length=3:=by
 obtain⟨c0,c1,c2,rfl,_⟩:=h.open
 rfl
theorem YaY.gets {B:Nat} {xs:LD} (h:∀ r∈xs,YaY B r) {v:Int} (h0:0<=v) (h1:v<xs.length):gR xs v=[.int .i64 (gI xs v 0),.str (gS xs v 1),.sl (gL xs v 2)]/\(Lit.int .i64 (gI xs v 0)).wf=true/\(gS xs v 1).size<=B/\ZB RS B (gL xs v 2)/\True:=by
 obtain⟨c0,c1,c2,e,k0,k1,k2,_⟩:=(h (gR xs v) (gR_mem h0 h1)).open
 unfold gI gL gS
 rw[e]
 exact⟨rfl,k0,k1,k2,trivial⟩
theorem YaY.rows {B:Nat} {xs:LD} (h:∀ r∈xs,YaY B r) {v:Int} (h0:0<=v) (h1:v<xs.length) {β:Type} (F:List D->Option β):atRow xs v F=F [.int .i64 (gI xs v 0),.str (gS xs v 1),.sl (gL xs v 2)]:=by
 rw[<- (YaY.gets h h0 h1).1]
 exact Zck h0 h1 F
theorem YaY.get {B:Nat} {xs:LD} (h:ZB YaY B xs) {v:Int} (h0:0<=v) (h1:v<xs.length):gR xs v=[.int .i64 (gI xs v 0),.str (gS xs v 1),.sl (gL xs v 2)]/\(Lit.int .i64 (gI xs v 0)).wf=true/\(gS xs v 1).size<=B/\ZB RS B (gL xs v 2)/\True:=YaY.gets h.2 h0 h1
theorem YaY.row {B:Nat} {xs:LD} (h:ZB YaY B xs) {v:Int} (h0:0<=v) (h1:v<xs.length) {β:Type} (F:List D->Option β):atRow xs v F=F [.int .i64 (gI xs v 0),.str (gS xs v 1),.sl (gL xs v 2)]:=YaY.rows h.2 h0 h1 F
set_option maxRecDepth 100000 in
theorem YY.T {a0:LD} {a1:Int} (h0:0<=a1) (h1:a1<=1048576) (ga0:ZB YaY maxLen a0):Tm Fuel (λk=>YY.t k a0 a1) (λr=>r<0\/0<=r/\r<=a1/\ZB YaY lim a0/\((Zu a0:Nat):Int)<=64*(a1-r)/\True):=by
 unfold YY.t YY.g
 have hm:=maxLen_eq
 have hlim:lim=1048576:=rfl
 have hlen:=ga0.1
 try rw[Z9 (x:=a1-(a0.length:Int)) (by omega) (by omega)]
 refine Tm.ite (λh1=>?_) (λh1=>?_)
 ·try simp only[bz0,bz1,bz2,bz3,bz4,bz5,bz6,bz7,bz8,bz9,bza] at h1
  exact Tm.ret (by first|(left;omega)|(right;refine⟨?_,?_,?_,?_,trivial⟩<;>first|assumption|omega))
 ·try simp only[bz0,bz1,bz2,bz3,bz4,bz5,bz6,bz7,bz8,bz9,bza] at h1
  refine Tm.loop (okk:=Fuel) (p:=λk=>k) (λi hi=>hi) (b:=λk=>YY.l0 k a0 (λz0=>some z0)) (λv=>match v with|(u0,i)=>(((a0.length:Int))-i).toNat) (λv=>match v with|(u0,i)=>0<=u0/\u0<=a1/\0<=i/\i<=(a0.length:Int)/\(∀ r∈a0.take i.toNat,YaY lim r)/\((Zu (a0.take i.toNat):Nat):Int)<=64*(a1-a0.length-u0+i)) ?_ ?_ ?_
  ·rintro⟨u0,i⟩ hI
   try simp only[] at hI⊢
   have:big=2^64:=rfl
   have:=ga0.1
   omega
  ·exact⟨by omega,by omega,by omega,by simp,by simp,by simp[Zu]⟩
  ·rintro⟨u0,i⟩ hI L hL
   try simp only[] at hI
   obtain⟨u0a,u0b,i0,i1,hr,hwt⟩:=hI
   simp only[YY.l0,atR,rdQ,Q.ask]
   refine Tm.ite (λh2=>?_) (λh2=>?_)
   ·try simp only[bz0,bz1,bz2,bz3,bz4,bz5,bz6,bz7,bz8,bz9,bza] at h2
    refine Tm.atRow (by first|assumption|omega) (by first|assumption|omega) (λx3 hx4 hm5=>?_)
    obtain⟨c6,c7,c8,rfl,g9,g10,g11,_⟩:=(ga0.2 x3 hm5).open
    refine Tm.uncons ?_
    refine Tm.dInt ?_
    refine Tm.uncons ?_
    refine Tm.dStr ?_
    refine Tm.uncons ?_
    refine Tm.dSl ?_
    refine Tm.atEnd ?_
    refine YaK.tm (λi hi=>hi.1) (YaK.T (by first|assumption|omega) (by first|assumption|omega) (by first|assumption|omega) (by first|assumption|omega)) (λy13 hy12=>?_)
    rcases hy12 with hy12|⟨p17,p18,q14,q15,q16,_⟩
    ·exact Tm.ite (λ_=>Tm.ret (by left;omega)) (λh=>by simp at h;omega)
    refine Tm.ite (λh19=>?_) (λh19=>?_)
    ·try simp only[bz0,bz1,bz2,bz3,bz4,bz5,bz6,bz7,bz8,bz9,bza] at h19
     exact Tm.ret (by first|(left;omega)|(rw[List.take_of_length_le (by omega)] at hwt;exact .inr ⟨by omega,by omega,⟨by simp only[lim];omega,all_rows (by omega) hr⟩,by omega,trivial⟩))
    ·try simp only[bz0,bz1,bz2,bz3,bz4,bz5,bz6,bz7,bz8,bz9,bza] at h19
     try rw[Z9 (x:=i+1) (by omega) (by omega)]
     have hwx:=wt_take i0 hx4
     simp only[ZbY,wtD] at hwx
     refine hL (y13,(i+1)) ⟨by omega,by omega,by omega,by omega,take_rows i0 hx4 hr ⟨_,_,_,rfl,by first|assumption|omega,by first|assumption|omega,by first|assumption|omega,trivial⟩,by omega⟩ (by(try simp only[]);omega)
   ·try simp only[bz0,bz1,bz2,bz3,bz4,bz5,bz6,bz7,bz8,bz9,bza] at h2
    exact Tm.ret (by first|(left;omega)|(rw[List.take_of_length_le (by omega)] at hwt;exact .inr ⟨by omega,by omega,⟨by simp only[lim];omega,all_rows (by omega) hr⟩,by omega,trivial⟩))
theorem YaD.tm {ι α:Type} {ok:ι->Prop} {ψ:α->Prop} {p:ι->Nat} {B:Nat} (hp:∀ i,ok i->B<=p i) {aB aA a1 φ} (h:Tm (λk=>B<=k) (λk=>YaD.t k aB aA a1) φ) {G:ι->Int->Option α} (hG:∀ z0,φ z0->Tm ok (λi=>G i z0) ψ):Tm ok (λi=>YaD.f (p i) aB aA a1 (G i)) ψ:=bd1_tm (t:=λk=>YaD.t k aB aA a1) hp h hG
theorem YaD.T {aB:BA} {aA a1:Int} (h0:0<=a1) (h1:a1<=1048576) (ga0_0:aB.size<=maxLen):Tm Fuel (λk=>YaD.t k aB aA a1) (λr=>r<0\/0<=r/\r<=a1/\aB.size<=lim/\True):=by
 unfold YaD.t YaD.g
 have hm:=maxLen_eq
 have hlim:lim=1048576:=rfl
 try rw[Z9 (x:=a1-(aB.size:Int)) (by omega) (by omega)]
 refine Tm.ite (λh1=>?_) (λh1=>?_)
 ·try simp only[bz0,bz1,bz2,bz3,bz4,bz5,bz6,bz7,bz8,bz9,bza] at h1
  exact Tm.ret (by first|(left;omega)|(right;refine⟨?_,?_,?_,trivial⟩<;>first|assumption|omega))
 ·try simp only[bz0,bz1,bz2,bz3,bz4,bz5,bz6,bz7,bz8,bz9,bza] at h1
  exact Tm.ret (by first|(left;omega)|(right;refine⟨?_,?_,?_,trivial⟩<;>first|assumption|omega))
theorem YQ.tm {ι α:Type} {ok:ι->Prop} {ψ:α->Prop} {p:ι->Nat} {B:Nat} (hp:∀ i,ok i->B<=p i) {a0 a1 φ} (h:Tm (λk=>B<=k) (λk=>YQ.t k a0 a1) φ) {G:ι->Int->Option α} (hG:∀ z0,φ z0->Tm ok (λi=>G i z0) ψ):Tm ok (λi=>YQ.f (p i) a0 a1 (G i)) ψ:=bd1_tm (t:=λk=>YQ.t k a0 a1) hp h hG
def RSI (B:Nat) (r:List D):Prop:=∃ (c0:BA) (c1:Int),r=[.str c0,.int .i64 c1]/\c0.size<=B/\(Lit.int .i64 c1).wf=true/\True
theorem RSI.open {B:Nat} {r:List D} (h:RSI B r):∃ (c0:BA) (c1:Int),r=[.str c0,.int .i64 c1]/\c0.size<=B/\(Lit.int .i64 c1).wf=true/\True:=h
theorem RSI.mono {B B':Nat} (hb:B<=B') {r:List D} (h:RSI B r):RSI B' r:=by
 obtain⟨c0,c1,rfl,k0,k1,_⟩:=h
 exact⟨_,_,rfl,(Nat.le_trans k0 hb),k1,trivial⟩
theorem RSI.wide {xs:LD} (h:ZB RSI lim xs):ZB RSI 2097152 xs:=⟨Nat.le_trans h.1 (by decide),λr hr=>(h.2 r hr).mono (by decide)⟩
theorem RSI.len {B:Nat} {r:List D} (h:RSI B r):r.length=2:=by
 obtain⟨c0,c1,rfl,_⟩:=h.open
 rfl
theorem RSI.flat {B:Nat} {xs:LD} (h:∀ r∈xs,RSI B r):Zcg 2 xs:=λr hr=>by
 obtain⟨c0,c1,rfl,_⟩:=(h r hr).open
 exact⟨rfl,by simp[Zag]⟩
theorem RSI.wt {B:Nat} {xs:LD} (h:∀ r∈xs,RSI B r):Zu xs=2*xs.length:=wt_flat (R:=RSI B) (λr h=>by obtain⟨c0,c1,rfl,_⟩:=h;rfl) xs h
theorem RSI.deep {B:Nat} {xs:LD} (h:∀ r∈xs,RSI B r):Zc xs=xs.map (·.map C.d):=deep_flat (R:=RSI B) (λr h=>by obtain⟨c0,c1,rfl,_⟩:=h;rfl) xs h
theorem RSI.gets {B:Nat} {xs:LD} (h:∀ r∈xs,RSI B r) {v:Int} (h0:0<=v) (h1:v<xs.length):gR xs v=[.str (gS xs v 0),.int .i64 (gI xs v 1)]/\(gS xs v 0).size<=B/\(Lit.int .i64 (gI xs v 1)).wf=true/\True:=by
 obtain⟨c0,c1,e,k0,k1,_⟩:=(h (gR xs v) (gR_mem h0 h1)).open
 unfold gI gS
 rw[e]
 exact⟨rfl,k0,k1,trivial⟩
theorem RSI.rows {B:Nat} {xs:LD} (h:∀ r∈xs,RSI B r) {v:Int} (h0:0<=v) (h1:v<xs.length) {β:Type} (F:List D->Option β):atRow xs v F=F [.str (gS xs v 0),.int .i64 (gI xs v 1)]:=by
 rw[<- (RSI.gets h h0 h1).1]
 exact Zck h0 h1 F
theorem RSI.get {B:Nat} {xs:LD} (h:ZB RSI B xs) {v:Int} (h0:0<=v) (h1:v<xs.length):gR xs v=[.str (gS xs v 0),.int .i64 (gI xs v 1)]/\(gS xs v 0).size<=B/\(Lit.int .i64 (gI xs v 1)).wf=true/\True:=RSI.gets h.2 h0 h1
theorem RSI.row {B:Nat} {xs:LD} (h:ZB RSI B xs) {v:Int} (h0:0<=v) (h1:v<xs.length) {β:Type} (F:List D->Option β):atRow xs v F=F [.str (gS xs v 0),.int .i64 (gI xs v 1)]:=RSI.rows h.2 h0 h1 F
set_option maxRecDepth 100000 in
theorem YQ.T {a0:LD} {a1:Int} (h0:0<=a1) (h1:a1<=1048576) (ga0:ZB RSI maxLen a0):Tm Fuel (λk=>YQ.t k a0 a1) (λr=>r<0\/0<=r/\r<=a1/\ZB RSI lim a0/\((Zu a0:Nat):Int)<=64*(a1-r)/\True):=by
 unfold YQ.t YQ.g
 have hm:=maxLen_eq
 have hlim:lim=1048576:=rfl
 have hlen:=ga0.1
 try rw[Z9 (x:=a1-(a0.length:Int)) (by omega) (by omega)]
 refine Tm.ite (λh1=>?_) (λh1=>?_)
 ·try simp only[bz0,bz1,bz2,bz3,bz4,bz5,bz6,bz7,bz8,bz9,bza] at h1
  exact Tm.ret (by first|(left;omega)|(right;refine⟨?_,?_,?_,?_,trivial⟩<;>first|assumption|omega))
 ·try simp only[bz0,bz1,bz2,bz3,bz4,bz5,bz6,bz7,bz8,bz9,bza] at h1
  refine Tm.loop (okk:=Fuel) (p:=λk=>k) (λi hi=>hi) (b:=λk=>YQ.l0 k a0 (λz0=>some z0)) (λv=>match v with|(u0,i)=>(((a0.length:Int))-i).toNat) (λv=>match v with|(u0,i)=>0<=u0/\u0<=a1/\0<=i/\i<=(a0.length:Int)/\(∀ r∈a0.take i.toNat,RSI lim r)/\((Zu (a0.take i.toNat):Nat):Int)<=64*(a1-a0.length-u0+i)) ?_ ?_ ?_
  ·rintro⟨u0,i⟩ hI
   try simp only[] at hI⊢
   have:big=2^64:=rfl
   have:=ga0.1
   omega
  ·exact⟨by omega,by omega,by omega,by simp,by simp,by simp[Zu]⟩
  ·rintro⟨u0,i⟩ hI L hL
   try simp only[] at hI
   obtain⟨u0a,u0b,i0,i1,hr,hwt⟩:=hI
   simp only[YQ.l0,atR,rdQ,Q.ask]
   refine Tm.ite (λh2=>?_) (λh2=>?_)
   ·try simp only[bz0,bz1,bz2,bz3,bz4,bz5,bz6,bz7,bz8,bz9,bza] at h2
    refine Tm.atRow (by first|assumption|omega) (by first|assumption|omega) (λx3 hx4 hm5=>?_)
    obtain⟨c6,c7,rfl,g8,g9,_⟩:=(ga0.2 x3 hm5).open
    refine Tm.uncons ?_
    refine Tm.dStr ?_
    refine Tm.uncons ?_
    refine Tm.dInt ?_
    refine Tm.atEnd ?_
    refine YaD.tm (λi hi=>hi.1) (YaD.T (by first|assumption|omega) (by first|assumption|omega) (by first|assumption|omega)) (λy11 hy10=>?_)
    rcases hy10 with hy10|⟨p13,p14,q12,_⟩
    ·exact Tm.ite (λ_=>Tm.ret (by left;omega)) (λh=>by simp at h;omega)
    refine Tm.ite (λh15=>?_) (λh15=>?_)
    ·try simp only[bz0,bz1,bz2,bz3,bz4,bz5,bz6,bz7,bz8,bz9,bza] at h15
     exact Tm.ret (by first|(left;omega)|(rw[List.take_of_length_le (by omega)] at hwt;exact .inr ⟨by omega,by omega,⟨by simp only[lim];omega,all_rows (by omega) hr⟩,by omega,trivial⟩))
    ·try simp only[bz0,bz1,bz2,bz3,bz4,bz5,bz6,bz7,bz8,bz9,bza] at h15
     try rw[Z9 (x:=i+1) (by omega) (by omega)]
     have hwx:=wt_take i0 hx4
     simp only[ZbY,wtD] at hwx
     refine hL (y11,(i+1)) ⟨by omega,by omega,by omega,by omega,take_rows i0 hx4 hr ⟨_,_,rfl,by first|assumption|omega,by first|assumption|omega,trivial⟩,by omega⟩ (by(try simp only[]);omega)
   ·try simp only[bz0,bz1,bz2,bz3,bz4,bz5,bz6,bz7,bz8,bz9,bza] at h2
    exact Tm.ret (by first|(left;omega)|(rw[List.take_of_length_le (by omega)] at hwt;exact .inr ⟨by omega,by omega,⟨by simp only[lim];omega,all_rows (by omega) hr⟩,by omega,trivial⟩))
theorem YaJ.tm {ι α:Type} {ok:ι->Prop} {ψ:α->Prop} {p:ι->Nat} {B:Nat} (hp:∀ i,ok i->B<=p i) {aB aA aC aD a1 φ} (h:Tm (λk=>B<=k) (λk=>YaJ.t k aB aA aC aD a1) φ) {G:ι->Int->Option α} (hG:∀ z0,φ z0->Tm ok (λi=>G i z0) ψ):Tm ok (λi=>YaJ.f (p i) aB aA aC aD a1 (G i)) ψ:=bd1_tm (t:=λk=>YaJ.t k aB aA aC aD a1) hp h hG
theorem YaJ.T {aB:Int} {aA aC aD:LD} {a1:Int} (h0:0<=a1) (h1:a1<=1048576) (ga0_1:ZB YaY maxLen aA) (ga0_2:ZB RS maxLen aC) (ga0_3:ZB RSI maxLen aD):Tm Fuel (λk=>YaJ.t k aB aA aC aD a1) (λr=>r<0\/0<=r/\r<=a1/\ZB YaY lim aA/\ZB RS lim aC/\ZB RSI lim aD/\((Zu aA+Zu aC+Zu aD:Nat):Int)<=64*(a1-r)/\True):=by
 unfold YaJ.t YaJ.g
 have hm:=maxLen_eq
 have hlim:lim=1048576:=rfl
 refine YY.tm (λi hi=>hi) (YY.T (by first|assumption|omega) (by first|assumption|omega) (by first|assumption|omega)) (λy2 hy1=>?_)
 rcases hy1 with hy1|⟨p5,p6,q3,q4,_⟩
 ·exact Tm.ite (λ_=>Tm.ret (by left;omega)) (λh=>by simp at h;omega)
 refine Tm.ite (λh7=>?_) (λh7=>?_)
 ·try simp only[bz0,bz1,bz2,bz3,bz4,bz5,bz6,bz7,bz8,bz9,bza] at h7
  exact Tm.ret (by first|(left;omega)|(right;refine⟨?_,?_,?_,?_,?_,?_,trivial⟩<;>first|assumption|omega))
 ·try simp only[bz0,bz1,bz2,bz3,bz4,bz5,bz6,bz7,bz8,bz9,bza] at h7
  refine Yx.tm (λi hi=>hi) (Yx.T (by first|assumption|omega) (by first|assumption|omega) (by first|assumption|omega)) (λy9 hy8=>?_)
  rcases hy8 with hy8|⟨p12,p13,q10,q11,_⟩
  ·exact Tm.ite (λ_=>Tm.ret (by left;omega)) (λh=>by simp at h;omega)
  refine Tm.ite (λh14=>?_) (λh14=>?_)
  ·try simp only[bz0,bz1,bz2,bz3,bz4,bz5,bz6,bz7,bz8,bz9,bza] at h14
   exact Tm.ret (by first|(left;omega)|(right;refine⟨?_,?_,?_,?_,?_,?_,trivial⟩<;>first|assumption|omega))
  ·try simp only[bz0,bz1,bz2,bz3,bz4,bz5,bz6,bz7,bz8,bz9,bza] at h14
   refine YQ.tm (λi hi=>hi) (YQ.T (by first|assumption|omega) (by first|assumption|omega) (by first|assumption|omega)) (λy16 hy15=>?_)
   rcases hy15 with hy15|⟨p19,p20,q17,q18,_⟩
   ·exact Tm.ite (λ_=>Tm.ret (by left;omega)) (λh=>by simp at h;omega)
   refine Tm.ite (λh21=>?_) (λh21=>?_)
   ·try simp only[bz0,bz1,bz2,bz3,bz4,bz5,bz6,bz7,bz8,bz9,bza] at h21
    exact Tm.ret (by first|(left;omega)|(right;refine⟨?_,?_,?_,?_,?_,?_,trivial⟩<;>first|assumption|omega))
   ·try simp only[bz0,bz1,bz2,bz3,bz4,bz5,bz6,bz7,bz8,bz9,bza] at h21
    exact Tm.ret (by first|(left;omega)|(right;refine⟨?_,?_,?_,?_,?_,?_,trivial⟩<;>first|assumption|omega))
theorem Yz.tm {ι α:Type} {ok:ι->Prop} {ψ:α->Prop} {p:ι->Nat} {B:Nat} (hp:∀ i,ok i->B<=p i) {a0 a1 φ} (h:Tm (λk=>B<=k) (λk=>Yz.t k a0 a1) φ) {G:ι->Int->Option α} (hG:∀ z0,φ z0->Tm ok (λi=>G i z0) ψ):Tm ok (λi=>Yz.f (p i) a0 a1 (G i)) ψ:=bd1_tm (t:=λk=>Yz.t k a0 a1) hp h hG
inductive YD (B:Nat):Nat->List D->Prop
 |mk {h:Nat} (c0:Int) (c1:BA) (c2:Int) (c3:LD) (c4:LD) (k0:(Lit.int .i64 c0).wf=true) (k1:c1.size<=B) (k2:(Lit.int .i64 c2).wf=true) (k3:ZB RS B c3) (k4:c4.length<=B) (m4:∀ r∈c4,YD B h r):YD B (h+1) [.int .i64 c0,.str c1,.int .i64 c2,.sl c3,.sl c4]
def Yr (B:Nat) (r:List D):Prop:=∃ h,(B<=1099511627776->h<=1099511627776)/\YD B h r
theorem Yr.open {B:Nat} {r:List D} (h:Yr B r):∃ (c0:Int) (c1:BA) (c2:Int) (c3:LD) (c4:LD),r=[.int .i64 c0,.str c1,.int .i64 c2,.sl c3,.sl c4]/\(Lit.int .i64 c0).wf=true/\c1.size<=B/\(Lit.int .i64 c2).wf=true/\ZB RS B c3/\ZB Yr B c4/\True:=by
 obtain⟨h,hh,h1⟩:=h
 cases h1 with
 |mk c0 c1 c2 c3 c4 k0 k1 k2 k3 k4 m4=>exact⟨c0,c1,c2,c3,c4,rfl,k0,k1,k2,k3,⟨k4,λr hr=>⟨_,λhb=>by have:=hh hb;omega,m4 r hr⟩⟩,trivial⟩
theorem YD.up {B B':Nat} (hb:B<=B'):∀ {h:Nat} {r:List D},YD B h r->YD B' h r
 |_+1,_,.mk c0 c1 c2 c3 c4 k0 k1 k2 k3 k4 m4=>.mk c0 c1 c2 c3 c4 k0 (Nat.le_trans k1 hb) k2 ⟨Nat.le_trans k3.1 hb,λr hr=>(k3.2 r hr).mono hb⟩ (Nat.le_trans k4 hb) (λr hr=>YD.up hb (m4 r hr))
theorem Yr.mono {B B':Nat} (hb:B<=B') {r:List D} (h:Yr B r):Yr B' r:=by
 obtain⟨h,hh,h1⟩:=h
 exact⟨h,λh2=>hh (Nat.le_trans hb h2),h1.up hb⟩
theorem YD.mono {B:Nat}:∀ {h h':Nat} {r:List D},h<=h'->YD B h r->YD B h' r
 |_,0,_,hl,.mk ..=>by omega
 |_+1,_+1,_,hl,.mk c0 c1 c2 c3 c4 k0 k1 k2 k3 k4 m4=>.mk c0 c1 c2 c3 c4 k0 k1 k2 k3 k4 (λr hr=>YD.mono (by omega) (m4 r hr))
theorem Yr.wide {xs:LD} (h:ZB Yr lim xs):ZB Yr 2097152 xs:=⟨Nat.le_trans h.1 (by decide),λr hr=>(h.2 r hr).mono (by decide)⟩
theorem Yr.len {B:Nat} {r:List D} (h:Yr B r):r.length=5:=by
 obtain⟨c0,c1,c2,c3,c4,rfl,_⟩:=h.open
 rfl
theorem Yr.gets {B:Nat} {xs:LD} (h:∀ r∈xs,Yr B r) {v:Int} (h0:0<=v) (h1:v<xs.length):gR xs v=[.int .i64 (gI xs v 0),.str (gS xs v 1),.int .i64 (gI xs v 2),.sl (gL xs v 3),.sl (gL xs v 4)]/\(Lit.int .i64 (gI xs v 0)).wf=true/\(gS xs v 1).size<=B/\(Lit.int .i64 (gI xs v 2)).wf=true/\ZB RS B (gL xs v 3)/\ZB Yr B (gL xs v 4)/\True:=by
 obtain⟨c0,c1,c2,c3,c4,e,k0,k1,k2,k3,k4,_⟩:=(h (gR xs v) (gR_mem h0 h1)).open
 unfold gI gL gS
 rw[e]
 exact⟨rfl,k0,k1,k2,k3,k4,trivial⟩
theorem Yr.rows {B:Nat} {xs:LD} (h:∀ r∈xs,Yr B r) {v:Int} (h0:0<=v) (h1:v<xs.length) {β:Type} (F:List D->Option β):atRow xs v F=F [.int .i64 (gI xs v 0),.str (gS xs v 1),.int .i64 (gI xs v 2),.sl (gL xs v 3),.sl (gL xs v 4)]:=by
 rw[<- (Yr.gets h h0 h1).1]
 exact Zck h0 h1 F
theorem Yr.get {B:Nat} {xs:LD} (h:ZB Yr B xs) {v:Int} (h0:0<=v) (h1:v<xs.length):gR xs v=[.int .i64 (gI xs v 0),.str (gS xs v 1),.int .i64 (gI xs v 2),.sl (gL xs v 3),.sl (gL xs v 4)]/\(Lit.int .i64 (gI xs v 0)).wf=true/\(gS xs v 1).size<=B/\(Lit.int .i64 (gI xs v 2)).wf=true/\ZB RS B (gL xs v 3)/\ZB Yr B (gL xs v 4)/\True:=Yr.gets h.2 h0 h1
theorem Yr.row {B:Nat} {xs:LD} (h:ZB Yr B xs) {v:Int} (h0:0<=v) (h1:v<xs.length) {β:Type} (F:List D->Option β):atRow xs v F=F [.int .i64 (gI xs v 0),.str (gS xs v 1),.int .i64 (gI xs v 2),.sl (gL xs v 3),.sl (gL xs v 4)]:=Yr.rows h.2 h0 h1 F
theorem YP.tm {ι α:Type} {ok:ι->Prop} {ψ:α->Prop} {p:ι->Nat} {B:Nat} (hp:∀ i,ok i->B<=p i) {aB aA aC aD aE a1 φ} (h:Tm (λk=>B<=k) (λk=>YP.t k aB aA aC aD aE a1) φ) {G:ι->Int->Option α} (hG:∀ z0,φ z0->Tm ok (λi=>G i z0) ψ):Tm ok (λi=>YP.f (p i) aB aA aC aD aE a1 (G i)) ψ:=bd1_tm (t:=λk=>YP.t k aB aA aC aD aE a1) hp h hG
set_option maxRecDepth 100000 in
theorem szVal (n:Nat):(∀ (left:Int) (a:LD),0<=left->left<=n->left<=1048576->ZB Yr maxLen a->Tm (λk=>big+2*n+1<=k) (λk=>Yz.t k a left) (λr=>r<0\/0<=r/\r<=left/\a.length<=lim/\(∀ x∈a,YD lim (left-r).toNat x)/\((Zu a:Nat):Int)<=64*(left-r)))/\
  (∀ (left c0:Int) (c1:BA) (c2:Int) (c3 c4:LD),0<=left->left<=n->left<=1048576->c1.size<=maxLen->ZB RS maxLen c3->ZB Yr maxLen c4->Tm (λk=>big+2*n+2<=k) (λk=>YP.t k c0 c1 c2 c3 c4 left) (λr=>r<0\/0<=r/\r<=left/\c1.size<=lim/\ZB RS lim c3/\c4.length<=lim/\(∀ x∈c4,YD lim (left-r).toNat x)/\((Zu c3+Zu c4:Nat):Int)<=64*(left-r))):=by
 have hm:=maxLen_eq
 have hlim:lim=1048576:=rfl
 have hb:big=2^64:=rfl
 induction n using Nat.strongRecOn with
 |ind n ih=>
 have S:∀ (left:Int) (a:LD),0<=left->left<=n->left<=1048576->ZB Yr maxLen a->Tm (λk=>big+2*n+1<=k) (λk=>Yz.t k a left) (λr=>r<0\/0<=r/\r<=left/\a.length<=lim/\(∀ x∈a,YD lim (left-r).toNat x)/\((Zu a:Nat):Int)<=64*(left-r)):=by
  intro left a h0 h1 h2 g
  have hlen:=g.1
  refine Tm.succ (g:=λk=>Yz.g k a left (λz0=>some z0)) (λk=>Yz.t_succ k a left) ?_
  unfold Yz.g Yz.body
  rw[Z9 (x:=left-a.length) (by omega) (by omega)]
  refine Tm.ite (λh3=>Tm.ret (.inl (by omega))) (λh3=>?_)
  simp only[decide_eq_false_iff_not,Int.not_lt] at h3
  refine Tm.loop (okk:=λk=>big+2*n<=k) (p:=λk=>k) (λi hi=>by omega) (b:=λk=>Yz.l0 k (Yz.f k) (YP.f k) a (λz0=>some z0)) (λv=>match v with|(u0,i)=>(((a.length:Int))-i).toNat) (λv=>match v with|(u0,i)=>0<=u0/\u0<=left-a.length/\0<=i/\i<=(a.length:Int)/\(∀ r∈a.take i.toNat,YD lim (left-u0).toNat r)/\((Zu (a.take i.toNat):Nat):Int)<=64*(left-a.length-u0+i)) ?_ ?_ ?_
  ·rintro⟨u0,i⟩ hI
   simp only[] at hI⊢
   omega
  ·exact⟨by omega,by omega,by omega,by omega,by simp,by simp[Zu]⟩
  ·rintro⟨u0,i⟩ hI L hL
   simp only[] at hI
   obtain⟨u0a,u0b,i0,i1,hr,hwt⟩:=hI
   simp only[Yz.l0,atR,rdQ,Q.ask]
   refine Tm.ite (λh4=>?_) (λh4=>?_)
   ·simp only[decide_eq_true_eq] at h4
    refine Tm.atRow (by omega) (by omega) (λx5 hx6 hm7=>?_)
    obtain⟨c0,c1,c2,c3,c4,rfl,w0,g1,w2,g3,g4,_⟩:=(g.2 x5 hm7).open
    refine Tm.uncons (Tm.dInt (Tm.uncons (Tm.dStr (Tm.uncons (Tm.dInt (Tm.uncons (Tm.dSl (Tm.uncons (Tm.dSl (Tm.atEnd ?_))))))))))
    refine YP.tm (B:=big+2*(n-1)+2) (λi hi=>by have:=hi.1;omega) ((ih (n-1) (by omega)).2 u0 c0 c1 c2 c3 c4 u0a (by omega) (by omega) g1 g3 g4) (λy hy=>?_)
    rcases hy with hy|⟨y0,y1,q1,q3,q4,q5,qw⟩
    ·exact Tm.ite (λ_=>Tm.ret (.inl (by omega))) (λh=>by simp at h;omega)
    refine Tm.ite (λh8=>by simp at h8;omega) (λh8=>?_)
    rw[Z9 (x:=i+1) (by omega) (by omega)]
    have hwx:=wt_take i0 hx6
    simp only[ZbY,wtD] at hwx
    refine hL (y,i+1) ⟨by omega,by omega,by omega,by omega,take_rows i0 hx6 (λr hr'=>(hr r hr').mono (by omega)) ?_,by omega⟩ (by simp only[];omega)
    exact YD.mono (h:=(u0-y).toNat+1) (by omega) (.mk _ _ _ _ _ w0 q1 w2 q3 q4 q5)
   ·simp only[decide_eq_false_iff_not,Int.not_lt] at h4
    rw[List.take_of_length_le (by omega)] at hwt
    exact Tm.ret (.inr ⟨by omega,by omega,by omega,λx hx=>(all_rows (by omega) hr x hx).mono (by omega),by omega⟩)
 refine⟨S,?_⟩
 intro left c0 c1 c2 c3 c4 h0 h1 h2 g1 g3 g4
 refine Tm.succ (g:=λk=>YP.g k c0 c1 c2 c3 c4 left (λz0=>some z0)) (λk=>YP.t_succ k c0 c1 c2 c3 c4 left) ?_
 unfold YP.g YP.body
 rw[Z9 (x:=left-c1.size) (by omega) (by omega)]
 refine Tm.ite (λh3=>Tm.ret (.inl (by omega))) (λh3=>?_)
 simp only[decide_eq_false_iff_not,Int.not_lt] at h3
 refine Yx.tm (B:=big) (λi hi=>by omega) (Yx.T (by omega) (by omega) g3) (λy hy=>?_)
 rcases hy with hy|⟨y0,y1,q3,qw,_⟩
 ·exact Tm.ite (λ_=>Tm.ret (.inl (by omega))) (λh=>by simp at h;omega)
 refine Tm.ite (λh8=>by simp at h8;omega) (λh8=>?_)
 refine Yz.tm (B:=big+2*n+1) (λi hi=>hi) (S y c4 y0 (by omega) (by omega) g4) (λy' hy'=>?_)
 rcases hy' with hy'|⟨y0',y1',q4,q5,qw'⟩
 ·exact Tm.ite (λ_=>Tm.ret (.inl (by omega))) (λh=>by simp at h;omega)
 refine Tm.ite (λh8=>by simp at h8;omega) (λh8=>?_)
 exact Tm.ret (.inr ⟨by omega,by omega,by omega,q3,q4,λx hx=>(q5 x hx).mono (by omega),by omega⟩)
theorem YP.T {aB:Int} {aA:BA} {aC:Int} {aD aE:LD} {a1:Int} (h0:0<=a1) (h1:a1<=1048576) (g1:aA.size<=maxLen) (g3:ZB RS maxLen aD) (g4:ZB Yr maxLen aE):Tm (Zai 1) (λk=>YP.t k aB aA aC aD aE a1) (λr=>r<0\/0<=r/\r<=a1/\aA.size<=lim/\ZB RS lim aD/\ZB Yr lim aE/\((Zu aD+Zu aE:Nat):Int)<=64*(a1-r)/\True):=
 (((szVal a1.toNat).2 a1 aB aA aC aD aE h0 (by omega) h1 g1 g3 g4).up (big_lv1 (n:=2*a1.toNat+2) (by omega))).mono λr hr=>by
  rcases hr with hr|⟨r0,r1,r2,r3,r4,r5,r6⟩
  ·exact .inl hr
  ·exact .inr ⟨r0,r1,r2,r3,⟨r4,λx hx=>⟨_,λ_=>by omega,r5 x hx⟩⟩,r6,trivial⟩
theorem Ya0.tm {ι α:Type} {ok:ι->Prop} {ψ:α->Prop} {p:ι->Nat} {B:Nat} (hp:∀ i,ok i->B<=p i) {aB aA aC aD aE aK aL a1 φ} (h:Tm (λk=>B<=k) (λk=>Ya0.t k aB aA aC aD aE aK aL a1) φ) {G:ι->Int->Option α} (hG:∀ z0,φ z0->Tm ok (λi=>G i z0) ψ):Tm ok (λi=>Ya0.f (p i) aB aA aC aD aE aK aL a1 (G i)) ψ:=bd1_tm (t:=λk=>Ya0.t k aB aA aC aD aE aK aL a1) hp h hG
theorem Ya0.T {aB:Int} {aA:LD} {aC:Int} {aD:BA} {aE:Int} {aK aL:LD} {a1:Int} (h0:0<=a1) (h1:a1<=1048576) (ga0_1:ZB RS maxLen aA) (ga0_3:aD.size<=maxLen) (ga0_5:ZB RS maxLen aK) (ga0_6:ZB Yr maxLen aL):Tm (Zai 1) (λk=>Ya0.t k aB aA aC aD aE aK aL a1) (λr=>r<0\/0<=r/\r<=a1/\ZB RS lim aA/\aD.size<=lim/\ZB RS lim aK/\ZB Yr lim aL/\((Zu aA+Zu aK+Zu aL:Nat):Int)<=64*(a1-r)/\True):=by
 unfold Ya0.t Ya0.g
 have hm:=maxLen_eq
 have hlim:lim=1048576:=rfl
 refine Yx.tm (λi hi=>up0 hi) (Yx.T (by first|assumption|omega) (by first|assumption|omega) (by first|assumption|omega)) (λy2 hy1=>?_)
 rcases hy1 with hy1|⟨p5,p6,q3,q4,_⟩
 ·exact Tm.ite (λ_=>Tm.ret (by left;omega)) (λh=>by simp at h;omega)
 refine Tm.ite (λh7=>?_) (λh7=>?_)
 ·try simp only[bz0,bz1,bz2,bz3,bz4,bz5,bz6,bz7,bz8,bz9,bza] at h7
  exact Tm.ret (by first|(left;omega)|(right;refine⟨?_,?_,?_,?_,?_,?_,?_,trivial⟩<;>first|assumption|omega))
 ·try simp only[bz0,bz1,bz2,bz3,bz4,bz5,bz6,bz7,bz8,bz9,bza] at h7
  refine YP.tm (λi hi=>hi) (YP.T (by first|assumption|omega) (by first|assumption|omega) (by first|assumption|omega) (by first|assumption|omega) (by first|assumption|omega)) (λy9 hy8=>?_)
  rcases hy8 with hy8|⟨p14,p15,q10,q11,q12,q13,_⟩
  ·exact Tm.ite (λ_=>Tm.ret (by left;omega)) (λh=>by simp at h;omega)
  refine Tm.ite (λh16=>?_) (λh16=>?_)
  ·try simp only[bz0,bz1,bz2,bz3,bz4,bz5,bz6,bz7,bz8,bz9,bza] at h16
   exact Tm.ret (by first|(left;omega)|(right;refine⟨?_,?_,?_,?_,?_,?_,?_,trivial⟩<;>first|assumption|omega))
  ·try simp only[bz0,bz1,bz2,bz3,bz4,bz5,bz6,bz7,bz8,bz9,bza] at h16
   exact Tm.ret (by first|(left;omega)|(right;refine⟨?_,?_,?_,?_,?_,?_,?_,trivial⟩<;>first|assumption|omega))
theorem Yaj.tm {ι α:Type} {ok:ι->Prop} {ψ:α->Prop} {p:ι->Nat} {B:Nat} (hp:∀ i,ok i->B<=p i) {a0 a1 φ} (h:Tm (λk=>B<=k) (λk=>Yaj.t k a0 a1) φ) {G:ι->Int->Option α} (hG:∀ z0,φ z0->Tm ok (λi=>G i z0) ψ):Tm ok (λi=>Yaj.f (p i) a0 a1 (G i)) ψ:=bd1_tm (t:=λk=>Yaj.t k a0 a1) hp h hG
def Yn (B:Nat) (r:List D):Prop:=∃ (c0:Int) (c1:LD) (c2:Int) (c3:BA) (c4:Int) (c5:LD) (c6:LD),r=[.int .i64 c0,.sl c1,.int .i64 c2,.str c3,.int .i64 c4,.sl c5,.sl c6]/\(Lit.int .i64 c0).wf=true/\ZB RS B c1/\(Lit.int .i64 c2).wf=true/\c3.size<=B/\(Lit.int .i64 c4).wf=true/\ZB RS B c5/\ZB Yr B c6/\True
theorem Yn.open {B:Nat} {r:List D} (h:Yn B r):∃ (c0:Int) (c1:LD) (c2:Int) (c3:BA) (c4:Int) (c5:LD) (c6:LD),r=[.int .i64 c0,.sl c1,.int .i64 c2,.str c3,.int .i64 c4,.sl c5,.sl c6]/\(Lit.int .i64 c0).wf=true/\ZB RS B c1/\(Lit.int .i64 c2).wf=true/\c3.size<=B/\(Lit.int .i64 c4).wf=true/\ZB RS B c5/\ZB Yr B c6/\True:=h
theorem Yn.mono {B B':Nat} (hb:B<=B') {r:List D} (h:Yn B r):Yn B' r:=by
 obtain⟨c0,c1,c2,c3,c4,c5,c6,rfl,k0,k1,k2,k3,k4,k5,k6,_⟩:=h
 exact⟨_,_,_,_,_,_,_,rfl,k0,⟨Nat.le_trans k1.1 hb,λr hr=>(k1.2 r hr).mono hb⟩,k2,(Nat.le_trans k3 hb),k4,⟨Nat.le_trans k5.1 hb,λr hr=>(k5.2 r hr).mono hb⟩,⟨Nat.le_trans k6.1 hb,λr hr=>(k6.2 r hr).mono hb⟩,trivial⟩
theorem Yn.wide {xs:LD} (h:ZB Yn lim xs):ZB Yn 2097152 xs:=⟨Nat.le_trans h.1 (by decide),λr hr=>(h.2 r hr).mono (by decide)⟩
theorem Yn.len {B:Nat} {r:List D} (h:Yn B r):r.length=7:=by
 obtain⟨c0,c1,c2,c3,c4,c5,c6,rfl,_⟩:=h.open
 rfl
theorem Yn.gets {B:Nat} {xs:LD} (h:∀ r∈xs,Yn B r) {v:Int} (h0:0<=v) (h1:v<xs.length):gR xs v=[.int .i64 (gI xs v 0),.sl (gL xs v 1),.int .i64 (gI xs v 2),.str (gS xs v 3),.int .i64 (gI xs v 4),.sl (gL xs v 5),.sl (gL xs v 6)]/\(Lit.int .i64 (gI xs v 0)).wf=true/\ZB RS B (gL xs v 1)/\(Lit.int .i64 (gI xs v 2)).wf=true/\(gS xs v 3).size<=B/\(Lit.int .i64 (gI xs v 4)).wf=true/\ZB RS B (gL xs v 5)/\ZB Yr B (gL xs v 6)/\True:=by
 obtain⟨c0,c1,c2,c3,c4,c5,c6,e,k0,k1,k2,k3,k4,k5,k6,_⟩:=(h (gR xs v) (gR_mem h0 h1)).open
 unfold gI gL gS
 rw[e]
 exact⟨rfl,k0,k1,k2,k3,k4,k5,k6,trivial⟩
theorem Yn.rows {B:Nat} {xs:LD} (h:∀ r∈xs,Yn B r) {v:Int} (h0:0<=v) (h1:v<xs.length) {β:Type} (F:List D->Option β):atRow xs v F=F [.int .i64 (gI xs v 0),.sl (gL xs v 1),.int .i64 (gI xs v 2),.str (gS xs v 3),.int .i64 (gI xs v 4),.sl (gL xs v 5),.sl (gL xs v 6)]:=by
 rw[<- (Yn.gets h h0 h1).1]
 exact Zck h0 h1 F
theorem Yn.get {B:Nat} {xs:LD} (h:ZB Yn B xs) {v:Int} (h0:0<=v) (h1:v<xs.length):gR xs v=[.int .i64 (gI xs v 0),.sl (gL xs v 1),.int .i64 (gI xs v 2),.str (gS xs v 3),.int .i64 (gI xs v 4),.sl (gL xs v 5),.sl (gL xs v 6)]/\(Lit.int .i64 (gI xs v 0)).wf=true/\ZB RS B (gL xs v 1)/\(Lit.int .i64 (gI xs v 2)).wf=true/\(gS xs v 3).size<=B/\(Lit.int .i64 (gI xs v 4)).wf=true/\ZB RS B (gL xs v 5)/\ZB Yr B (gL xs v 6)/\True:=Yn.gets h.2 h0 h1
theorem Yn.row {B:Nat} {xs:LD} (h:ZB Yn B xs) {v:Int} (h0:0<=v) (h1:v<xs.length) {β:Type} (F:List D->Option β):atRow xs v F=F [.int .i64 (gI xs v 0),.sl (gL xs v 1),.int .i64 (gI xs v 2),.str (gS xs v 3),.int .i64 (gI xs v 4),.sl (gL xs v 5),.sl (gL xs v 6)]:=Yn.rows h.2 h0 h1 F
set_option maxRecDepth 100000 in
theorem Yaj.T {a0:LD} {a1:Int} (h0:0<=a1) (h1:a1<=1048576) (ga0:ZB Yn maxLen a0):Tm (Zai 1) (λk=>Yaj.t k a0 a1) (λr=>r<0\/0<=r/\r<=a1/\ZB Yn lim a0/\((Zu a0:Nat):Int)<=64*(a1-r)/\True):=by
 unfold Yaj.t Yaj.g
 have hm:=maxLen_eq
 have hlim:lim=1048576:=rfl
 have hlen:=ga0.1
 try rw[Z9 (x:=a1-(a0.length:Int)) (by omega) (by omega)]
 refine Tm.ite (λh1=>?_) (λh1=>?_)
 ·try simp only[bz0,bz1,bz2,bz3,bz4,bz5,bz6,bz7,bz8,bz9,bza] at h1
  exact Tm.ret (by first|(left;omega)|(right;refine⟨?_,?_,?_,?_,trivial⟩<;>first|assumption|omega))
 ·try simp only[bz0,bz1,bz2,bz3,bz4,bz5,bz6,bz7,bz8,bz9,bza] at h1
  refine Tm.loop (okk:=(Zai 1)) (p:=λk=>k) (λi hi=>up0 hi) (b:=λk=>Yaj.l0 k a0 (λz0=>some z0)) (λv=>match v with|(u0,i)=>(((a0.length:Int))-i).toNat) (λv=>match v with|(u0,i)=>0<=u0/\u0<=a1/\0<=i/\i<=(a0.length:Int)/\(∀ r∈a0.take i.toNat,Yn lim r)/\((Zu (a0.take i.toNat):Nat):Int)<=64*(a1-a0.length-u0+i)) ?_ ?_ ?_
  ·rintro⟨u0,i⟩ hI
   try simp only[] at hI⊢
   have:big=2^64:=rfl
   have:=ga0.1
   omega
  ·exact⟨by omega,by omega,by omega,by simp,by simp,by simp[Zu]⟩
  ·rintro⟨u0,i⟩ hI L hL
   try simp only[] at hI
   obtain⟨u0a,u0b,i0,i1,hr,hwt⟩:=hI
   simp only[Yaj.l0,atR,rdQ,Q.ask]
   refine Tm.ite (λh2=>?_) (λh2=>?_)
   ·try simp only[bz0,bz1,bz2,bz3,bz4,bz5,bz6,bz7,bz8,bz9,bza] at h2
    refine Tm.atRow (by first|assumption|omega) (by first|assumption|omega) (λx3 hx4 hm5=>?_)
    obtain⟨c6,c7,c8,c9,c10,c11,c12,rfl,g13,g14,g15,g16,g17,g18,g19,_⟩:=(ga0.2 x3 hm5).open
    refine Tm.uncons ?_
    refine Tm.dInt ?_
    refine Tm.uncons ?_
    refine Tm.dSl ?_
    refine Tm.uncons ?_
    refine Tm.dInt ?_
    refine Tm.uncons ?_
    refine Tm.dStr ?_
    refine Tm.uncons ?_
    refine Tm.dInt ?_
    refine Tm.uncons ?_
    refine Tm.dSl ?_
    refine Tm.uncons ?_
    refine Tm.dSl ?_
    refine Tm.atEnd ?_
    refine Ya0.tm (λi hi=>hi.1) (Ya0.T (by first|assumption|omega) (by first|assumption|omega) (by first|assumption|omega) (by first|assumption|omega) (by first|assumption|omega) (by first|assumption|omega)) (λy21 hy20=>?_)
    rcases hy20 with hy20|⟨p27,p28,q22,q23,q24,q25,q26,_⟩
    ·exact Tm.ite (λ_=>Tm.ret (by left;omega)) (λh=>by simp at h;omega)
    refine Tm.ite (λh29=>?_) (λh29=>?_)
    ·try simp only[bz0,bz1,bz2,bz3,bz4,bz5,bz6,bz7,bz8,bz9,bza] at h29
     exact Tm.ret (by first|(left;omega)|(rw[List.take_of_length_le (by omega)] at hwt;exact .inr ⟨by omega,by omega,⟨by simp only[lim];omega,all_rows (by omega) hr⟩,by omega,trivial⟩))
    ·try simp only[bz0,bz1,bz2,bz3,bz4,bz5,bz6,bz7,bz8,bz9,bza] at h29
     try rw[Z9 (x:=i+1) (by omega) (by omega)]
     have hwx:=wt_take i0 hx4
     simp only[ZbY,wtD] at hwx
     refine hL (y21,(i+1)) ⟨by omega,by omega,by omega,by omega,take_rows i0 hx4 hr ⟨_,_,_,_,_,_,_,rfl,by first|assumption|omega,by first|assumption|omega,by first|assumption|omega,by first|assumption|omega,by first|assumption|omega,by first|assumption|omega,by first|assumption|omega,trivial⟩,by omega⟩ (by(try simp only[]);omega)
   ·try simp only[bz0,bz1,bz2,bz3,bz4,bz5,bz6,bz7,bz8,bz9,bza] at h2
    exact Tm.ret (by first|(left;omega)|(rw[List.take_of_length_le (by omega)] at hwt;exact .inr ⟨by omega,by omega,⟨by simp only[lim];omega,all_rows (by omega) hr⟩,by omega,trivial⟩))
theorem YaL.tm {ι α:Type} {ok:ι->Prop} {ψ:α->Prop} {p:ι->Nat} {B:Nat} (hp:∀ i,ok i->B<=p i) {aB aA a1 φ} (h:Tm (λk=>B<=k) (λk=>YaL.t k aB aA a1) φ) {G:ι->Int->Option α} (hG:∀ z0,φ z0->Tm ok (λi=>G i z0) ψ):Tm ok (λi=>YaL.f (p i) aB aA a1 (G i)) ψ:=bd1_tm (t:=λk=>YaL.t k aB aA a1) hp h hG
theorem YaL.T {aB:BA} {aA:LD} {a1:Int} (h0:0<=a1) (h1:a1<=1048576) (ga0_0:aB.size<=maxLen) (ga0_1:ZB Yn maxLen aA):Tm (Zai 1) (λk=>YaL.t k aB aA a1) (λr=>r<0\/0<=r/\r<=a1/\aB.size<=lim/\ZB Yn lim aA/\((Zu aA:Nat):Int)<=64*(a1-r)/\True):=by
 unfold YaL.t YaL.g
 have hm:=maxLen_eq
 have hlim:lim=1048576:=rfl
 try rw[Z9 (x:=a1-(aB.size:Int)) (by omega) (by omega)]
 refine Tm.ite (λh1=>?_) (λh1=>?_)
 ·try simp only[bz0,bz1,bz2,bz3,bz4,bz5,bz6,bz7,bz8,bz9,bza] at h1
  exact Tm.ret (by first|(left;omega)|(right;refine⟨?_,?_,?_,?_,?_,trivial⟩<;>first|assumption|omega))
 ·try simp only[bz0,bz1,bz2,bz3,bz4,bz5,bz6,bz7,bz8,bz9,bza] at h1
  refine Yaj.tm (λi hi=>hi) (Yaj.T (by first|assumption|omega) (by first|assumption|omega) (by first|assumption|omega)) (λy3 hy2=>?_)
  rcases hy2 with hy2|⟨p6,p7,q4,q5,_⟩
  ·exact Tm.ite (λ_=>Tm.ret (by left;omega)) (λh=>by simp at h;omega)
  refine Tm.ite (λh8=>?_) (λh8=>?_)
  ·try simp only[bz0,bz1,bz2,bz3,bz4,bz5,bz6,bz7,bz8,bz9,bza] at h8
   exact Tm.ret (by first|(left;omega)|(right;refine⟨?_,?_,?_,?_,?_,trivial⟩<;>first|assumption|omega))
  ·try simp only[bz0,bz1,bz2,bz3,bz4,bz5,bz6,bz7,bz8,bz9,bza] at h8
   exact Tm.ret (by first|(left;omega)|(right;refine⟨?_,?_,?_,?_,?_,trivial⟩<;>first|assumption|omega))
theorem YZ.tm {ι α:Type} {ok:ι->Prop} {ψ:α->Prop} {p:ι->Nat} {B:Nat} (hp:∀ i,ok i->B<=p i) {a0 a1 φ} (h:Tm (λk=>B<=k) (λk=>YZ.t k a0 a1) φ) {G:ι->Int->Option α} (hG:∀ z0,φ z0->Tm ok (λi=>G i z0) ψ):Tm ok (λi=>YZ.f (p i) a0 a1 (G i)) ψ:=bd1_tm (t:=λk=>YZ.t k a0 a1) hp h hG
def Yg (B:Nat) (r:List D):Prop:=∃ (c0:BA) (c1:LD),r=[.str c0,.sl c1]/\c0.size<=B/\ZB Yn B c1/\True
theorem Yg.open {B:Nat} {r:List D} (h:Yg B r):∃ (c0:BA) (c1:LD),r=[.str c0,.sl c1]/\c0.size<=B/\ZB Yn B c1/\True:=h
theorem Yg.mono {B B':Nat} (hb:B<=B') {r:List D} (h:Yg B r):Yg B' r:=by
 obtain⟨c0,c1,rfl,k0,k1,_⟩:=h
 exact⟨_,_,rfl,(Nat.le_trans k0 hb),⟨Nat.le_trans k1.1 hb,λr hr=>(k1.2 r hr).mono hb⟩,trivial⟩
theorem Yg.wide {xs:LD} (h:ZB Yg lim xs):ZB Yg 2097152 xs:=⟨Nat.le_trans h.1 (by decide),λr hr=>(h.2 r hr).mono (by decide)⟩
theorem Yg.len {B:Nat} {r:List D} (h:Yg B r):r.length=2:=by
 obtain⟨c0,c1,rfl,_⟩:=h.open
 rfl
theorem Yg.gets {B:Nat} {xs:LD} (h:∀ r∈xs,Yg B r) {v:Int} (h0:0<=v) (h1:v<xs.length):gR xs v=[.str (gS xs v 0),.sl (gL xs v 1)]/\(gS xs v 0).size<=B/\ZB Yn B (gL xs v 1)/\True:=by
 obtain⟨c0,c1,e,k0,k1,_⟩:=(h (gR xs v) (gR_mem h0 h1)).open
 unfold gL gS
 rw[e]
 exact⟨rfl,k0,k1,trivial⟩
theorem Yg.rows {B:Nat} {xs:LD} (h:∀ r∈xs,Yg B r) {v:Int} (h0:0<=v) (h1:v<xs.length) {β:Type} (F:List D->Option β):atRow xs v F=F [.str (gS xs v 0),.sl (gL xs v 1)]:=by
 rw[<- (Yg.gets h h0 h1).1]
 exact Zck h0 h1 F
theorem Yg.get {B:Nat} {xs:LD} (h:ZB Yg B xs) {v:Int} (h0:0<=v) (h1:v<xs.length):gR xs v=[.str (gS xs v 0),.sl (gL xs v 1)]/\(gS xs v 0).size<=B/\ZB Yn B (gL xs v 1)/\True:=Yg.gets h.2 h0 h1
theorem Yg.row {B:Nat} {xs:LD} (h:ZB Yg B xs) {v:Int} (h0:0<=v) (h1:v<xs.length) {β:Type} (F:List D->Option β):atRow xs v F=F [.str (gS xs v 0),.sl (gL xs v 1)]:=Yg.rows h.2 h0 h1 F
set_option maxRecDepth 100000 in
theorem YZ.T {a0:LD} {a1:Int} (h0:0<=a1) (h1:a1<=1048576) (ga0:ZB Yg maxLen a0):Tm (Zai 1) (λk=>YZ.t k a0 a1) (λr=>r<0\/0<=r/\r<=a1/\ZB Yg lim a0/\((Zu a0:Nat):Int)<=64*(a1-r)/\True):=by
 unfold YZ.t YZ.g
 have hm:=maxLen_eq
 have hlim:lim=1048576:=rfl
 have hlen:=ga0.1
 try rw[Z9 (x:=a1-(a0.length:Int)) (by omega) (by omega)]
 refine Tm.ite (λh1=>?_) (λh1=>?_)
 ·try simp only[bz0,bz1,bz2,bz3,bz4,bz5,bz6,bz7,bz8,bz9,bza] at h1
  exact Tm.ret (by first|(left;omega)|(right;refine⟨?_,?_,?_,?_,trivial⟩<;>first|assumption|omega))
 ·try simp only[bz0,bz1,bz2,bz3,bz4,bz5,bz6,bz7,bz8,bz9,bza] at h1
  refine Tm.loop (okk:=(Zai 1)) (p:=λk=>k) (λi hi=>up0 hi) (b:=λk=>YZ.l0 k a0 (λz0=>some z0)) (λv=>match v with|(u0,i)=>(((a0.length:Int))-i).toNat) (λv=>match v with|(u0,i)=>0<=u0/\u0<=a1/\0<=i/\i<=(a0.length:Int)/\(∀ r∈a0.take i.toNat,Yg lim r)/\((Zu (a0.take i.toNat):Nat):Int)<=64*(a1-a0.length-u0+i)) ?_ ?_ ?_
  ·rintro⟨u0,i⟩ hI
   try simp only[] at hI⊢
   have:big=2^64:=rfl
   have:=ga0.1
   omega
  ·exact⟨by omega,by omega,by omega,by simp,by simp,by simp[Zu]⟩
  ·rintro⟨u0,i⟩ hI L hL
   try simp only[] at hI
   obtain⟨u0a,u0b,i0,i1,hr,hwt⟩:=hI
   simp only[YZ.l0,atR,rdQ,Q.ask]
   refine Tm.ite (λh2=>?_) (λh2=>?_)
   ·try simp only[bz0,bz1,bz2,bz3,bz4,bz5,bz6,bz7,bz8,bz9,bza] at h2
    refine Tm.atRow (by first|assumption|omega) (by first|assumption|omega) (λx3 hx4 hm5=>?_)
    obtain⟨c6,c7,rfl,g8,g9,_⟩:=(ga0.2 x3 hm5).open
    refine Tm.uncons ?_
    refine Tm.dStr ?_
    refine Tm.uncons ?_
    refine Tm.dSl ?_
    refine Tm.atEnd ?_
    refine YaL.tm (λi hi=>hi.1) (YaL.T (by first|assumption|omega) (by first|assumption|omega) (by first|assumption|omega) (by first|assumption|omega)) (λy11 hy10=>?_)
    rcases hy10 with hy10|⟨p15,p16,q12,q13,q14,_⟩
    ·exact Tm.ite (λ_=>Tm.ret (by left;omega)) (λh=>by simp at h;omega)
    refine Tm.ite (λh17=>?_) (λh17=>?_)
    ·try simp only[bz0,bz1,bz2,bz3,bz4,bz5,bz6,bz7,bz8,bz9,bza] at h17
     exact Tm.ret (by first|(left;omega)|(rw[List.take_of_length_le (by omega)] at hwt;exact .inr ⟨by omega,by omega,⟨by simp only[lim];omega,all_rows (by omega) hr⟩,by omega,trivial⟩))
    ·try simp only[bz0,bz1,bz2,bz3,bz4,bz5,bz6,bz7,bz8,bz9,bza] at h17
     try rw[Z9 (x:=i+1) (by omega) (by omega)]
     have hwx:=wt_take i0 hx4
     simp only[ZbY,wtD] at hwx
     refine hL (y11,(i+1)) ⟨by omega,by omega,by omega,by omega,take_rows i0 hx4 hr ⟨_,_,rfl,by first|assumption|omega,by first|assumption|omega,trivial⟩,by omega⟩ (by(try simp only[]);omega)
   ·try simp only[bz0,bz1,bz2,bz3,bz4,bz5,bz6,bz7,bz8,bz9,bza] at h2
    exact Tm.ret (by first|(left;omega)|(rw[List.take_of_length_le (by omega)] at hwt;exact .inr ⟨by omega,by omega,⟨by simp only[lim];omega,all_rows (by omega) hr⟩,by omega,trivial⟩))
theorem YaU.tm {ι α:Type} {ok:ι->Prop} {ψ:α->Prop} {p:ι->Nat} {B:Nat} (hp:∀ i,ok i->B<=p i) {aB aA aC aD aE aK aL aZ bA aX aW aY bC a1 φ} (h:Tm (λk=>B<=k) (λk=>YaU.t k aB aA aC aD aE aK aL aZ bA aX aW aY bC a1) φ) {G:ι->Int->Option α} (hG:∀ z0,φ z0->Tm ok (λi=>G i z0) ψ):Tm ok (λi=>YaU.f (p i) aB aA aC aD aE aK aL aZ bA aX aW aY bC a1 (G i)) ψ:=bd1_tm (t:=λk=>YaU.t k aB aA aC aD aE aK aL aZ bA aX aW aY bC a1) hp h hG
theorem YaU.T {aB:Int} {aA:BA} {aC:Int} {aD aE aK:LD} {aL:Int} {aZ:BA} {bA:Int} {aX aW aY:LD} {bC:Bool} {a1:Int} (h0:0<=a1) (h1:a1<=1048576) (ga0_1:aA.size<=maxLen) (ga0_3:ZB YaY maxLen aD) (ga0_4:ZB RS maxLen aE) (ga0_5:ZB RSI maxLen aK) (ga0_7:aZ.size<=maxLen) (ga0_9:ZB RS maxLen aX) (ga0_10:ZB Yr maxLen aW) (ga0_11:ZB Yg maxLen aY):Tm (Zai 1) (λk=>YaU.t k aB aA aC aD aE aK aL aZ bA aX aW aY bC a1) (λr=>r<0\/0<=r/\r<=a1/\aA.size<=lim/\ZB YaY lim aD/\ZB RS lim aE/\ZB RSI lim aK/\aZ.size<=lim/\ZB RS lim aX/\ZB Yr lim aW/\ZB Yg lim aY/\((Zu aD+Zu aE+Zu aK+Zu aX+Zu aW+Zu aY:Nat):Int)<=64*(a1-r)/\True):=by
 unfold YaU.t YaU.g
 have hm:=maxLen_eq
 have hlim:lim=1048576:=rfl
 try rw[Z9 (x:=a1-(aA.size:Int)) (by omega) (by omega)]
 refine Tm.ite (λh1=>?_) (λh1=>?_)
 ·try simp only[bz0,bz1,bz2,bz3,bz4,bz5,bz6,bz7,bz8,bz9,bza] at h1
  exact Tm.ret (by first|(left;omega)|(right;refine⟨?_,?_,?_,?_,?_,?_,?_,?_,?_,?_,?_,trivial⟩<;>first|assumption|omega))
 ·try simp only[bz0,bz1,bz2,bz3,bz4,bz5,bz6,bz7,bz8,bz9,bza] at h1
  refine YaJ.tm (λi hi=>up0 hi) (YaJ.T (by first|assumption|omega) (by first|assumption|omega) (by first|assumption|omega) (by first|assumption|omega) (by first|assumption|omega)) (λy3 hy2=>?_)
  rcases hy2 with hy2|⟨p8,p9,q4,q5,q6,q7,_⟩
  ·exact Tm.ite (λ_=>Tm.ret (by left;omega)) (λh=>by simp at h;omega)
  refine Tm.ite (λh10=>?_) (λh10=>?_)
  ·try simp only[bz0,bz1,bz2,bz3,bz4,bz5,bz6,bz7,bz8,bz9,bza] at h10
   exact Tm.ret (by first|(left;omega)|(right;refine⟨?_,?_,?_,?_,?_,?_,?_,?_,?_,?_,?_,trivial⟩<;>first|assumption|omega))
  ·try simp only[bz0,bz1,bz2,bz3,bz4,bz5,bz6,bz7,bz8,bz9,bza] at h10
   refine YP.tm (λi hi=>hi) (YP.T (by first|assumption|omega) (by first|assumption|omega) (by first|assumption|omega) (by first|assumption|omega) (by first|assumption|omega)) (λy12 hy11=>?_)
   rcases hy11 with hy11|⟨p17,p18,q13,q14,q15,q16,_⟩
   ·exact Tm.ite (λ_=>Tm.ret (by left;omega)) (λh=>by simp at h;omega)
   refine Tm.ite (λh19=>?_) (λh19=>?_)
   ·try simp only[bz0,bz1,bz2,bz3,bz4,bz5,bz6,bz7,bz8,bz9,bza] at h19
    exact Tm.ret (by first|(left;omega)|(right;refine⟨?_,?_,?_,?_,?_,?_,?_,?_,?_,?_,?_,trivial⟩<;>first|assumption|omega))
   ·try simp only[bz0,bz1,bz2,bz3,bz4,bz5,bz6,bz7,bz8,bz9,bza] at h19
    refine YZ.tm (λi hi=>hi) (YZ.T (by first|assumption|omega) (by first|assumption|omega) (by first|assumption|omega)) (λy21 hy20=>?_)
    rcases hy20 with hy20|⟨p24,p25,q22,q23,_⟩
    ·exact Tm.ite (λ_=>Tm.ret (by left;omega)) (λh=>by simp at h;omega)
    refine Tm.ite (λh26=>?_) (λh26=>?_)
    ·try simp only[bz0,bz1,bz2,bz3,bz4,bz5,bz6,bz7,bz8,bz9,bza] at h26
     exact Tm.ret (by first|(left;omega)|(right;refine⟨?_,?_,?_,?_,?_,?_,?_,?_,?_,?_,?_,trivial⟩<;>first|assumption|omega))
    ·try simp only[bz0,bz1,bz2,bz3,bz4,bz5,bz6,bz7,bz8,bz9,bza] at h26
     exact Tm.ret (by first|(left;omega)|(right;refine⟨?_,?_,?_,?_,?_,?_,?_,?_,?_,?_,?_,trivial⟩<;>first|assumption|omega))
theorem Yw.tm {ι α:Type} {ok:ι->Prop} {ψ:α->Prop} {p:ι->Nat} {B:Nat} (hp:∀ i,ok i->B<=p i) {a0 φ} (h:Tm (λk=>B<=k) (λk=>Yw.t k a0) φ) {G:ι->LC->Option α} (hG:∀ z0,φ z0->Tm ok (λi=>G i z0) ψ):Tm ok (λi=>Yw.f (p i) a0 (G i)) ψ:=bd1_tm (t:=λk=>Yw.t k a0) hp h hG
set_option maxRecDepth 100000 in
theorem Yw.T {a0:LD} (ga0:ZB RS lim a0):Tm Fuel (λk=>Yw.t k a0) (λz=>z=Zc a0/\True):=by
 unfold Yw.t Yw.g
 have hm:=maxLen_eq
 have hlim:lim=1048576:=rfl
 have hlen:=ga0.1
 refine Tm.guard (by first|omega|(simp only[lim,maxLen_eq,Z8] at *;omega)|(simp only[lim,Z8] at *;refine⟨?_,?_,?_,?_⟩<;>omega)) ?_
 refine Tm.loop (okk:=Fuel) (p:=λk=>k) (λi hi=>hi) (b:=λk=>Yw.l0 k a0 (λz0=>some z0)) (λv=>match v with|(i,u1)=>(((a0.length:Int))-i).toNat) (λv=>match v with|(i,u1)=>0<=i/\i<=(a0.length:Int)/\Filled a0 ([.d (.str (⟨#[]⟩:BA))]:List C) i u1) ?_ ?_ ?_
 ·rintro⟨i,u1⟩ hI
  try simp only[] at hI⊢
  have:big=2^64:=rfl
  have:=ga0.1
  simp only[lim] at this
  omega
 ·exact⟨by omega,by simp,Filled.start _ _⟩
 ·rintro⟨i,u1⟩ hI L hL
  try simp only[] at hI
  obtain⟨i0,i1,hF⟩:=hI
  have hFl:=hF.len i1
  simp only[Yw.l0,atR,rdQ,Q.ask]
  refine Tm.ite (λh1=>?_) (λh1=>?_)
  ·try simp only[bz0,bz1,bz2,bz3,bz4,bz5,bz6,bz7,bz8,bz9,bza] at h1
   refine Tm.atRow (by first|assumption|omega) (by first|assumption|omega) (λx2 hx3 hm4=>?_)
   obtain⟨c5,rfl,g6,_⟩:=(ga0.2 x2 hm4).open
   refine Tm.uncons ?_
   refine Tm.dStr ?_
   refine Tm.atEnd ?_
   refine Tm.guard (by first|omega|(simp only[lim,maxLen_eq,Z8] at *;omega)|(simp only[lim,Z8] at *;refine⟨?_,?_,?_,?_⟩<;>omega)) ?_
   refine Tm.guard (by first|omega|(simp only[lim,maxLen_eq,Z8] at *;omega)|(simp only[lim,Z8] at *;refine⟨?_,?_,?_,?_⟩<;>omega)) ?_
   try rw[Z9 (x:=i+1) (by omega) (by omega)]
   refine hL (_,_) ⟨by omega,by omega,hF.next i0 hx3 rfl (by simp[ZN,deepD])⟩ (by(try simp only[]);omega)
  ·try simp only[bz0,bz1,bz2,bz3,bz4,bz5,bz6,bz7,bz8,bz9,bza] at h1
   exact Tm.ret (by exact⟨hF.all (by omega),trivial⟩)
theorem YaH.tm {ι α:Type} {ok:ι->Prop} {ψ:α->Prop} {p:ι->Nat} {B:Nat} (hp:∀ i,ok i->B<=p i) {aB aA aC φ} (h:Tm (λk=>B<=k) (λk=>YaH.t k aB aA aC) φ) {G:ι->Int->BA->LC->Option α} (hG:∀ z0 z1 z2,φ (z0,z1,z2)->Tm ok (λi=>G i z0 z1 z2) ψ):Tm ok (λi=>YaH.f (p i) aB aA aC (G i)) ψ:=bd3_tm (t:=λk=>YaH.t k aB aA aC) hp h hG
theorem YaH.T {aB:Int} {aA:BA} {aC:LD} (ga0_1:aA.size<=lim) (ga0_2:ZB RS lim aC):Tm Fuel (λk=>YaH.t k aB aA aC) (λz=>z.1=aB/\z.2.1=aA/\z.2.2=Zc aC/\True):=by
 unfold YaH.t YaH.g
 have hm:=maxLen_eq
 have hlim:lim=1048576:=rfl
 refine Yw.tm (λi hi=>hi) (Yw.T (by first|assumption|omega)) (λy2 hy1=>?_)
 try simp only[] at hy1
 obtain⟨rfl,_⟩:=hy1
 try simp only[ZK]
 exact Tm.ret (by exact⟨by first|rfl|assumption,by first|rfl|assumption,by first|rfl|assumption,trivial⟩)
theorem YT.tm {ι α:Type} {ok:ι->Prop} {ψ:α->Prop} {p:ι->Nat} {B:Nat} (hp:∀ i,ok i->B<=p i) {a0 φ} (h:Tm (λk=>B<=k) (λk=>YT.t k a0) φ) {G:ι->LC->Option α} (hG:∀ z0,φ z0->Tm ok (λi=>G i z0) ψ):Tm ok (λi=>YT.f (p i) a0 (G i)) ψ:=bd1_tm (t:=λk=>YT.t k a0) hp h hG
set_option maxRecDepth 100000 in
theorem YT.T {a0:LD} (ga0:ZB YaY lim a0):Tm Fuel (λk=>YT.t k a0) (λz=>z=Zc a0/\True):=by
 unfold YT.t YT.g YT.m
 have hm:=maxLen_eq
 have hlim:lim=1048576:=rfl
 have hlen:=ga0.1
 refine Tm.guard (by first|omega|(simp only[lim,maxLen_eq,Z8] at *;omega)|(simp only[lim,Z8] at *;refine⟨?_,?_,?_,?_⟩<;>omega)) ?_
 refine Tm.loop (okk:=Fuel) (p:=λk=>k) (λi hi=>hi) (b:=λk=>YT.l0 k a0 (λz0=>some z0)) (λv=>match v with|(i,u1)=>(((a0.length:Int))-i).toNat) (λv=>match v with|(i,u1)=>0<=i/\i<=(a0.length:Int)/\Filled a0 ([.d (.int .i64 0),.d (.str (⟨#[]⟩:BA)),.own ([]:LC)]:List C) i u1) ?_ ?_ ?_
 ·rintro⟨i,u1⟩ hI
  try simp only[] at hI⊢
  have:big=2^64:=rfl
  have:=ga0.1
  simp only[lim] at this
  omega
 ·exact⟨by omega,by simp,Filled.start _ _⟩
 ·rintro⟨i,u1⟩ hI L hL
  try simp only[] at hI
  obtain⟨i0,i1,hF⟩:=hI
  have hFl:=hF.len i1
  simp only[YT.l0,atR,rdQ,Q.ask]
  refine Tm.ite (λh1=>?_) (λh1=>?_)
  ·try simp only[bz0,bz1,bz2,bz3,bz4,bz5,bz6,bz7,bz8,bz9,bza] at h1
   refine Tm.atRow (by first|assumption|omega) (by first|assumption|omega) (λx2 hx3 hm4=>?_)
   obtain⟨c5,c6,c7,rfl,g8,g9,g10,_⟩:=(ga0.2 x2 hm4).open
   refine Tm.uncons ?_
   refine Tm.dInt ?_
   refine Tm.uncons ?_
   refine Tm.dStr ?_
   refine Tm.uncons ?_
   refine Tm.dSl ?_
   refine Tm.atEnd ?_
   refine YaH.tm (λi hi=>hi.1) (YaH.T (by first|assumption|omega) (by first|assumption|omega)) (λy12 y13 y14 hy11=>?_)
   try simp only[] at hy11
   obtain⟨rfl,rfl,rfl,_⟩:=hy11
   try simp only[ZK]
   refine Tm.guard (by first|omega|(simp only[lim,maxLen_eq,Z8] at *;omega)|(simp only[lim,Z8] at *;refine⟨?_,?_,?_,?_⟩<;>omega)) ?_
   refine Tm.guard (by first|omega|(simp only[lim,maxLen_eq,Z8] at *;omega)|(simp only[lim,Z8] at *;refine⟨?_,?_,?_,?_⟩<;>omega)) ?_
   try rw[Z9 (x:=i+1) (by omega) (by omega)]
   refine hL (_,_) ⟨by omega,by omega,hF.next i0 hx3 rfl (by simp[ZN,deepD])⟩ (by(try simp only[]);omega)
  ·try simp only[bz0,bz1,bz2,bz3,bz4,bz5,bz6,bz7,bz8,bz9,bza] at h1
   exact Tm.ret (by exact⟨hF.all (by omega),trivial⟩)
theorem YaC.tm {ι α:Type} {ok:ι->Prop} {ψ:α->Prop} {p:ι->Nat} {B:Nat} (hp:∀ i,ok i->B<=p i) {aB aA φ} (h:Tm (λk=>B<=k) (λk=>YaC.t k aB aA) φ) {G:ι->BA->Int->Option α} (hG:∀ z0 z1,φ (z0,z1)->Tm ok (λi=>G i z0 z1) ψ):Tm ok (λi=>YaC.f (p i) aB aA (G i)) ψ:=bd2_tm (t:=λk=>YaC.t k aB aA) hp h hG
theorem YaC.T {aB:BA} {aA:Int} (ga0_0:aB.size<=lim):Tm Fuel (λk=>YaC.t k aB aA) (λz=>z.1=aB/\z.2=aA/\True):=by
 unfold YaC.t YaC.g
 have hm:=maxLen_eq
 have hlim:lim=1048576:=rfl
 exact Tm.ret (by exact⟨by first|rfl|assumption,by first|rfl|assumption,trivial⟩)
theorem YM.tm {ι α:Type} {ok:ι->Prop} {ψ:α->Prop} {p:ι->Nat} {B:Nat} (hp:∀ i,ok i->B<=p i) {a0 φ} (h:Tm (λk=>B<=k) (λk=>YM.t k a0) φ) {G:ι->LC->Option α} (hG:∀ z0,φ z0->Tm ok (λi=>G i z0) ψ):Tm ok (λi=>YM.f (p i) a0 (G i)) ψ:=bd1_tm (t:=λk=>YM.t k a0) hp h hG
set_option maxRecDepth 100000 in
theorem YM.T {a0:LD} (ga0:ZB RSI lim a0):Tm Fuel (λk=>YM.t k a0) (λz=>z=Zc a0/\True):=by
 unfold YM.t YM.g YM.m
 have hm:=maxLen_eq
 have hlim:lim=1048576:=rfl
 have hlen:=ga0.1
 refine Tm.guard (by first|omega|(simp only[lim,maxLen_eq,Z8] at *;omega)|(simp only[lim,Z8] at *;refine⟨?_,?_,?_,?_⟩<;>omega)) ?_
 refine Tm.loop (okk:=Fuel) (p:=λk=>k) (λi hi=>hi) (b:=λk=>YM.l0 k a0 (λz0=>some z0)) (λv=>match v with|(i,u1)=>(((a0.length:Int))-i).toNat) (λv=>match v with|(i,u1)=>0<=i/\i<=(a0.length:Int)/\Filled a0 ([.d (.str (⟨#[]⟩:BA)),.d (.int .i64 0)]:List C) i u1) ?_ ?_ ?_
 ·rintro⟨i,u1⟩ hI
  try simp only[] at hI⊢
  have:big=2^64:=rfl
  have:=ga0.1
  simp only[lim] at this
  omega
 ·exact⟨by omega,by simp,Filled.start _ _⟩
 ·rintro⟨i,u1⟩ hI L hL
  try simp only[] at hI
  obtain⟨i0,i1,hF⟩:=hI
  have hFl:=hF.len i1
  simp only[YM.l0,atR,rdQ,Q.ask]
  refine Tm.ite (λh1=>?_) (λh1=>?_)
  ·try simp only[bz0,bz1,bz2,bz3,bz4,bz5,bz6,bz7,bz8,bz9,bza] at h1
   refine Tm.atRow (by first|assumption|omega) (by first|assumption|omega) (λx2 hx3 hm4=>?_)
   obtain⟨c5,c6,rfl,g7,g8,_⟩:=(ga0.2 x2 hm4).open
   refine Tm.uncons ?_
   refine Tm.dStr ?_
   refine Tm.uncons ?_
   refine Tm.dInt ?_
   refine Tm.atEnd ?_
   refine YaC.tm (λi hi=>hi.1) (YaC.T (by first|assumption|omega)) (λy10 y11 hy9=>?_)
   try simp only[] at hy9
   obtain⟨rfl,rfl,_⟩:=hy9
   try simp only[ZK]
   refine Tm.guard (by first|omega|(simp only[lim,maxLen_eq,Z8] at *;omega)|(simp only[lim,Z8] at *;refine⟨?_,?_,?_,?_⟩<;>omega)) ?_
   refine Tm.guard (by first|omega|(simp only[lim,maxLen_eq,Z8] at *;omega)|(simp only[lim,Z8] at *;refine⟨?_,?_,?_,?_⟩<;>omega)) ?_
   try rw[Z9 (x:=i+1) (by omega) (by omega)]
   refine hL (_,_) ⟨by omega,by omega,hF.next i0 hx3 rfl (by simp[ZN,deepD])⟩ (by(try simp only[]);omega)
  ·try simp only[bz0,bz1,bz2,bz3,bz4,bz5,bz6,bz7,bz8,bz9,bza] at h1
   exact Tm.ret (by exact⟨hF.all (by omega),trivial⟩)
theorem YaG.tm {ι α:Type} {ok:ι->Prop} {ψ:α->Prop} {p:ι->Nat} {B:Nat} (hp:∀ i,ok i->B<=p i) {aB aA aC aD φ} (h:Tm (λk=>B<=k) (λk=>YaG.t k aB aA aC aD) φ) {G:ι->Int->LC->LC->LC->Option α} (hG:∀ z0 z1 z2 z3,φ (z0,z1,z2,z3)->Tm ok (λi=>G i z0 z1 z2 z3) ψ):Tm ok (λi=>YaG.f (p i) aB aA aC aD (G i)) ψ:=bd4_tm (t:=λk=>YaG.t k aB aA aC aD) hp h hG
theorem YaG.T {aB:Int} {aA aC aD:LD} (ga0_1:ZB YaY lim aA) (ga0_2:ZB RS lim aC) (ga0_3:ZB RSI lim aD):Tm Fuel (λk=>YaG.t k aB aA aC aD) (λz=>z.1=aB/\z.2.1=Zc aA/\z.2.2.1=Zc aC/\z.2.2.2=Zc aD/\True):=by
 unfold YaG.t YaG.g
 have hm:=maxLen_eq
 have hlim:lim=1048576:=rfl
 refine YT.tm (λi hi=>hi) (YT.T (by first|assumption|omega)) (λy2 hy1=>?_)
 try simp only[] at hy1
 obtain⟨rfl,_⟩:=hy1
 try simp only[ZK]
 refine Yw.tm (λi hi=>hi) (Yw.T (by first|assumption|omega)) (λy4 hy3=>?_)
 try simp only[] at hy3
 obtain⟨rfl,_⟩:=hy3
 try simp only[ZK]
 refine YM.tm (λi hi=>hi) (YM.T (by first|assumption|omega)) (λy6 hy5=>?_)
 try simp only[] at hy5
 obtain⟨rfl,_⟩:=hy5
 try simp only[ZK]
 exact Tm.ret (by exact⟨by first|rfl|assumption,by first|rfl|assumption,by first|rfl|assumption,by first|rfl|assumption,trivial⟩)
theorem Yt.tm {ι α:Type} {ok:ι->Prop} {ψ:α->Prop} {p:ι->Nat} {B:Nat} (hp:∀ i,ok i->B<=p i) {a0 φ} (h:Tm (λk=>B<=k) (λk=>Yt.t k a0) φ) {G:ι->LC->Option α} (hG:∀ z0,φ z0->Tm ok (λi=>G i z0) ψ):Tm ok (λi=>Yt.f (p i) a0 (G i)) ψ:=bd1_tm (t:=λk=>Yt.t k a0) hp h hG
theorem YO.tm {ι α:Type} {ok:ι->Prop} {ψ:α->Prop} {p:ι->Nat} {B:Nat} (hp:∀ i,ok i->B<=p i) {aB aA aC aD aE φ} (h:Tm (λk=>B<=k) (λk=>YO.t k aB aA aC aD aE) φ) {G:ι->Int->BA->Int->LC->LC->Option α} (hG:∀ z0 z1 z2 z3 z4,φ (z0,z1,z2,z3,z4)->Tm ok (λi=>G i z0 z1 z2 z3 z4) ψ):Tm ok (λi=>YO.f (p i) aB aA aC aD aE (G i)) ψ:=bd5_tm (t:=λk=>YO.t k aB aA aC aD aE) hp h hG
set_option maxRecDepth 100000 in
theorem toVal (n:Nat):(∀ (a:LD),a.length<=lim->(∀ x∈a,YD lim n x)->Tm (λk=>big+2*n+1<=k) (λk=>Yt.t k a) (λz=>z=Zc a))/\
  (∀ (c0:Int) (c1:BA) (c2:Int) (c3 c4:LD),c1.size<=lim->ZB RS lim c3->c4.length<=lim->(∀ x∈c4,YD lim n x)->Tm (λk=>big+2*n+2<=k) (λk=>YO.t k c0 c1 c2 c3 c4) (λz=>z.1=c0/\z.2.1=c1/\z.2.2.1=c2/\z.2.2.2.1=Zc c3/\z.2.2.2.2=Zc c4)):=by
 have hm:Z8=2^36:=rfl
 have hlim:lim=1048576:=rfl
 have hb:big=2^64:=rfl
 induction n using Nat.strongRecOn with
 |ind n ih=>
 have S:∀ (a:LD),a.length<=lim->(∀ x∈a,YD lim n x)->Tm (λk=>big+2*n+1<=k) (λk=>Yt.t k a) (λz=>z=Zc a):=by
  intro a hlen g
  refine Tm.succ (g:=λk=>Yt.g k a (λz0=>some z0)) (λk=>Yt.t_succ k a) ?_
  unfold Yt.g Yt.body Yt.m
  refine Tm.guard ⟨by omega,by omega,by omega,by omega⟩ ?_
  refine Tm.loop (okk:=λk=>big+2*n<=k) (p:=λk=>k) (λi hi=>by omega) (b:=λk=>Yt.l0 k (Yt.f k) (YO.f k) a (λz0=>some z0)) (λv=>match v with|(i,u1)=>(((a.length:Int))-i).toNat) (λv=>match v with|(i,u1)=>0<=i/\i<=(a.length:Int)/\Filled a ([.d (.int .i64 0),.d (.str (⟨#[]⟩:BA)),.d (.int .i64 0),.own ([]:LC),.own ([]:LC)]:List C) i u1) ?_ ?_ ?_
  ·rintro⟨i,u1⟩ hI
   simp only[] at hI⊢
   omega
  ·exact⟨by omega,by simp,Filled.start _ _⟩
  ·rintro⟨i,u1⟩ hI L hL
   simp only[] at hI
   obtain⟨i0,i1,hF⟩:=hI
   have hFl:=hF.len i1
   simp only[Yt.l0,atR,rdQ,Q.ask]
   refine Tm.ite (λh4=>?_) (λh4=>?_)
   ·simp only[decide_eq_true_eq] at h4
    refine Tm.atRow (by omega) (by omega) (λx5 hx6 hm7=>?_)
    obtain⟨n',hn',c0,c1,c2,c3,c4,rfl,w0,g1,w2,g3,l4,g4⟩:∃ n',n=n'+1/\∃ c0 c1 c2 c3 c4,x5=[.int .i64 c0,.str c1,.int .i64 c2,.sl c3,.sl c4]/\(Lit.int .i64 c0).wf=true/\c1.size<=lim/\(Lit.int .i64 c2).wf=true/\ZB RS lim c3/\c4.length<=lim/\∀ x∈c4,YD lim n' x:=by
     have:=g x5 hm7
     cases this with
     |mk c0 c1 c2 c3 c4 w0 g1 w2 g3 l4 g4=>exact⟨_,rfl,_,_,_,_,_,rfl,w0,g1,w2,g3,l4,g4⟩
    refine Tm.uncons (Tm.dInt (Tm.uncons (Tm.dStr (Tm.uncons (Tm.dInt (Tm.uncons (Tm.dSl (Tm.uncons (Tm.dSl (Tm.atEnd ?_))))))))))
    refine YO.tm (B:=big+2*n'+2) (λi hi=>by have:=hi.1;omega) ((ih n' (by omega)).2 c0 c1 c2 c3 c4 g1 g3 l4 g4) (λy0 y1 y2 y3 y4 hy=>?_)
    simp only[] at hy
    obtain⟨rfl,rfl,rfl,e3,e4⟩:=hy
    refine Tm.guard (by omega) (Tm.guard (by omega) ?_)
    rw[Z9 (x:=i+1) (by omega) (by omega)]
    exact hL (_,_) ⟨by omega,by omega,hF.next i0 hx6 rfl (by simp[ZN,deepD,e3,e4])⟩ (by simp only[];omega)
   ·simp only[decide_eq_false_iff_not,Int.not_lt] at h4
    exact Tm.ret (hF.all (by omega))
 refine⟨S,?_⟩
 intro c0 c1 c2 c3 c4 g1 g3 l4 g4
 refine Tm.succ (g:=λk=>YO.g k c0 c1 c2 c3 c4 (λz0 z1 z2 z3 z4=>some (z0,z1,z2,z3,z4))) (λk=>YO.t_succ k c0 c1 c2 c3 c4) ?_
 unfold YO.g YO.body
 refine Yw.tm (B:=big) (λi hi=>by omega) (Yw.T g3) (λy hy=>?_)
 refine Yt.tm (B:=big+2*n+1) (λi hi=>hi) (S c4 l4 g4) (λy' hy'=>?_)
 exact Tm.ret ⟨rfl,rfl,rfl,hy.1,hy'⟩
theorem YO.T {aB:Int} {aA:BA} {aC:Int} {aD aE:LD} (g1:aA.size<=lim) (g3:ZB RS lim aD) (g4:ZB Yr lim aE):Tm (Zai 1) (λk=>YO.t k aB aA aC aD aE) (λz=>z.1=aB/\z.2.1=aA/\z.2.2.1=aC/\z.2.2.2.1=Zc aD/\z.2.2.2.2=Zc aE/\True):=by
 have hlim:lim=1048576:=rfl
 have g':∀ x∈aE,YD lim 1099511627776 x:=λx hx=>by
  obtain⟨h,hh,hx⟩:=g4.2 x hx
  exact hx.mono (hh (by decide))
 exact(((toVal 1099511627776).2 aB aA aC aD aE g1 g3 g4.1 g').up (big_lv1 (n:=2*1099511627776+2) (by omega))).mono λr hr=>⟨hr.1,hr.2.1,hr.2.2.1,hr.2.2.2.1,hr.2.2.2.2,trivial⟩
theorem YaS.f_of {β:Type} {k:Nat} {aB:Int} {aA:LD} {aC:Int} {aD:BA} {aE:Int} {aK aL:LD} {z0:Int} {z1:LC} {z2:Int} {z3:BA} {z4:Int} {z5 z6:LC} (h:YaS.t k aB aA aC aD aE aK aL=some (z0,z1,z2,z3,z4,z5,z6)) (K:Int->LC->Int->BA->Int->LC->LC->Option β):YaS.f k aB aA aC aD aE aK aL K=K z0 z1 z2 z3 z4 z5 z6:=by
 unfold YaS.f
 rw[h]
theorem YaS.tm {ι α:Type} {ok:ι->Prop} {ψ:α->Prop} {p:ι->Nat} {B:Nat} (hp:∀ i,ok i->B<=p i) {aB:Int} {aA:LD} {aC:Int} {aD:BA} {aE:Int} {aK aL:LD} {φ:Int×LC×Int×BA×Int×LC×LC->Prop} (h:Tm (λk=>B<=k) (λk=>YaS.t k aB aA aC aD aE aK aL) φ) {G:ι->Int->LC->Int->BA->Int->LC->LC->Option α} (hG:∀ z0 z1 z2 z3 z4 z5 z6,φ (z0,z1,z2,z3,z4,z5,z6)->Tm ok (λι0=>G ι0 z0 z1 z2 z3 z4 z5 z6) ψ):Tm ok (λι0=>YaS.f (p ι0) aB aA aC aD aE aK aL (G ι0)) ψ:=by
 obtain⟨⟨z0,z1,z2,z3,z4,z5,z6⟩,h1,h2⟩:=h
 exact(hG z0 z1 z2 z3 z4 z5 z6 h1).congr λi0 hi0=>YaS.f_of (h2 (p i0) (hp i0 hi0)) _
theorem YaS.T {aB:Int} {aA:LD} {aC:Int} {aD:BA} {aE:Int} {aK aL:LD} (ga0_1:ZB RS lim aA) (ga0_3:aD.size<=lim) (ga0_5:ZB RS lim aK) (ga0_6:ZB Yr lim aL):Tm (Zai 1) (λk=>YaS.t k aB aA aC aD aE aK aL) (λz=>z.1=aB/\z.2.1=Zc aA/\z.2.2.1=aC/\z.2.2.2.1=aD/\z.2.2.2.2.1=aE/\z.2.2.2.2.2.1=Zc aK/\z.2.2.2.2.2.2=Zc aL/\True):=by
 unfold YaS.t YaS.g
 have hm:=maxLen_eq
 have hlim:lim=1048576:=rfl
 refine Yw.tm (λi hi=>up0 hi) (Yw.T (by first|assumption|omega)) (λy2 hy1=>?_)
 try simp only[] at hy1
 obtain⟨rfl,_⟩:=hy1
 try simp only[ZK]
 refine YO.tm (λi hi=>hi) (YO.T (by first|assumption|omega) (by first|assumption|omega) (by first|assumption|omega)) (λy4 y5 y6 y7 y8 hy3=>?_)
 try simp only[] at hy3
 obtain⟨rfl,rfl,rfl,rfl,rfl,_⟩:=hy3
 try simp only[ZK]
 exact Tm.ret (by exact⟨by first|rfl|assumption,by first|rfl|assumption,by first|rfl|assumption,by first|rfl|assumption,by first|rfl|assumption,by first|rfl|assumption,by first|rfl|assumption,trivial⟩)
theorem Yag.tm {ι α:Type} {ok:ι->Prop} {ψ:α->Prop} {p:ι->Nat} {B:Nat} (hp:∀ i,ok i->B<=p i) {a0 φ} (h:Tm (λk=>B<=k) (λk=>Yag.t k a0) φ) {G:ι->LC->Option α} (hG:∀ z0,φ z0->Tm ok (λi=>G i z0) ψ):Tm ok (λi=>Yag.f (p i) a0 (G i)) ψ:=bd1_tm (t:=λk=>Yag.t k a0) hp h hG
set_option maxRecDepth 100000 in
theorem Yag.T {a0:LD} (ga0:ZB Yn lim a0):Tm (Zai 1) (λk=>Yag.t k a0) (λz=>z=Zc a0/\True):=by
 unfold Yag.t Yag.g Yag.m
 have hm:=maxLen_eq
 have hlim:lim=1048576:=rfl
 have hlen:=ga0.1
 refine Tm.guard (by first|omega|(simp only[lim,maxLen_eq,Z8] at *;omega)|(simp only[lim,Z8] at *;refine⟨?_,?_,?_,?_⟩<;>omega)) ?_
 refine Tm.loop (okk:=(Zai 1)) (p:=λk=>k) (λi hi=>up0 hi) (b:=λk=>Yag.l0 k a0 (λz0=>some z0)) (λv=>match v with|(i,u1)=>(((a0.length:Int))-i).toNat) (λv=>match v with|(i,u1)=>0<=i/\i<=(a0.length:Int)/\Filled a0 ([.d (.int .i64 0),.own ([]:LC),.d (.int .i64 0),.d (.str (⟨#[]⟩:BA)),.d (.int .i64 0),.own ([]:LC),.own ([]:LC)]:List C) i u1) ?_ ?_ ?_
 ·rintro⟨i,u1⟩ hI
  try simp only[] at hI⊢
  have:big=2^64:=rfl
  have:=ga0.1
  simp only[lim] at this
  omega
 ·exact⟨by omega,by simp,Filled.start _ _⟩
 ·rintro⟨i,u1⟩ hI L hL
  try simp only[] at hI
  obtain⟨i0,i1,hF⟩:=hI
  have hFl:=hF.len i1
  simp only[Yag.l0,atR,rdQ,Q.ask]
  refine Tm.ite (λh1=>?_) (λh1=>?_)
  ·try simp only[bz0,bz1,bz2,bz3,bz4,bz5,bz6,bz7,bz8,bz9,bza] at h1
   refine Tm.atRow (by first|assumption|omega) (by first|assumption|omega) (λx2 hx3 hm4=>?_)
   obtain⟨c5,c6,c7,c8,c9,c10,c11,rfl,g12,g13,g14,g15,g16,g17,g18,_⟩:=(ga0.2 x2 hm4).open
   refine Tm.uncons ?_
   refine Tm.dInt ?_
   refine Tm.uncons ?_
   refine Tm.dSl ?_
   refine Tm.uncons ?_
   refine Tm.dInt ?_
   refine Tm.uncons ?_
   refine Tm.dStr ?_
   refine Tm.uncons ?_
   refine Tm.dInt ?_
   refine Tm.uncons ?_
   refine Tm.dSl ?_
   refine Tm.uncons ?_
   refine Tm.dSl ?_
   refine Tm.atEnd ?_
   refine YaS.tm (λi hi=>hi.1) (YaS.T (by first|assumption|omega) (by first|assumption|omega) (by first|assumption|omega) (by first|assumption|omega)) (λy20 y21 y22 y23 y24 y25 y26 hy19=>?_)
   try simp only[] at hy19
   obtain⟨rfl,rfl,rfl,rfl,rfl,rfl,rfl,_⟩:=hy19
   try simp only[ZK]
   refine Tm.guard (by first|omega|(simp only[lim,maxLen_eq,Z8] at *;omega)|(simp only[lim,Z8] at *;refine⟨?_,?_,?_,?_⟩<;>omega)) ?_
   refine Tm.guard (by first|omega|(simp only[lim,maxLen_eq,Z8] at *;omega)|(simp only[lim,Z8] at *;refine⟨?_,?_,?_,?_⟩<;>omega)) ?_
   try rw[Z9 (x:=i+1) (by omega) (by omega)]
   refine hL (_,_) ⟨by omega,by omega,hF.next i0 hx3 rfl (by simp[ZN,deepD])⟩ (by(try simp only[]);omega)
  ·try simp only[bz0,bz1,bz2,bz3,bz4,bz5,bz6,bz7,bz8,bz9,bza] at h1
   exact Tm.ret (by exact⟨hF.all (by omega),trivial⟩)
theorem YaI.tm {ι α:Type} {ok:ι->Prop} {ψ:α->Prop} {p:ι->Nat} {B:Nat} (hp:∀ i,ok i->B<=p i) {aB aA φ} (h:Tm (λk=>B<=k) (λk=>YaI.t k aB aA) φ) {G:ι->BA->LC->Option α} (hG:∀ z0 z1,φ (z0,z1)->Tm ok (λi=>G i z0 z1) ψ):Tm ok (λi=>YaI.f (p i) aB aA (G i)) ψ:=bd2_tm (t:=λk=>YaI.t k aB aA) hp h hG
theorem YaI.T {aB:BA} {aA:LD} (ga0_0:aB.size<=lim) (ga0_1:ZB Yn lim aA):Tm (Zai 1) (λk=>YaI.t k aB aA) (λz=>z.1=aB/\z.2=Zc aA/\True):=by
 unfold YaI.t YaI.g
 have hm:=maxLen_eq
 have hlim:lim=1048576:=rfl
 refine Yag.tm (λi hi=>hi) (Yag.T (by first|assumption|omega)) (λy2 hy1=>?_)
 try simp only[] at hy1
 obtain⟨rfl,_⟩:=hy1
 try simp only[ZK]
 exact Tm.ret (by exact⟨by first|rfl|assumption,by first|rfl|assumption,trivial⟩)
theorem YU.tm {ι α:Type} {ok:ι->Prop} {ψ:α->Prop} {p:ι->Nat} {B:Nat} (hp:∀ i,ok i->B<=p i) {a0 φ} (h:Tm (λk=>B<=k) (λk=>YU.t k a0) φ) {G:ι->LC->Option α} (hG:∀ z0,φ z0->Tm ok (λi=>G i z0) ψ):Tm ok (λi=>YU.f (p i) a0 (G i)) ψ:=bd1_tm (t:=λk=>YU.t k a0) hp h hG
set_option maxRecDepth 100000 in
theorem YU.T {a0:LD} (ga0:ZB Yg lim a0):Tm (Zai 1) (λk=>YU.t k a0) (λz=>z=Zc a0/\True):=by
 unfold YU.t YU.g YU.m
 have hm:=maxLen_eq
 have hlim:lim=1048576:=rfl
 have hlen:=ga0.1
 refine Tm.guard (by first|omega|(simp only[lim,maxLen_eq,Z8] at *;omega)|(simp only[lim,Z8] at *;refine⟨?_,?_,?_,?_⟩<;>omega)) ?_
 refine Tm.loop (okk:=(Zai 1)) (p:=λk=>k) (λi hi=>up0 hi) (b:=λk=>YU.l0 k a0 (λz0=>some z0)) (λv=>match v with|(i,u1)=>(((a0.length:Int))-i).toNat) (λv=>match v with|(i,u1)=>0<=i/\i<=(a0.length:Int)/\Filled a0 ([.d (.str (⟨#[]⟩:BA)),.own ([]:LC)]:List C) i u1) ?_ ?_ ?_
 ·rintro⟨i,u1⟩ hI
  try simp only[] at hI⊢
  have:big=2^64:=rfl
  have:=ga0.1
  simp only[lim] at this
  omega
 ·exact⟨by omega,by simp,Filled.start _ _⟩
 ·rintro⟨i,u1⟩ hI L hL
  try simp only[] at hI
  obtain⟨i0,i1,hF⟩:=hI
  have hFl:=hF.len i1
  simp only[YU.l0,atR,rdQ,Q.ask]
  refine Tm.ite (λh1=>?_) (λh1=>?_)
  ·try simp only[bz0,bz1,bz2,bz3,bz4,bz5,bz6,bz7,bz8,bz9,bza] at h1
   refine Tm.atRow (by first|assumption|omega) (by first|assumption|omega) (λx2 hx3 hm4=>?_)
   obtain⟨c5,c6,rfl,g7,g8,_⟩:=(ga0.2 x2 hm4).open
   refine Tm.uncons ?_
   refine Tm.dStr ?_
   refine Tm.uncons ?_
   refine Tm.dSl ?_
   refine Tm.atEnd ?_
   refine YaI.tm (λi hi=>hi.1) (YaI.T (by first|assumption|omega) (by first|assumption|omega)) (λy10 y11 hy9=>?_)
   try simp only[] at hy9
   obtain⟨rfl,rfl,_⟩:=hy9
   try simp only[ZK]
   refine Tm.guard (by first|omega|(simp only[lim,maxLen_eq,Z8] at *;omega)|(simp only[lim,Z8] at *;refine⟨?_,?_,?_,?_⟩<;>omega)) ?_
   refine Tm.guard (by first|omega|(simp only[lim,maxLen_eq,Z8] at *;omega)|(simp only[lim,Z8] at *;refine⟨?_,?_,?_,?_⟩<;>omega)) ?_
   try rw[Z9 (x:=i+1) (by omega) (by omega)]
   refine hL (_,_) ⟨by omega,by omega,hF.next i0 hx3 rfl (by simp[ZN,deepD])⟩ (by(try simp only[]);omega)
  ·try simp only[bz0,bz1,bz2,bz3,bz4,bz5,bz6,bz7,bz8,bz9,bza] at h1
   exact Tm.ret (by exact⟨hF.all (by omega),trivial⟩)
theorem Yar.f_of {β:Type} {k:Nat} {aB:Int} {aA:BA} {aC:Int} {aD aE aK:LD} {aL:Int} {aZ:BA} {bA:Int} {aX aW aY:LD} {bC:Bool} {z0:Int} {z1:BA} {z2:Int} {z3 z4 z5:LC} {z6:Int} {z7:BA} {z8:Int} {z9 z10 z11:LC} {z12:Bool} (h:Yar.t k aB aA aC aD aE aK aL aZ bA aX aW aY bC=some (z0,z1,z2,z3,z4,z5,z6,z7,z8,z9,z10,z11,z12)) (K:Int->BA->Int->LC->LC->LC->Int->BA->Int->LC->LC->LC->Bool->Option β):Yar.f k aB aA aC aD aE aK aL aZ bA aX aW aY bC K=K z0 z1 z2 z3 z4 z5 z6 z7 z8 z9 z10 z11 z12:=by
 unfold Yar.f
 rw[h]
theorem Yar.tm {ι α:Type} {ok:ι->Prop} {ψ:α->Prop} {p:ι->Nat} {B:Nat} (hp:∀ i,ok i->B<=p i) {aB:Int} {aA:BA} {aC:Int} {aD aE aK:LD} {aL:Int} {aZ:BA} {bA:Int} {aX aW aY:LD} {bC:Bool} {φ:Int×BA×Int×LC×LC×LC×Int×BA×Int×LC×LC×LC×Bool->Prop} (h:Tm (λk=>B<=k) (λk=>Yar.t k aB aA aC aD aE aK aL aZ bA aX aW aY bC) φ) {G:ι->Int->BA->Int->LC->LC->LC->Int->BA->Int->LC->LC->LC->Bool->Option α} (hG:∀ z0 z1 z2 z3 z4 z5 z6 z7 z8 z9 z10 z11 z12,φ (z0,z1,z2,z3,z4,z5,z6,z7,z8,z9,z10,z11,z12)->Tm ok (λι0=>G ι0 z0 z1 z2 z3 z4 z5 z6 z7 z8 z9 z10 z11 z12) ψ):Tm ok (λι0=>Yar.f (p ι0) aB aA aC aD aE aK aL aZ bA aX aW aY bC (G ι0)) ψ:=by
 obtain⟨⟨z0,z1,z2,z3,z4,z5,z6,z7,z8,z9,z10,z11,z12⟩,h1,h2⟩:=h
 exact(hG z0 z1 z2 z3 z4 z5 z6 z7 z8 z9 z10 z11 z12 h1).congr λi0 hi0=>Yar.f_of (h2 (p i0) (hp i0 hi0)) _
theorem Yar.T {aB:Int} {aA:BA} {aC:Int} {aD aE aK:LD} {aL:Int} {aZ:BA} {bA:Int} {aX aW aY:LD} {bC:Bool} (ga0_1:aA.size<=lim) (ga0_3:ZB YaY lim aD) (ga0_4:ZB RS lim aE) (ga0_5:ZB RSI lim aK) (ga0_7:aZ.size<=lim) (ga0_9:ZB RS lim aX) (ga0_10:ZB Yr lim aW) (ga0_11:ZB Yg lim aY):Tm (Zai 1) (λk=>Yar.t k aB aA aC aD aE aK aL aZ bA aX aW aY bC) (λz=>z.1=aB/\z.2.1=aA/\z.2.2.1=aC/\z.2.2.2.1=Zc aD/\z.2.2.2.2.1=Zc aE/\z.2.2.2.2.2.1=Zc aK/\z.2.2.2.2.2.2.1=aL/\z.2.2.2.2.2.2.2.1=aZ/\z.2.2.2.2.2.2.2.2.1=bA/\z.2.2.2.2.2.2.2.2.2.1=Zc aX/\z.2.2.2.2.2.2.2.2.2.2.1=Zc aW/\z.2.2.2.2.2.2.2.2.2.2.2.1=Zc aY/\z.2.2.2.2.2.2.2.2.2.2.2.2=bC/\True):=by
 unfold Yar.t Yar.g
 have hm:=maxLen_eq
 have hlim:lim=1048576:=rfl
 refine YaG.tm (λi hi=>up0 hi) (YaG.T (by first|assumption|omega) (by first|assumption|omega) (by first|assumption|omega)) (λy2 y3 y4 y5 hy1=>?_)
 try simp only[] at hy1
 obtain⟨rfl,rfl,rfl,rfl,_⟩:=hy1
 try simp only[ZK]
 refine YO.tm (λi hi=>hi) (YO.T (by first|assumption|omega) (by first|assumption|omega) (by first|assumption|omega)) (λy7 y8 y9 y10 y11 hy6=>?_)
 try simp only[] at hy6
 obtain⟨rfl,rfl,rfl,rfl,rfl,_⟩:=hy6
 try simp only[ZK]
 refine YU.tm (λi hi=>hi) (YU.T (by first|assumption|omega)) (λy13 hy12=>?_)
 try simp only[] at hy12
 obtain⟨rfl,_⟩:=hy12
 try simp only[ZK]
 exact Tm.ret (by exact⟨by first|rfl|assumption,by first|rfl|assumption,by first|rfl|assumption,by first|rfl|assumption,by first|rfl|assumption,by first|rfl|assumption,by first|rfl|assumption,by first|rfl|assumption,by first|rfl|assumption,by first|rfl|assumption,by first|rfl|assumption,by first|rfl|assumption,by first|rfl|assumption,trivial⟩)
theorem Y4.f_of {β:Type} {k a0 a1 a2 z0} (h:Y4.t k a0 a1 a2=some z0) (K:Bool->Option β):Y4.f k a0 a1 a2 K=K z0:=by unfold Y4.f;rw[h];rfl
theorem Y4.tm {ι α:Type} {ok:ι->Prop} {ψ:α->Prop} {p:ι->Nat} {B:Nat} (hp:∀ i,ok i->B<=p i) {a0 a1 a2 φ} (h:Tm (λk=>B<=k) (λk=>Y4.t k a0 a1 a2) φ) {G:ι->Bool->Option α} (hG:∀ z0,φ z0->Tm ok (λi=>G i z0) ψ):Tm ok (λi=>Y4.f (p i) a0 a1 a2 (G i)) ψ:=bd1_tm (t:=λk=>Y4.t k a0 a1 a2) hp h hG
theorem Y4.T {a0 a1 a2:Int}:Tm Fuel (λk=>Y4.t k a0 a1 a2) (λr=>r=true->a1<=a0/\a0<=a2):=by
 unfold Y4.t Y4.g
 have hm:=maxLen_eq
 have hlim:lim=1048576:=rfl
 refine Tm.ite (λh1=>?_) (λh1=>?_)
 ·try simp only[bz0,bz1,bz2,bz3,bz4,bz5,bz6,bz7,bz8,bz9,bza] at h1
  exact Tm.ret (by first|(intro h;simp at h;omega)|(intro h;cases h))
 ·try simp only[bz0,bz1,bz2,bz3,bz4,bz5,bz6,bz7,bz8,bz9,bza] at h1
  exact Tm.ret (by first|(intro h;simp at h;omega)|(intro h;cases h))
theorem l1In_f {β:Type} {k:Nat} {a b c:Int} (K:Bool->Option β):Y4.f k a b c K=K (decide (b<=a)&&decide (a<=c)):=by
 refine Y4.f_of ?_ K
 unfold Y4.t Y4.g
 by_cases h:b<=a<;>simp[h]
def inB (a b c:Int):Bool:=decide (b<=a)&&decide (a<=c)
theorem l1In_fv {β:Type} {k:Nat} {a b c:Int} (K:Bool->Option β):Y4.f k a b c K=K (inB a b c):=l1In_f K
theorem Yae.f_of {β:Type} {k a0 z0} (h:Yae.t k a0=some z0) (K:Bool->Option β):Yae.f k a0 K=K z0:=by unfold Yae.f;rw[h];rfl
def textB (s:BA):Bool:=(List.range s.size).all λi=>inB (bS s (i:Int)) 32 126
theorem l4Text_fv {s:BA} (g:s.size<=lim) {k:Nat} (hk:Fuel k) {β:Type} (K:Bool->Option β):Yae.f k s K=K (textB s&&decide ((s.size:Int)<=100)):=Yae.f_of (by
 have hlim:lim=1048576:=rfl
 have hb:big=2^64:=rfl
 unfold Yae.t Yae.g textB
 rw[iter_all0 (n:=s.size) (λi=>inB (bS s (i:Int)) 32 126) (r1:=some false) (r2:=some (decide ((s.size:Int)<=100))) (by unfold Fuel at hk;omega)]
 ·generalize List.all _ _=x
  cases x<;>rfl
 ·intro L i hi
  simp(disch:=omega) only[Yae.l0,ZY (show(i:Int)<s.size by omega),cond_true,atStr_at,wrap_b,l1In_fv,Z9]
  generalize inB _ _ _=x
  cases x<;>rfl
 ·intro L
  simp[Yae.l0]) K
theorem Yp.f_of {β:Type} {k a0 z0} (h:Yp.t k a0=some z0) (K:Bool->Option β):Yp.f k a0 K=K z0:=by unfold Yp.f;rw[h];rfl
theorem Yp.T {a0:BA} (ga0:a0.size<=lim):Tm Fuel (λk=>Yp.t k a0) (λ_=>True):=by
 unfold Yp.t Yp.g
 have hm:=maxLen_eq
 have hlim:lim=1048576:=rfl
 refine Tm.loop (okk:=Fuel) (p:=λk=>k) (λi hi=>hi) (b:=λk=>Yp.l0 k a0 (λz0=>some z0)) (λi=>(((a0.size:Int))-i).toNat) (λi=>0<=i/\i<=(a0.size:Int)) ?_ ?_ ?_
 ·rintro i hI
  try simp only[] at hI⊢
  have:big=2^64:=rfl
  omega
 ·((try simp only[]);omega)
 ·rintro i hI L hL
  try simp only[] at hI
  obtain⟨i0,i1⟩:=hI
  simp only[Yp.l0]
  refine Tm.ite (λh1=>?_) (λh1=>?_)
  ·try simp only[bz0,bz1,bz2,bz3,bz4,bz5,bz6,bz7,bz8,bz9,bza] at h1
   refine Tm.atStr (by first|assumption|omega) (by first|assumption|omega) (λb2 hb3=>?_)
   try rw[Z9 (x:=(b2.toNat:Int)) (by omega) (by omega)]
   refine Y4.tm (λi hi=>hi.1) (Y4.T) (λy5 hy4=>?_)
   refine Tm.ite (λh6=>?_) (λh6=>?_)
   ·try simp only[bz0,bz1,bz2,bz3,bz4,bz5,bz6,bz7,bz8,bz9,bza] at h6
    refine Tm.atStr (by first|assumption|omega) (by first|assumption|omega) (λb7 hb8=>?_)
    try rw[Z9 (x:=(b7.toNat:Int)) (by omega) (by omega)]
    refine Y4.tm (λi hi=>hi.1) (Y4.T) (λy10 hy9=>?_)
    refine Tm.ite (λh11=>?_) (λh11=>?_)
    ·try simp only[bz0,bz1,bz2,bz3,bz4,bz5,bz6,bz7,bz8,bz9,bza] at h11
     refine Tm.atStr (by first|assumption|omega) (by first|assumption|omega) (λb12 hb13=>?_)
     refine Tm.ite (λh14=>?_) (λh14=>?_)
     ·try simp only[bz0,bz1,bz2,bz3,bz4,bz5,bz6,bz7,bz8,bz9,bza] at h14
      exact Tm.ret (by trivial)
     ·try simp only[bz0,bz1,bz2,bz3,bz4,bz5,bz6,bz7,bz8,bz9,bza] at h14
      try rw[Z9 (x:=i+1) (by omega) (by omega)]
      exact hL _ (by(try simp only[]);omega) (by(try simp only[]);omega)
    ·try simp only[bz0,bz1,bz2,bz3,bz4,bz5,bz6,bz7,bz8,bz9,bza] at h11
     have z15:=hy9 h11
     try rw[Z9 (x:=i+1) (by omega) (by omega)]
     exact hL _ (by(try simp only[]);omega) (by(try simp only[]);omega)
   ·try simp only[bz0,bz1,bz2,bz3,bz4,bz5,bz6,bz7,bz8,bz9,bza] at h6
    have z16:=hy4 h6
    try rw[Z9 (x:=i+1) (by omega) (by omega)]
    exact hL _ (by(try simp only[]);omega) (by(try simp only[]);omega)
  ·try simp only[bz0,bz1,bz2,bz3,bz4,bz5,bz6,bz7,bz8,bz9,bza] at h1
   refine Y4.tm (λi hi=>hi.1) (Y4.T) (λy18 hy17=>?_)
   refine Tm.ite (λh19=>?_) (λh19=>?_)
   ·try simp only[bz0,bz1,bz2,bz3,bz4,bz5,bz6,bz7,bz8,bz9,bza] at h19
    have z20:=hy17 h19
    refine Tm.atStr (by first|assumption|omega) (by first|assumption|omega) (λb21 hb22=>?_)
    refine Tm.ite (λh23=>?_) (λh23=>?_)
    ·try simp only[bz0,bz1,bz2,bz3,bz4,bz5,bz6,bz7,bz8,bz9,bza] at h23
     try rw[Z9 (x:=(a0.size:Int)-1) (by omega) (by omega)]
     refine Tm.atStr (by first|assumption|omega) (by first|assumption|omega) (λb24 hb25=>?_)
     exact Tm.ret (by trivial)
    ·try simp only[bz0,bz1,bz2,bz3,bz4,bz5,bz6,bz7,bz8,bz9,bza] at h23
     exact Tm.ret (by trivial)
   ·try simp only[bz0,bz1,bz2,bz3,bz4,bz5,bz6,bz7,bz8,bz9,bza] at h19
    exact Tm.ret (by trivial)
noncomputable def Yp.v (a0:BA):Bool:=(Yp.t big a0).getD default
theorem Yp.tv {a0:BA} (ga0:a0.size<=lim) {k:Nat} (hk:Fuel k):Yp.t k a0=some (Yp.v a0):=(Yp.T ga0).val hk
theorem Yp.fv {a0:BA} (ga0:a0.size<=lim) {k:Nat} (hk:Fuel k) {β:Type} (K:Bool->Option β):Yp.f k a0 K=K (Yp.v a0):=Yp.f_of (Yp.tv ga0 hk) K
noncomputable def Ybn (xs:LD):Bool:=(List.range xs.length).all λi=>Yp.v (gS xs (i:Int) 0)&&(!decide ((i:Int)>0)||strLt (gS xs ((i:Int)-1) 0) (gS xs (i:Int) 0))
theorem Ya6 {a b:BA}:strLt a b=true↔Op.bytesLess a.toList b.toList=true:=by
 unfold strLt
 simp
theorem names_iff {xs:LD}:Ybn xs=true↔(∀ r∈xs,Yp.v (rS r 0)=true)/\xs.Pairwise λx y=>strLt (rS x 0) (rS y 0)=true:=by
 have hg:∀ (i:Nat) (hi:i<xs.length),gS xs (i:Int) 0=rS xs[i] 0:=λi hi=>by
  rw[<- gR_lt hi]
  rfl
 unfold Ybn
 rw[List.all_eq_true]
 constructor
 ·intro h
  have h:∀ (i:Nat) (_:i<xs.length),Yp.v (gS xs (i:Int) 0)=true/\(!decide ((i:Int)>0)||strLt (gS xs ((i:Int)-1) 0) (gS xs (i:Int) 0))=true:=λi hi=>by
   have:=h i (List.mem_range.mpr hi)
   rw[Bool.and_eq_true] at this
   exact this
  refine⟨λr hr=>?_,List.pairwise_iff_getElem.mpr ?_⟩
  ·obtain⟨i,hi,rfl⟩:=List.mem_iff_getElem.mp hr
   rw[<- hg i hi]
   exact(h i hi).1
  ·have step:∀ (i:Nat) (hi:i+1<xs.length),strLt (rS xs[i] 0) (rS xs[i+1] 0)=true:=λi hi=>by
    have hq:=(h (i+1) hi).2
    rw[ZY (show((i+1:Nat):Int)>0 by omega),Bool.not_true,Bool.false_or,show((i+1:Nat):Int)-1=(i:Int) by omega,hg i (by omega),hg (i+1) hi] at hq
    exact hq
   intro i j hi hj hij
   obtain⟨d,rfl⟩:∃ d,j=i+1+d:=⟨j-(i+1),by omega⟩
   induction d with
   |zero=>exact step i hj
   |succ d ih=>exact Ya6.mpr (bl_trans (Ya6.mp (ih (by omega) (by omega))) (Ya6.mp (step (i+1+d) (by omega))))
 ·rintro⟨h1,h2⟩ i hi
  have hi:=List.mem_range.mp hi
  rw[Bool.and_eq_true]
  refine⟨by rw[hg i hi];exact h1 _ (List.getElem_mem _),?_⟩
  by_cases h0:(i:Int)>0
  ·have:=List.pairwise_iff_getElem.mp h2 (i-1) i (by omega) hi (by omega)
   rw[show(i:Int)-1=((i-1:Nat):Int) by omega,hg i hi,hg (i-1) (by omega),this]
   simp
  ·rw[ZZ h0]
   rfl
theorem Yab.f_of {β:Type} {k aB aA aC aD aE z0} (h:Yab.t k aB aA aC aD aE=some z0) (K:Bool->Option β):Yab.f k aB aA aC aD aE K=K z0:=by unfold Yab.f;rw[h];rfl
theorem YF.f_of {β:Type} {k aB aA aC aD aE a1 z0} (h:YF.t k aB aA aC aD aE a1=some z0) (K:Int->Option β):YF.f k aB aA aC aD aE a1 K=K z0:=by unfold YF.f YF.w;rw[h];rfl
set_option maxRecDepth 100000 in
theorem l4Keys_fv {c0:Int} {c1:BA} {c2:Int} {c3 c4:LD} (g:ZB RS lim c3) {k:Nat} (hk:Fuel k) {β:Type} (K:Bool->Option β):Yab.f k c0 c1 c2 c3 c4 K=K (Ybn c3&&(c3.length:Int)==(c4.length:Int)):=Yab.f_of (by
 have hl:=g.1
 have hlim:lim=1048576:=rfl
 have hb:big=2^64:=rfl
 unfold Yab.t Yab.g
 rw[iter_all0 (n:=c3.length) (λi=>Yp.v (gS c3 (i:Int) 0)&&(!decide ((i:Int)>0)||strLt (gS c3 ((i:Int)-1) 0) (gS c3 (i:Int) 0))) (r1:=some false) (r2:=some ((c3.length:Int)==(c4.length:Int))) (by unfold Fuel at hk;omega)]
 ·unfold Ybn
  generalize List.all _ _=x
  cases x<;>rfl
 ·intro L i hi
  have k0:=(RS.get g (v:=(i:Int)) (by omega) (by omega)).2.1
  simp(disch:=omega) only[Yab.l0,atR,rdQ,Q.ask,ZY (show(i:Int)<c3.length by omega),cond_true,RS.row g,Z4,ZaQ,Zan,Yp.fv k0 hk,Z9]
  by_cases h0:(i:Int)>0
  ·simp(disch:=omega) only[ZY h0,cond_true,RS.row g,Z4,ZaQ,Zan]
   cases Yp.v (gS c3 (i:Int) 0)<;>cases strLt (gS c3 ((i:Int)-1) 0) (gS c3 (i:Int) 0)<;>rfl
  ·simp only[ZZ h0,cond_false]
   cases Yp.v (gS c3 (i:Int) 0)<;>rfl
 ·intro L
  simp[Yab.l0,atR,rdQ,Q.ask]) K
def Ybr:BA:=(⟨#[]⟩:BA)
noncomputable def Ya8 (kind:Int) (text:BA) (num:Int) (keys kids:LD):Bool:=
 bif kind==1 then(keys.length:Int)==0&&((kids.length:Int)==0&&(num==0&&(textB text&&decide ((text.size:Int)<=100))))
 else bif kind==2 then(keys.length:Int)==0&&((kids.length:Int)==0&&Zae text Ybr)
 else bif kind==3 then(keys.length:Int)==0&&((kids.length:Int)==0&&(Zae text Ybr&&inB num 0 1))
 else bif kind==4 then(keys.length:Int)==0&&(Zae text Ybr&&num==0)
 else bif kind==5 then(Ybn keys&&(keys.length:Int)==(kids.length:Int))&&(Zae text Ybr&&num==0)
 else false
def sumL (f:List D->Int):LD->Int->Int
 |[],n=>n
 |r::rs,n=>if f r=0\/n+f r>300 then 0 else sumL f rs (n+f r)
noncomputable def Ya2:Nat->List D->Int
 |0,_=>0
 |d+1,r=>bif sumL (Ya2 d) (rL r 4) 1==0 then 0 else bif Ya8 (rI r 0) (rS r 1) (rI r 2) (rL r 3) (rL r 4) then sumL (Ya2 d) (rL r 4) 1 else 0
theorem sumL_range {f:List D->Int} (hf:∀ r,0<=f r):∀ {rs:LD} {n:Int},1<=n->n<=300->0<=sumL f rs n/\sumL f rs n<=300/\(sumL f rs n≠0->n+rs.length<=300)
 |[],n,h,h'=>by simp only[sumL,List.length_nil];omega
 |r::rs,n,h,h'=>by
  have:=hf r
  simp only[sumL]
  split
  ·omega
  ·have:=sumL_range hf (rs:=rs) (n:=n+f r) (by omega) (by omega)
   simp only[List.length_cons]
   omega
theorem Ya9:∀ (d:Nat) (r:List D),0<=Ya2 d r/\Ya2 d r<=300
 |0,r=>by simp[Ya2]
 |d+1,r=>by
  have:=sumL_range (f:=Ya2 d) (λr=>(Ya9 d r).1) (rs:=rL r 4) (n:=1) (by omega) (by omega)
  simp only[Ya2]
  generalize sumL (Ya2 d) (rL r 4) 1=n at *
  cases n==0<;>cases Ya8 (rI r 0) (rS r 1) (rI r 2) (rL r 3) (rL r 4)<;>simp<;>omega
set_option maxRecDepth 100000 in
theorem look_t (d:Nat):∀ {c0:Int} {c1:BA} {c2:Int} {c3 c4:LD},c1.size<=lim->ZB RS lim c3->ZB Yr lim c4->d<=6->∀ {k:Nat},big+d+1<=k->YF.t k c0 c1 c2 c3 c4 (d:Int)=some (Ya2 d [.int .i64 c0,.str c1,.int .i64 c2,.sl c3,.sl c4]):=by
 have hlim:lim=1048576:=rfl
 have hb:big=2^64:=rfl
 induction d with
 |zero=>
  intro c0 c1 c2 c3 c4 g1 g3 g4 hd k hk
  cases k with
  |zero=>omega
  |succ k=>rfl
 |succ d ih=>
  intro c0 c1 c2 c3 c4 g1 g3 g4 hd k hk
  cases k with
  |zero=>omega
  |succ k=>
  have hl:=g4.1
  have hk0:Fuel k:=by unfold Fuel;omega
  rw[YF.t_succ]
  unfold YF.g YF.body
  rw[show(((d+1:Nat):Int)==0)=false by rw[beq_eq_false_iff_ne];omega,cond_false]
  have key:=iter_val (b:=YF.l0 k (YF.f k) ((d+1:Nat):Int) c0 c1 c2 c3 c4 λz0=>some z0) (λv=>((c4.length:Int)-v.2).toNat) (λv=>0<=v.2/\v.2<=c4.length/\1<=v.1/\v.1<=300)
   (λv=>bif sumL (Ya2 d) (c4.drop v.2.toNat) v.1==0 then some 0 else bif Ya8 c0 c1 c2 c3 c4 then some (sumL (Ya2 d) (c4.drop v.2.toNat) v.1) else some 0) ?_ k (1,0) (by simp only[];omega) (by simp only[];omega)
  ·rw[key]
   simp only[Ya2]
   show(bif sumL (Ya2 d) (List.drop 0 c4) 1==0 then some 0 else bif Ya8 c0 c1 c2 c3 c4 then some (sumL (Ya2 d) (List.drop 0 c4) 1) else some 0)=some (bif sumL (Ya2 d) c4 1==0 then 0 else bif Ya8 c0 c1 c2 c3 c4 then sumL (Ya2 d) c4 1 else 0)
   rw[List.drop_zero]
   cases sumL (Ya2 d) c4 1==0<;>cases Ya8 c0 c1 c2 c3 c4<;>rfl
  ·rintro⟨n,i⟩ ⟨i0,i1,n0,n1⟩ L hL
   simp only[] at i0 i1 n0 n1 hL⊢
   by_cases hi:i<c4.length
   ·have hg:=Yr.get g4 i0 hi
    have hr:=Ya9 d (gR c4 i)
    have ih':=ih (c0:=gI c4 i 0) (c2:=gI c4 i 2) hg.2.2.1 hg.2.2.2.2.1 hg.2.2.2.2.2.1 (by omega) (k:=k) (by omega)
    rw[<- hg.1] at ih'
    simp(disch:=omega) only[YF.l0,atR,rdQ,Q.ask,ZY hi,cond_true,Yr.row g4,Z4,ZaQ,Z5,Zbl,Zan,Z9,show((d+1:Nat):Int)-1=(d:Int) by omega]
    rw[YF.f_of ih',drop_gR i0 hi]
    simp only[sumL]
    by_cases hz:Ya2 d (gR c4 i)=0
    ·rw[hz]
     simp
    ·rw[show(Ya2 d (gR c4 i)==0)=false by rw[beq_eq_false_iff_ne];exact hz,cond_false,Z9 (by omega) (by omega)]
     by_cases hn:n+Ya2 d (gR c4 i)>300
     ·rw[ZY hn,if_pos (.inr hn)]
      rfl
     ·rw[ZZ hn,if_neg (by omega),cond_false,hL _ ⟨by simp only[];omega,by simp only[];omega,by simp only[];omega,by simp only[];omega⟩ (by simp only[];omega)]
   ·rw[drop_end (by omega)]
    simp only[YF.l0,atR,rdQ,Q.ask,ZZ hi,cond_false,sumL,l4Keys_fv g3 hk0,l1In_fv,l4Text_fv g1 hk0]
    rw[show(n==0)=false by rw[beq_eq_false_iff_ne];omega,cond_false]
    unfold Ya8
    generalize(textB c1&&decide ((c1.size:Int)<=100))=b1
    generalize hb2:Zae c1 (⟨#[]⟩:BA)=b2
    have hb3:Zae c1 Ybr=b2:=hb2
    rw[hb3]
    generalize Ybn c3=b3
    generalize inB c2 0 1=b4
    generalize(c2==0)=b5
    generalize((c4.length:Int)==0)=b6
    generalize((c3.length:Int)==(c4.length:Int))=b7
    generalize((c3.length:Int)==0)=b8
    rcases ZaM c0 with rfl|rfl|rfl|rfl|rfl|⟨e1,e2,e3,e4,e5⟩
    ·cases b1<;>cases b5<;>cases b6<;>cases b8<;>rfl
    ·cases b2<;>cases b6<;>cases b8<;>rfl
    ·cases b2<;>cases b4<;>cases b6<;>cases b8<;>rfl
    ·cases b2<;>cases b5<;>cases b8<;>rfl
    ·cases b2<;>cases b3<;>cases b5<;>cases b7<;>cases b8<;>rfl
    ·cases b8<;>simp only[e1,e2,e3,e4,e5,cond_false,cond_true]
theorem look_fv {d c0:Int} {c1:BA} {c2:Int} {c3 c4:LD} (hd0:0<=d) (hd:d<=6) (g1:c1.size<=lim) (g3:ZB RS lim c3) (g4:ZB Yr lim c4) {k:Nat} (hk:Zai 1 k) {β:Type} (K:Int->Option β):YF.f k c0 c1 c2 c3 c4 d K=K (Ya2 d.toNat [.int .i64 c0,.str c1,.int .i64 c2,.sl c3,.sl c4]):=by
 have hb:big=2^64:=rfl
 have h1:lv 1=2^65:=rfl
 obtain⟨n,rfl⟩:∃ n:Nat,d=n:=⟨d.toNat,by omega⟩
 exact YF.f_of (look_t n g1 g3 g4 (by omega) (by unfold Zai at hk;omega)) K
theorem Yan.f_of {β:Type} {k aB aA aC aD aE z0} (h:Yan.t k aB aA aC aD aE=some z0) (K:Bool->Option β):Yan.f k aB aA aC aD aE K=K z0:=by unfold Yan.f;rw[h];rfl
theorem YC.f_of {β:Type} {k aB aA aC aD aE z0 z1 z2 z3 z4} (h:YC.t k aB aA aC aD aE=some (z0,z1,z2,z3,z4)) (K:Int->BA->Int->LC->LC->Option β):YC.f k aB aA aC aD aE K=K z0 z1 z2 z3 z4:=by unfold YC.f YC.w;rw[h];rfl
theorem YB.f_of {β:Type} {k a0 z0} (h:YB.t k a0=some z0) (K:Int->Option β):YB.f k a0 K=K z0:=by unfold YB.f;rw[h];rfl
theorem Yad.f_of {β:Type} {k a0 z0} (h:Yad.t k a0=some z0) (K:Bool->Option β):Yad.f k a0 K=K z0:=by unfold Yad.f;rw[h];rfl
theorem YaQ.f_of {β:Type} {k aB aA aC aD aE z0} (h:YaQ.t k aB aA aC aD aE=some z0) (K:Bool->Option β):YaQ.f k aB aA aC aD aE K=K z0:=by unfold YaQ.f;rw[h];rfl
theorem Y5.f_of {β:Type} {k a0 z0} (h:Y5.t k a0=some z0) (K:Bool->Option β):Y5.f k a0 K=K z0:=by unfold Y5.f;rw[h];rfl
theorem Yac.f_of {β:Type} {k aB aA aC aD aE a1 z0} (h:Yac.t k aB aA aC aD aE a1=some z0) (K:Int->Option β):Yac.f k aB aA aC aD aE a1 K=K z0:=by unfold Yac.f;rw[h];rfl
theorem Y3.f_of {β:Type} {k:Nat} {aB:Int} {aA:BA} {aC:Int} {aD aE a1:LD} {z0:Int} {z1:BA} {z2:Int} {z3 z4:LD} {z5:Bool} (h:Y3.t k aB aA aC aD aE a1=some (z0,z1,z2,z3,z4,z5)) (K:Int->BA->Int->LD->LD->Bool->Option β):Y3.f k aB aA aC aD aE a1 K=K z0 z1 z2 z3 z4 z5:=by
 unfold Y3.f
 rw[h]
theorem Ye.f_of {β:Type} {k aB aA aC aD aE aO aN aR aU aV z0} (h:Ye.t k aB aA aC aD aE aO aN aR aU aV=some z0) (K:Bool->Option β):Ye.f k aB aA aC aD aE aO aN aR aU aV K=K z0:=by unfold Ye.f Ye.w;rw[h];rfl
theorem Yah.f_of {β:Type} {k:Nat} {aB:Int} {aA:BA} {aC:Int} {aD aE:LD} {a1:BA} {bH:Int} {bL:BA} {bI:Int} {bJ bK:LD} {z0:Int} {z1:BA} {z2:Int} {z3 z4:LD} {z5:Bool} (h:Yah.t k aB aA aC aD aE a1 bH bL bI bJ bK=some (z0,z1,z2,z3,z4,z5)) (K:Int->BA->Int->LD->LD->Bool->Option β):Yah.f k aB aA aC aD aE a1 bH bL bI bJ bK K=K z0 z1 z2 z3 z4 z5:=by
 unfold Yah.f
 rw[h]
theorem YaX.f_of {β:Type} {k:Nat} {aB:Int} {aA:BA} {aC:Int} {aD aE:LD} {a1:BA} {z0:Int} {z1:BA} {z2:Int} {z3 z4:LD} {z5:Bool} (h:YaX.t k aB aA aC aD aE a1=some (z0,z1,z2,z3,z4,z5)) (K:Int->BA->Int->LD->LD->Bool->Option β):YaX.f k aB aA aC aD aE a1 K=K z0 z1 z2 z3 z4 z5:=by
 unfold YaX.f
 rw[h]
theorem Yap.f_of {β:Type} {k:Nat} {aB:Int} {aA:BA} {aC:Int} {aD aE:LD} {aO:Int} {aN:LD} {aR:Int} {aU:BA} {aV:Int} {bF bG:LD} {a2 z0:Int} {z1:BA} {z2:Int} {z3 z4:LD} {z5:Bool} (h:Yap.t k aB aA aC aD aE aO aN aR aU aV bF bG a2=some (z0,z1,z2,z3,z4,z5)) (K:Int->BA->Int->LD->LD->Bool->Option β):Yap.f k aB aA aC aD aE aO aN aR aU aV bF bG a2 K=K z0 z1 z2 z3 z4 z5:=by
 unfold Yap.f
 unfold Yap.w
 rw[h]
theorem Yai.f_of {β:Type} {k:Nat} {aB:Int} {aA:BA} {aC:Int} {aD aE a1:LD} {z0:Int} {z1:BA} {z2:Int} {z3 z4:LC} {z5:Int} (h:Yai.t k aB aA aC aD aE a1=some (z0,z1,z2,z3,z4,z5)) (K:Int->BA->Int->LC->LC->Int->Option β):Yai.f k aB aA aC aD aE a1 K=K z0 z1 z2 z3 z4 z5:=by
 unfold Yai.f
 rw[h]
theorem YW.f_of {β:Type} {k:Nat} {aB:Int} {aA:BA} {aC:Int} {aD aE aK:LD} {aL:Int} {aZ:BA} {bA:Int} {aX aW aY:LD} {bC:Bool} {a1:BA} {z0:Int} {z1:BA} {z2:Int} {z3 z4:LC} {z5:Bool} (h:YW.t k aB aA aC aD aE aK aL aZ bA aX aW aY bC a1=some (z0,z1,z2,z3,z4,z5)) (K:Int->BA->Int->LC->LC->Bool->Option β):YW.f k aB aA aC aD aE aK aL aZ bA aX aW aY bC a1 K=K z0 z1 z2 z3 z4 z5:=by
 unfold YW.f
 rw[h]
theorem YW.tm {ι α:Type} {ok:ι->Prop} {ψ:α->Prop} {p:ι->Nat} {B:Nat} (hp:∀ i,ok i->B<=p i) {aB:Int} {aA:BA} {aC:Int} {aD aE aK:LD} {aL:Int} {aZ:BA} {bA:Int} {aX aW aY:LD} {bC:Bool} {a1:BA} {φ:Int×BA×Int×LC×LC×Bool->Prop} (h:Tm (λk=>B<=k) (λk=>YW.t k aB aA aC aD aE aK aL aZ bA aX aW aY bC a1) φ) {G:ι->Int->BA->Int->LC->LC->Bool->Option α} (hG:∀ z0 z1 z2 z3 z4 z5,φ (z0,z1,z2,z3,z4,z5)->Tm ok (λι0=>G ι0 z0 z1 z2 z3 z4 z5) ψ):Tm ok (λι0=>YW.f (p ι0) aB aA aC aD aE aK aL aZ bA aX aW aY bC a1 (G ι0)) ψ:=by
 obtain⟨⟨z0,z1,z2,z3,z4,z5⟩,h1,h2⟩:=h
 exact(hG z0 z1 z2 z3 z4 z5 h1).congr λi0 hi0=>YW.f_of (h2 (p i0) (hp i0 hi0)) _
theorem Yaw.f_of {β:Type} {k a0 a1 a2 z0} (h:Yaw.t k a0 a1 a2=some z0) (K:Bool->Option β):Yaw.f k a0 a1 a2 K=K z0:=by unfold Yaw.f;rw[h];rfl
theorem within_f {β:Type} {k:Nat} {a b c:Int} (K:Bool->Option β):Yaw.f k a b c K=K (decide (b<=a)&&decide (a<=c)):=by
 refine Yaw.f_of ?_ K
 unfold Yaw.t Yaw.g
 by_cases h:b<=a<;>simp[h]
theorem Y7.same {k:Nat} {a:BA}:Y7.t k a=Yp.t k a:=by
 unfold Y7.t Yp.t Y7.g Yp.g
 congr 1
 funext L v
 simp only[Y7.l0,Yp.l0,l1In_f,within_f]
 refine bif_congr (λ_=>?_) (λ_=>rfl)
 unfold atStr
 split
 ·split
  ·rename_i b _
   have hb:b.toNat<256:=b.toNat_lt
   simp only[]
   rw[Z9 (x:=(b.toNat:Int)) (by omega) (by omega)]
   generalize(b.toNat:Int)=x
   by_cases h1:x<97<;>by_cases h2:x<48<;>by_cases h3:x>57<;>by_cases h4:x>122<;>simp[h1,h2,h3,h4]<;>(try omega)<;>grind
  ·rfl
 ·rfl
theorem YbA {β:Type} {k:Nat} {a:BA} (K:Bool->Option β):Y7.f k a K=Yp.f k a K:=by
 unfold Y7.f Yp.f
 rw[Y7.same]
theorem within_fv {β:Type} {k:Nat} {a b c:Int} (K:Bool->Option β):Yaw.f k a b c K=K (inB a b c):=within_f K
theorem Y6.f_of {β:Type} {k a0 a1 z0} (h:Y6.t k a0 a1=some z0) (K:Bool->Option β):Y6.f k a0 a1 K=K z0:=by unfold Y6.f;rw[h];rfl
set_option maxRecDepth 100000 in
theorem namesOk_fv {a:LD} {n:Int} (g:ZB RS lim a) {k:Nat} (hk:Fuel k) {β:Type} (K:Bool->Option β):Y6.f k a n K=K (Ybn a&&decide ((a.length:Int)<=n)):=Y6.f_of (by
 have hl:=g.1
 have hlim:lim=1048576:=rfl
 have hb:big=2^64:=rfl
 unfold Y6.t Y6.g
 rw[iter_all0 (n:=a.length) (λi=>Yp.v (gS a (i:Int) 0)&&(!decide ((i:Int)>0)||strLt (gS a ((i:Int)-1) 0) (gS a (i:Int) 0))) (r1:=some false) (r2:=some (decide ((a.length:Int)<=n))) (by unfold Fuel at hk;omega)]
 ·unfold Ybn
  generalize List.all _ _=x
  cases x<;>rfl
 ·intro L i hi
  have k0:=(RS.get g (v:=(i:Int)) (by omega) (by omega)).2.1
  simp(disch:=omega) only[Y6.l0,atR,rdQ,Q.ask,ZY (show(i:Int)<a.length by omega),cond_true,RS.row g,Z4,ZaQ,Zan,YbA,Yp.fv k0 hk,Z9]
  by_cases h0:(i:Int)>0
  ·simp(disch:=omega) only[ZY h0,cond_true,RS.row g,Z4,ZaQ,Zan]
   cases Yp.v (gS a (i:Int) 0)<;>cases strLt (gS a ((i:Int)-1) 0) (gS a (i:Int) 0)<;>rfl
  ·simp only[ZZ h0,cond_false]
   cases Yp.v (gS a (i:Int) 0)<;>rfl
 ·intro L
  simp[Y6.l0,atR,rdQ,Q.ask]) K
theorem YV.f_of {β:Type} {k aB aA aC aD aE z0} (h:YV.t k aB aA aC aD aE=some z0) (K:Bool->Option β):YV.f k aB aA aC aD aE K=K z0:=by unfold YV.f;rw[h];rfl
theorem Yq.f_of {β:Type} {k aB aA aC aD aE a1 z0} (h:Yq.t k aB aA aC aD aE a1=some z0) (K:Int->Option β):Yq.f k aB aA aC aD aE a1 K=K z0:=by unfold Yq.f Yq.w;rw[h];rfl
theorem Yaf.f_of {β:Type} {k aB aA aC aD aE z0} (h:Yaf.t k aB aA aC aD aE=some z0) (K:Bool->Option β):Yaf.f k aB aA aC aD aE K=K z0:=by unfold Yaf.f;rw[h];rfl
theorem shapeOk_fv {c0:Int} {c1:BA} {c2:Int} {c3 c4:LD} (g1:c1.size<=lim) (g3:ZB RS lim c3) {k:Nat} (hk:Fuel k) {β:Type} (K:Bool->Option β):YV.f k c0 c1 c2 c3 c4 K=K (Ya8 c0 c1 c2 c3 c4&&(!(c0==5)||decide ((c3.length:Int)<=300))):=YV.f_of (by
 have hlim:lim=1048576:=rfl
 have hb:big=2^64:=rfl
 unfold YV.t YV.g YV.m
 have text:ZA (YV.l0 k ((c2:Int)==0) (((c3.length:Int):Int)==0) (((c4.length:Int):Int)==0) (c1.size:Int) c0 c1 c2 c3 c4 λz0=>some z0) k 0=some (textB c1&&(decide ((c1.size:Int)<=100)&&(c2==0&&((c3.length:Int)==0&&(c4.length:Int)==0)))):=by
  rw[iter_all0 (n:=c1.size) (λi=>inB (bS c1 (i:Int)) 32 126) (r1:=some false) (r2:=some (decide ((c1.size:Int)<=100)&&(c2==0&&((c3.length:Int)==0&&(c4.length:Int)==0)))) (by unfold Fuel at hk;omega)]
  ·unfold textB
   generalize List.all _ _=x
   cases x<;>rfl
  ·intro L i hi
   simp(disch:=omega) only[YV.l0,ZY (show(i:Int)<c1.size by omega),cond_true,atStr_at,wrap_b,within_fv,Z9]
   generalize inB _ _ _=x
   cases x<;>rfl
  ·intro L
   simp only[YV.l0,ZZ (show ¬ (c1.size:Int)<c1.size by omega),cond_false]
   cases decide ((c1.size:Int)<=100)<;>cases c2==0<;>cases((c3.length:Int)==0)<;>rfl
 simp only[text,within_fv,namesOk_fv g3 hk]
 unfold Ya8
 generalize textB c1=b1
 generalize decide ((c1.size:Int)<=100)=b0
 generalize hb2:Zae c1 (⟨#[]⟩:BA)=b2
 have hb3:Zae c1 Ybr=b2:=hb2
 rw[hb3]
 generalize Ybn c3=b3
 generalize inB c2 0 1=b4
 generalize(c2==0)=b5
 generalize((c4.length:Int)==0)=b6
 generalize((c3.length:Int)==(c4.length:Int))=b7
 generalize((c3.length:Int)==0)=b8
 generalize decide ((c3.length:Int)<=300)=b9
 rcases ZaM c0 with rfl|rfl|rfl|rfl|rfl|⟨e1,e2,e3,e4,e5⟩
 ·cases b0<;>cases b1<;>cases b5<;>cases b6<;>cases b8<;>rfl
 ·cases b2<;>cases b6<;>cases b8<;>rfl
 ·cases b2<;>cases b4<;>cases b6<;>cases b8<;>rfl
 ·cases b2<;>cases b5<;>cases b8<;>rfl
 ·cases b2<;>cases b3<;>cases b5<;>cases b7<;>cases b9<;>rfl
 ·simp only[e1,e2,e3,e4,e5,cond_false,Bool.false_and]) K
set_option maxRecDepth 100000 in
theorem measured_t (d:Nat):∀ {c0:Int} {c1:BA} {c2:Int} {c3 c4:LD},c1.size<=lim->ZB RS lim c3->ZB Yr lim c4->d<=6->∀ {k:Nat},big+d+1<=k->Yq.t k c0 c1 c2 c3 c4 (d:Int)=some (bif Ya2 d [.int .i64 c0,.str c1,.int .i64 c2,.sl c3,.sl c4]==0 then 301 else Ya2 d [.int .i64 c0,.str c1,.int .i64 c2,.sl c3,.sl c4]):=by
 have hlim:lim=1048576:=rfl
 have hb:big=2^64:=rfl
 induction d with
 |zero=>
  intro c0 c1 c2 c3 c4 g1 g3 g4 hd k hk
  cases k with
  |zero=>omega
  |succ k=>rfl
 |succ d ih=>
  intro c0 c1 c2 c3 c4 g1 g3 g4 hd k hk
  cases k with
  |zero=>omega
  |succ k=>
  have hl:=g4.1
  have hk0:Fuel k:=by unfold Fuel;omega
  rw[Yq.t_succ]
  unfold Yq.g Yq.body
  rw[show(((d+1:Nat):Int)==0)=false by rw[beq_eq_false_iff_ne];omega,cond_false,shapeOk_fv g1 g3 hk0]
  have key:=iter_val (b:=Yq.l0 k (Yq.f k) ((d+1:Nat):Int) c4 (c4.length:Int) λz0=>some z0) (λv=>((c4.length:Int)-v.2).toNat) (λv=>0<=v.2/\v.2<=c4.length/\1<=v.1/\v.1<=300)
   (λv=>bif sumL (Ya2 d) (c4.drop v.2.toNat) v.1==0 then some 301 else some (sumL (Ya2 d) (c4.drop v.2.toNat) v.1)) ?_ k (1,0) (by simp only[];omega) (by simp only[];omega)
  ·rw[key]
   show(bif !(Ya8 c0 c1 c2 c3 c4&&(!(c0==5)||decide ((c3.length:Int)<=300))) then some 301 else bif sumL (Ya2 d) (List.drop 0 c4) 1==0 then some 301 else some (sumL (Ya2 d) (List.drop 0 c4) 1))=some (bif Ya2 (d+1) [.int .i64 c0,.str c1,.int .i64 c2,.sl c3,.sl c4]==0 then 301 else Ya2 (d+1) [.int .i64 c0,.str c1,.int .i64 c2,.sl c3,.sl c4])
   have el:Ya2 (d+1) [.int .i64 c0,.str c1,.int .i64 c2,.sl c3,.sl c4]=bif sumL (Ya2 d) c4 1==0 then 0 else bif Ya8 c0 c1 c2 c3 c4 then sumL (Ya2 d) c4 1 else 0:=rfl
   rw[List.drop_zero,el]
   have hs:=sumL_range (f:=Ya2 d) (λr=>(Ya9 d r).1) (rs:=c4) (n:=1) (by omega) (by omega)
   by_cases hz:sumL (Ya2 d) c4 1=0
   ·rw[hz]
    cases(Ya8 c0 c1 c2 c3 c4&&(!(c0==5)||decide ((c3.length:Int)<=300)))<;>rfl
   ·have hz':(sumL (Ya2 d) c4 1==0)=false:=by rw[beq_eq_false_iff_ne];exact hz
    rw[hz',cond_false,cond_false]
    by_cases hsh:Ya8 c0 c1 c2 c3 c4=true
    ·have h5:(!(c0==5)||decide ((c3.length:Int)<=300))=true:=by
      by_cases h5:c0=5
      ·subst h5
       have:(c3.length:Int)=c4.length:=by
        unfold Ya8 at hsh
        simp at hsh
        omega
       have:=hs.2.2 hz
       simp
       omega
      ·simp[h5]
     rw[hsh,h5]
     simp only[Bool.and_self,Bool.not_true,cond_false,cond_true,hz']
    ·rw[Bool.not_eq_true] at hsh
     rw[hsh]
     rfl
  ·rintro⟨n,i⟩ ⟨i0,i1,n0,n1⟩ L hL
   simp only[] at i0 i1 n0 n1 hL⊢
   by_cases hi:i<c4.length
   ·have hg:=Yr.get g4 i0 hi
    have hr:=Ya9 d (gR c4 i)
    have ih':=ih (c0:=gI c4 i 0) (c2:=gI c4 i 2) hg.2.2.1 hg.2.2.2.2.1 hg.2.2.2.2.2.1 (by omega) (k:=k) (by omega)
    rw[<- hg.1] at ih'
    simp(disch:=omega) only[Yq.l0,atR,rdQ,Q.ask,ZY hi,cond_true,Yr.row g4,Z4,ZaQ,Z5,Zbl,Zan,Z9,show((d+1:Nat):Int)-1=(d:Int) by omega]
    rw[Yq.f_of ih',drop_gR i0 hi]
    simp only[sumL]
    by_cases hz:Ya2 d (gR c4 i)=0
    ·rw[hz,show((0:Int)==0)=true from rfl,cond_true,Z9 (by omega) (by omega),ZY (by omega)]
     simp
    ·rw[show(Ya2 d (gR c4 i)==0)=false by rw[beq_eq_false_iff_ne];exact hz,cond_false,Z9 (by omega) (by omega)]
     by_cases hn:n+Ya2 d (gR c4 i)>300
     ·rw[ZY hn,if_pos (.inr hn)]
      rfl
     ·rw[ZZ hn,if_neg (by omega),cond_false,hL _ ⟨by simp only[];omega,by simp only[];omega,by simp only[];omega,by simp only[];omega⟩ (by simp only[];omega)]
   ·rw[drop_end (by omega)]
    simp only[Yq.l0,atR,rdQ,Q.ask,ZZ hi,cond_false,sumL]
    rw[show(n==0)=false by rw[beq_eq_false_iff_ne];omega,cond_false]
noncomputable def valB (c0:Int) (c1:BA) (c2:Int) (c3 c4:LD):Bool:=decide (Ya2 6 [.int .i64 c0,.str c1,.int .i64 c2,.sl c3,.sl c4]>0)
theorem Ybh {c0:Int} {c1:BA} {c2:Int} {c3 c4:LD} (g1:c1.size<=lim) (g3:ZB RS lim c3) (g4:ZB Yr lim c4) {k:Nat} (hk:Zai 1 k) {β:Type} (K:Bool->Option β):Yan.f k c0 c1 c2 c3 c4 K=K (valB c0 c1 c2 c3 c4):=Yan.f_of (by
 unfold Yan.t Yan.g
 rw[look_fv (by omega) (by omega) g1 g3 g4 hk]
 rfl) K
theorem Ybc {c0:Int} {c1:BA} {c2:Int} {c3 c4:LD} (g1:c1.size<=lim) (g3:ZB RS lim c3) (g4:ZB Yr lim c4) {k:Nat} (hk:Zai 1 k) {β:Type} (K:Bool->Option β):Yaf.f k c0 c1 c2 c3 c4 K=K (valB c0 c1 c2 c3 c4):=Yaf.f_of (by
 have hb:big=2^64:=rfl
 have h1:lv 1=2^65:=rfl
 unfold Yaf.t Yaf.g
 rw[Yq.f_of (show Yq.t k c0 c1 c2 c3 c4 6=_ from measured_t 6 g1 g3 g4 (by omega) (by unfold Zai at hk;omega))]
 unfold valB
 have hr:=Ya9 6 [.int .i64 c0,.str c1,.int .i64 c2,.sl c3,.sl c4]
 generalize Ya2 6 [.int .i64 c0,.str c1,.int .i64 c2,.sl c3,.sl c4]=n at *
 by_cases hz:n=0
 ·subst hz;rfl
 ·rw[show(n==0)=false by rw[beq_eq_false_iff_ne];exact hz,cond_false,ZY (by omega),ZY (by omega)]) K
theorem YaB.f_of {β:Type} {k aB aA f0_0 z0} (h:YaB.t k aB aA f0_0=some z0) (K:Bool->Option β):YaB.f k aB aA f0_0 K=K z0:=by unfold YaB.f;rw[h];rfl
theorem Yb.f_of {β:Type} {k a0 a1_0_0 z0} (h:Yb.t k a0 a1_0_0=some z0) (K:Int->Option β):Yb.f k a0 a1_0_0 K=K z0:=by unfold Yb.f;rw[h];rfl
theorem Yaa.f_of {β:Type} {k a0 z0} (h:Yaa.t k a0=some z0) (K:LC->Option β):Yaa.f k a0 K=K z0:=by unfold Yaa.f;rw[h];rfl
theorem clone_string_fv {a:LD} (g:ZB RS lim a) {k:Nat} {β:Type} (K:LC->Option β):Yaa.f k a K=K (a.map (·.map C.d)):=Yaa.f_of (by
 have hl:=g.1
 have hlim:lim=1048576:=rfl
 have hm:Z8=2^36:=rfl
 unfold Yaa.t Yaa.g
 rw[ZH (RS.flat g.2),ZH (by simp only[List.length_nil,map_len];omega),List.nil_append]
 exact nilSl_same) K
theorem Yj.f_of {β:Type} {k aB aA aC aD aE z0 z1 z2 z3 z4} (h:Yj.t k aB aA aC aD aE=some (z0,z1,z2,z3,z4)) (K:Int->BA->Int->LC->LC->Option β):Yj.f k aB aA aC aD aE K=K z0 z1 z2 z3 z4:=by unfold Yj.f Yj.w;rw[h];rfl
set_option maxRecDepth 100000 in
theorem copyVal (n:Nat):∀ (c0:Int) (c1:BA) (c2:Int) (c3 c4:LD),ZB RS lim c3->c4.length<=lim->(∀ x∈c4,YD lim n x)->∀ {k:Nat},big+n+1<=k->Yj.t k c0 c1 c2 c3 c4=some (c0,c1,c2,Zc c3,Zc c4):=by
 have hm:Z8=2^36:=rfl
 have hlim:lim=1048576:=rfl
 have hb:big=2^64:=rfl
 induction n using Nat.strongRecOn with
 |ind n ih=>
 intro c0 c1 c2 c3 c4 g3 l4 g4 k hk
 obtain⟨k,rfl⟩:∃ k',k=k'+1:=⟨k-1,by omega⟩
 rw[Yj.t_succ]
 unfold Yj.g Yj.body
 rw[clone_string_fv g3]
 refine(ZbT (xs:=c4) (r:=some (c0,c1,c2,c3.map (·.map C.d),Zc c4)) (by omega) (λL i hi=>?_) (λL=>?_)).trans (by rw[RS.deep g3.2])
 ·have hl:(Zc (c4.take i)).length=i:=by rw[ZS,List.length_take];omega
  obtain⟨n',hn',d0,d1,d2,d3,d4,e,w0,w1,w2,w3,w4,w5⟩:∃ n',n=n'+1/\∃ d0 d1 d2 d3 d4,gR c4 (i:Int)=[.int .i64 d0,.str d1,.int .i64 d2,.sl d3,.sl d4]/\(Lit.int .i64 d0).wf=true/\d1.size<=lim/\(Lit.int .i64 d2).wf=true/\ZB RS lim d3/\d4.length<=lim/\∀ x∈d4,YD lim n' x:=by
   have:=g4 _ (gR_mem (xs:=c4) (v:=(i:Int)) (by omega) (by omega))
   generalize gR c4 (i:Int)=r at this
   cases this with
   |mk e0 e1 e2 e3 e4 w0 p1 w2 p3 p4 p5=>exact⟨_,rfl,_,_,_,_,_,rfl,w0,p1,w2,p3,p4,p5⟩
  simp(disch:=omega) only[Yj.l0,atR,rdQ,Q.ask,ZY (show(i:Int)<c4.length by omega),cond_true,Zck (xs:=c4) (v:=(i:Int)),e,Z4,Z5,ZaQ,Zbl,Zan,Yj.f_of (ih n' (by omega) d0 d1 d2 d3 d4 w3 w4 w5 (k:=k) (by omega)),Z9]
  rw[ZH (by rw[hl,List.length_singleton];omega)]
  simp only[ZN,deepD]
 ·simp only[Yj.l0,atR,rdQ,Q.ask,ZZ (show ¬ (c4.length:Int)<c4.length by omega),cond_false]
set_option maxRecDepth 100000 in
theorem l4CopyVal (n:Nat):∀ (c0:Int) (c1:BA) (c2:Int) (c3 c4:LD),ZB RS lim c3->c4.length<=lim->(∀ x∈c4,YD lim n x)->∀ {k:Nat},big+n+1<=k->YC.t k c0 c1 c2 c3 c4=some (c0,c1,c2,Zc c3,Zc c4):=by
 have hm:Z8=2^36:=rfl
 have hlim:lim=1048576:=rfl
 have hb:big=2^64:=rfl
 induction n using Nat.strongRecOn with
 |ind n ih=>
 intro c0 c1 c2 c3 c4 g3 l4 g4 k hk
 have l3:=g3.1
 obtain⟨k,rfl⟩:∃ k',k=k'+1:=⟨k-1,by omega⟩
 rw[YC.t_succ]
 unfold YC.g YC.body
 rw[ZH (RS.flat g3.2),ZH (by simp only[List.length_nil,map_len];omega),List.nil_append]
 refine(ZbT (xs:=c4) (r:=some (c0,c1,c2,c3.map (·.map C.d),Zc c4)) (by omega) (λL i hi=>?_) (λL=>?_)).trans (by rw[RS.deep g3.2])
 ·have hl:(Zc (c4.take i)).length=i:=by rw[ZS,List.length_take];omega
  obtain⟨n',hn',d0,d1,d2,d3,d4,e,w0,w1,w2,w3,w4,w5⟩:∃ n',n=n'+1/\∃ d0 d1 d2 d3 d4,gR c4 (i:Int)=[.int .i64 d0,.str d1,.int .i64 d2,.sl d3,.sl d4]/\(Lit.int .i64 d0).wf=true/\d1.size<=lim/\(Lit.int .i64 d2).wf=true/\ZB RS lim d3/\d4.length<=lim/\∀ x∈d4,YD lim n' x:=by
   have:=g4 _ (gR_mem (xs:=c4) (v:=(i:Int)) (by omega) (by omega))
   generalize gR c4 (i:Int)=r at this
   cases this with
   |mk e0 e1 e2 e3 e4 w0 p1 w2 p3 p4 p5=>exact⟨_,rfl,_,_,_,_,_,rfl,w0,p1,w2,p3,p4,p5⟩
  simp(disch:=omega) only[YC.l0,atR,rdQ,Q.ask,ZY (show(i:Int)<c4.length by omega),cond_true,Zck (xs:=c4) (v:=(i:Int)),e,Z4,Z5,ZaQ,Zbl,Zan,YC.f_of (ih n' (by omega) d0 d1 d2 d3 d4 w3 w4 w5 (k:=k) (by omega)),Z9]
  rw[ZH (by rw[hl,List.length_singleton];omega)]
  simp only[ZN,deepD]
 ·simp only[YC.l0,atR,rdQ,Q.ask,ZZ (show ¬ (c4.length:Int)<c4.length by omega),cond_false]
theorem value_h {xs:LD} (g:ZB Yr lim xs):∀ x∈xs,YD lim 1099511627776 x:=λx hx=>by
 obtain⟨h,hh,hx⟩:=g.2 x hx
 exact hx.mono (hh (by decide))
theorem Yba {c0 c2:Int} {c1:BA} {c3 c4:LD} (g3:ZB RS lim c3) (g4:ZB Yr lim c4) {k:Nat} (hk:Zai 1 k) {β:Type} (K:Int->BA->Int->LC->LC->Option β):Yj.f k c0 c1 c2 c3 c4 K=K c0 c1 c2 (Zc c3) (Zc c4):=
 Yj.f_of (copyVal 1099511627776 c0 c1 c2 c3 c4 g3 g4.1 (value_h g4) (Nat.le_trans (big_lv1 (n:=1099511627776+1) (by omega)) hk)) K
theorem l4Copy_fv {c0 c2:Int} {c1:BA} {c3 c4:LD} (g3:ZB RS lim c3) (g4:ZB Yr lim c4) {k:Nat} (hk:Zai 1 k) {β:Type} (K:Int->BA->Int->LC->LC->Option β):YC.f k c0 c1 c2 c3 c4 K=K c0 c1 c2 (Zc c3) (Zc c4):=
 YC.f_of (l4CopyVal 1099511627776 c0 c1 c2 c3 c4 g3 g4.1 (value_h g4) (Nat.le_trans (big_lv1 (n:=1099511627776+1) (by omega)) hk)) K
set_option maxRecDepth 100000 in
theorem sameVal (n:Nat):∀ (c0:Int) (c1:BA) (c2:Int) (c3 c4:LD),ZB RS lim c3->c4.length<=lim->(∀ x∈c4,YD lim n x)->∀ {k:Nat},big+n+1<=k->Ye.t k c0 c1 c2 c3 c4 c0 c1 c2 c3 c4=some true:=by
 have hlim:lim=1048576:=rfl
 have hb:big=2^64:=rfl
 induction n using Nat.strongRecOn with
 |ind n ih=>
 intro c0 c1 c2 c3 c4 g3 l4 g4 k hk
 have l3:=g3.1
 obtain⟨k,rfl⟩:∃ k',k=k'+1:=⟨k-1,by omega⟩
 rw[Ye.t_succ]
 unfold Ye.g Ye.body Ye.m
 simp only[bne_self_eq_false,strEq_self,Bool.not_true,cond_false]
 refine iter_seq (f:=λt=>(t:Int)) (n:=c3.length) (by omega) (λL t ht=>?_) (λL=>?_)
 ·simp(disch:=omega) only[Ye.l0,Ye.m0,atR,rdQ,Q.ask,ZY (show(t:Int)<(c3.length:Int) by omega),cond_true,RS.row g3,Z4,ZaQ,Zan,strEq_self,Bool.not_true,cond_false,Z9]
  rfl
 ·simp only[Ye.l0,Ye.m0,atR,rdQ,Q.ask]
  rw[ZZ (by omega)]
  simp only[cond_false]
  refine iter_seq (f:=λt=>(t:Int)) (n:=c4.length) (by omega) (λL i hi=>?_) (λL=>?_)
  ·obtain⟨n',hn',d0,d1,d2,d3,d4,e,w0,w1,w2,w3,w4,w5⟩:∃ n',n=n'+1/\∃ d0 d1 d2 d3 d4,gR c4 (i:Int)=[.int .i64 d0,.str d1,.int .i64 d2,.sl d3,.sl d4]/\(Lit.int .i64 d0).wf=true/\d1.size<=lim/\(Lit.int .i64 d2).wf=true/\ZB RS lim d3/\d4.length<=lim/\∀ x∈d4,YD lim n' x:=by
    have:=g4 _ (gR_mem (xs:=c4) (v:=(i:Int)) (by omega) (by omega))
    generalize gR c4 (i:Int)=r at this
    cases this with
    |mk e0 e1 e2 e3 e4 w0 p1 w2 p3 p4 p5=>exact⟨_,rfl,_,_,_,_,_,rfl,w0,p1,w2,p3,p4,p5⟩
   simp(disch:=omega) only[Ye.l1,atR,rdQ,Q.ask,ZY (show(i:Int)<(c4.length:Int) by omega),cond_true,Zck (xs:=c4) (v:=(i:Int)),e,Z4,Z5,ZaQ,Zbl,Zan,Ye.f_of (ih n' (by omega) d0 d1 d2 d3 d4 w3 w4 w5 (k:=k) (by omega)),Bool.not_true,cond_false,Z9]
   rfl
  ·simp only[Ye.l1,atR,rdQ,Q.ask]
   rw[ZZ (by omega)]
   rfl
theorem sameValue_f {c0 c2:Int} {c1:BA} {c3 c4:LD} (g3:ZB RS lim c3) (g4:ZB Yr lim c4) {k:Nat} (hk:Zai 1 k) {β:Type} (K:Bool->Option β):Ye.f k c0 c1 c2 c3 c4 c0 c1 c2 c3 c4 K=K true:=
 Ye.f_of (sameVal 1099511627776 c0 c1 c2 c3 c4 g3 g4.1 (value_h g4) (Nat.le_trans (big_lv1 (n:=1099511627776+1) (by omega)) hk)) K
theorem bS_byte {s:BA} {v:Int}:0<=bS s v/\bS s v<=255:=by
 unfold bS
 have:=UInt8.toNat_lt ((s[v.toNat]?).getD 0)
 omega
def digL (s:BA):Nat->Int->Int
 |0,n=>n
 |m+1,n=>bif inB (bS s ((s.size-(m+1):Nat):Int)) 48 57 then digL s m (n*10+(bS s ((s.size-(m+1):Nat):Int)-48)) else -1
theorem digL_sign {s:BA}:∀ {m:Nat} {n:Int},0<=n->digL s m n = -1\/0<=digL s m n
 |0,n,h=>.inr h
 |m+1,n,h=>by
  unfold digL
  cases hq:inB (bS s ((s.size-(m+1):Nat):Int)) 48 57
  ·exact .inl rfl
  ·unfold inB at hq
   rw[Bool.and_eq_true,decide_eq_true_iff,decide_eq_true_iff] at hq
   exact digL_sign (by omega)
def digE {β:Type} (bad:Option β) (good:Int->Option β) (x:Int):Option β:=bif decide (x<0) then bad else good x
theorem dig_loop {β:Type} {s:BA} {b:(Int×Int->Option β)->Int×Int->Option β} {good:Int->Option β} {bad:Option β} (h9:s.size<=9)
  (hb:∀ L (n i:Int),0<=i->i<s.size->0<=n->n<=1000000000->b L (n,i)=bif inB (bS s i) 48 57 then L (n*10+(bS s i-48),i+1) else bad) (he:∀ L n,b L (n,(s.size:Int))=good n) {k:Nat} (hk:Fuel k):
  ZA b k (0,0)=digE bad good (digL s s.size 0):=by
 have hbg:big=2^64:=rfl
 refine Eq.trans (iter_val (λv:Int×Int=>s.size-v.2.toNat) (λv=>0<=v.2/\v.2<=(s.size:Int)/\0<=v.1/\v.1<10^v.2.toNat) (λv=>digE bad good (digL s (s.size-v.2.toNat) v.1)) ?_ k (0,0) ⟨by simp,by simp,by simp,by simp⟩ (by unfold Fuel at hk;show s.size-(0:Int).toNat<k;omega)) (by show digE bad good (digL s (s.size-0) 0)=_;rw[Nat.sub_zero])
 rintro⟨n,j⟩ ⟨j0,j1,n0,n1⟩ L hL
 replace j0:0<=j:=j0
 obtain⟨i,rfl⟩:∃ i:Nat,j=(i:Int):=⟨j.toNat,by omega⟩
 replace j1:(i:Int)<=(s.size:Int):=j1
 replace n0:0<=n:=n0
 replace n1:n<10^((i:Int).toNat):=n1
 rw[Int.toNat_natCast] at n1
 simp only[Int.toNat_natCast]
 have p9:(10:Int)^i<=10^9:=by
  have:(10:Nat)^i<=10^9:=Nat.pow_le_pow_right (by decide) (by omega)
  exact_mod_cast this
 by_cases hi:i<s.size
 ·rw[hb L n (i:Int) (by omega) (by omega) n0 (by omega)]
  obtain⟨m,hm⟩:∃ m,s.size-i=m+1:=⟨s.size-i-1,by omega⟩
  rw[hm]
  conv=>rhs;unfold digL
  rw[show s.size-(m+1)=i by omega]
  cases hq:inB (bS s (i:Int)) 48 57
  ·rfl
  ·have hq2:=hq
   unfold inB at hq2
   rw[Bool.and_eq_true,decide_eq_true_iff,decide_eq_true_iff] at hq2
   simp only[cond_true]
   rw[hL (n*10+(bS s (i:Int)-48),(i:Int)+1) ⟨by show 0<=(i:Int)+1;omega,by show(i:Int)+1<=_;omega,by show 0<=n*10+(bS s (i:Int)-48);omega,by show n*10+(bS s (i:Int)-48)<10^((i:Int)+1).toNat;rw[show((i:Int)+1).toNat=i+1 by omega,Int.pow_succ];omega⟩ (by show s.size-((i:Int)+1).toNat<s.size-(i:Int).toNat;omega)]
   show digE bad good (digL s (s.size-((i:Int)+1).toNat) (n*10+(bS s (i:Int)-48)))=_
   rw[show s.size-((i:Int)+1).toNat=m by omega]
 ·obtain rfl:i=s.size:=by omega
  rw[he,Nat.sub_self]
  unfold digL digE
  rw[ZZ (show ¬ n<0 by omega)]
  rfl
noncomputable def numV (s:BA):Int:=bif inB s.size 1 9 then(bif decide ((s.size:Int)>1)&&(bS s 0==48) then -1 else digL s s.size 0) else -1
theorem numV_sign {s:BA}:numV s = -1\/0<=numV s:=by
 unfold numV
 cases inB s.size 1 9
 ·exact .inl rfl
 ·cases(decide ((s.size:Int)>1)&&(bS s 0==48))
  ·exact digL_sign (by decide)
  ·exact .inl rfl
theorem dig_wrap {n b:Int} (n0:0<=n) (n1:n<=1000000000) (b0:48<=b) (b1:b<=57):IntKind.wrap .i64 (IntKind.wrap .i64 (n*10)+IntKind.wrap .i64 (IntKind.wrap .u8 (b-48)))=n*10+(b-48):=by
 have h8:IntKind.wrap .u8 (b-48)=b-48:=by rw[IntKind.wrap_u8];omega
 rw[h8,Z9 (x:=n*10) (by omega) (by omega),Z9 (x:=b-48) (by omega) (by omega),Z9 (by omega) (by omega)]
theorem l4Number_fv {s:BA} {k:Nat} (hk:Fuel k) {β:Type} (K:Int->Option β):YB.f k s K=K (numV s):=YB.f_of (by
 unfold YB.t YB.g numV
 rw[l1In_fv]
 cases h1:inB (s.size:Int) 1 9
 ·rfl
 have h2:=h1
 unfold inB at h2
 rw[Bool.and_eq_true,decide_eq_true_iff,decide_eq_true_iff] at h2
 simp only[Bool.not_true,cond_false,cond_true]
 have key:∀ {b:(Int×Int->Option Int)->Int×Int->Option Int} (_:∀ L n i,b L (n,i)=bif decide (i<(s.size:Int)) then(atStr s i λb12=>bif !(inB (IntKind.wrap .i64 b12) 48 57) then some (-1) else(atStr s i λb14=>L (IntKind.wrap .i64 (IntKind.wrap .i64 (n*10)+IntKind.wrap .i64 (IntKind.wrap .u8 (b14-48))),IntKind.wrap .i64 (i+1)))) else some n),ZA b k (0,0)=some (digL s s.size 0):=λ{b} hb=>by
  rw[dig_loop (s:=s) (good:=λn=>some n) (bad:=some (-1)) (by omega) (λL n i i0 i1 n0 n1=>?_) (λL n=>by rw[hb,ZZ (by omega)];rfl) hk]
  ·rcases digL_sign (s:=s) (m:=s.size) (n:=0) (by decide) with q|q
   ·rw[q];rfl
   ·unfold digE;rw[ZZ (by omega)];rfl
  ·rw[hb,ZY i1,cond_true,atStr_at i0 i1,wrap_b]
   cases hq:inB (bS s i) 48 57
   ·rfl
   ·unfold inB at hq
    rw[Bool.and_eq_true,decide_eq_true_iff,decide_eq_true_iff] at hq
    simp only[Bool.not_true,cond_false,cond_true]
    rw[atStr_at i0 i1,dig_wrap n0 n1 hq.1 hq.2,Z9 (by omega) (by omega)]
 by_cases h3:(s.size:Int)>1
 ·rw[ZY h3,cond_true,atStr_at (by omega) (by omega),Bool.true_and]
  cases(bS s 0==48)
  ·exact key λL n i=>by unfold YB.l0;simp only[l1In_fv]
  ·rfl
 ·rw[ZZ h3,cond_false,Bool.false_and,cond_false]
  exact key λL n i=>by unfold YB.l1;simp only[l1In_fv]) K
theorem number_fv {s:BA} {k:Nat} (hk:Fuel k) {β:Type} (K:Int->Bool->Option β):YaP.f k s K=bif decide (numV s<0) then K 0 false else K (numV s) true:=by
 have hd:YS.t k s 9=some (bif decide (numV s<0) then(0,false) else(numV s,true)):=by
  unfold YS.t YS.g YS.m numV
  have hs:Zae s (⟨#[]⟩:BA)=decide (s.size=0):=by
   rw[Bool.eq_iff_iff,decide_eq_true_iff]
   unfold Zae
   rw[beq_iff_eq]
   constructor
   ·intro h
    have:=congrArg List.length h
    rw[ByteArray.toList_eq] at this
    simpa using this
   ·intro h
    have h':s.toList.length=0:=by rw[ByteArray.toList_eq];simpa using h
    rw[List.length_eq_zero_iff.mp h',Go.Lib.toList_data]
  rw[hs]
  by_cases h0:s.size=0
  ·rw[ZY h0,cond_true]
   have:inB (s.size:Int) 1 9=false:=by unfold inB;rw[h0];rfl
   rw[this]
   rfl
  rw[ZZ h0,cond_false]
  by_cases h9:(s.size:Int)>9
  ·rw[ZY h9]
   have:inB (s.size:Int) 1 9=false:=by unfold inB;rw[ZZ (show ¬ (s.size:Int)<=9 by omega)];simp
   rw[this]
   rfl
  rw[ZZ h9,cond_false]
  have:inB (s.size:Int) 1 9=true:=by unfold inB;rw[ZY (show(s.size:Int)<=9 by omega),ZY (show(1:Int)<=s.size by omega)];rfl
  rw[this,cond_true,atStr_at (by omega) (by omega)]
  have key:∀ {b:(Int×Int->Option (Int×Bool))->Int×Int->Option (Int×Bool)} (_:∀ L n i,b L (n,i)=bif decide (i<(s.size:Int)) then(atStr s i λb5=>bif decide (b5<48) then some (0,false) else(atStr s i λb6=>bif decide (b6>57) then some (0,false) else(atStr s i λb7=>L (IntKind.wrap .i64 (IntKind.wrap .i64 (10*n)+IntKind.wrap .i64 (IntKind.wrap .u8 (b7-48))),IntKind.wrap .i64 (i+1))))) else some (n,true)),ZA b k (0,0)=some (bif decide (digL s s.size 0<0) then(0,false) else(digL s s.size 0,true)):=λ{b} hb=>by
   rw[dig_loop (s:=s) (good:=λn=>some (n,true)) (bad:=some (0,false)) (by omega) (λL n i i0 i1 n0 n1=>?_) (λL n=>by rw[hb,ZZ (by omega)];rfl) hk]
   ·unfold digE;cases decide (digL s s.size 0<0)<;>rfl
   ·rw[hb,ZY i1,cond_true,atStr_at i0 i1]
    unfold inB
    by_cases q1:bS s i<48
    ·rw[ZY q1,ZZ (show ¬ 48<=bS s i by omega)]
     rfl
    rw[ZZ q1,ZY (show 48<=bS s i by omega),cond_false,atStr_at i0 i1]
    by_cases q2:bS s i>57
    ·rw[ZY q2,ZZ (show ¬ bS s i<=57 by omega)]
     rfl
    rw[ZZ q2,ZY (show bS s i<=57 by omega),cond_false,atStr_at i0 i1,Int.mul_comm 10 n,dig_wrap n0 n1 (by omega) (by omega),Z9 (by omega) (by omega)]
    rfl
  cases hz:(bS s 0==48)
  ·rw[Bool.and_false,cond_false,cond_false]
   exact key λL n i=>by unfold YS.l1;rfl
  ·rw[cond_true,Bool.and_true]
   by_cases h3:(s.size:Int)>1
   ·rw[ZY h3]
    rfl
   ·rw[ZZ h3,cond_false,cond_false]
    exact key λL n i=>by unfold YS.l0;rfl
 unfold YaP.f YaP.t YaP.g YS.f
 rw[hd]
 cases decide (numV s<0)<;>rfl
theorem YaA.f_of {β:Type} {k a0 z0} (h:YaA.t k a0=some z0) (K:Bool->Option β):YaA.f k a0 K=K z0:=by unfold YaA.f;rw[h];rfl
theorem YaR.f_of {β:Type} {k a0 z0} (h:YaR.t k a0=some z0) (K:Bool->Option β):YaR.f k a0 K=K z0:=by unfold YaR.f;rw[h];rfl
theorem Yd.f_of {β:Type} {k a0 z0} (h:Yd.t k a0=some z0) (K:Int->Option β):Yd.f k a0 K=K z0:=by unfold Yd.f;rw[h];rfl
theorem Yo.f_of {β:Type} {k a0 z0} (h:Yo.t k a0=some z0) (K:Bool->Option β):Yo.f k a0 K=K z0:=by unfold Yo.f;rw[h];rfl
theorem Yv.f_of {β:Type} {k a0 a1 z0} (h:Yv.t k a0 a1=some z0) (K:Bool->Option β):Yv.f k a0 a1 K=K z0:=by unfold Yv.f;rw[h];rfl
theorem Ya.f_of {β:Type} {k a0 a1 z0} (h:Ya.t k a0 a1=some z0) (K:Bool->Option β):Ya.f k a0 a1 K=K z0:=by unfold Ya.f Ya.w;rw[h];rfl
theorem YH.f_of {β:Type} {k aB aA aC aD aE aO aN aR aU aV z0} (h:YH.t k aB aA aC aD aE aO aN aR aU aV=some z0) (K:Bool->Option β):YH.f k aB aA aC aD aE aO aN aR aU aV K=K z0:=by unfold YH.f YH.w;rw[h];rfl
abbrev rowV (c0:Int) (c1:BA) (c2:Int) (c3 c4:LD):List D:=[.int .i64 c0,.str c1,.int .i64 c2,.sl c3,.sl c4]
def sameF:Nat->List D->List D->Bool
 |0,_,_=>false
 |n+1,x,y=>(rI x 0==rI y 0)&&(Zae (rS x 1) (rS y 1)&&((rI x 2==rI y 2)&&((((rL x 3).length:Int)==((rL y 3).length:Int))&&((((rL x 4).length:Int)==((rL y 4).length:Int))&&((List.range (rL x 3).length).all (λi=>Zae (gS (rL x 3) (i:Int) 0) (gS (rL y 3) (i:Int) 0))&&(List.range (rL x 4).length).all λi=>sameF n (gR (rL x 4) (i:Int)) (gR (rL y 4) (i:Int)))))))
set_option maxRecDepth 100000 in
theorem equalS_fv {a b:LD} (ga:ZB RS lim a) (gb:ZB RS lim b) {k:Nat} (hk:Fuel k) {β:Type} (K:Bool->Option β):Yv.f k a b K=K (((a.length:Int)==(b.length:Int))&&(List.range a.length).all λi=>Zae (gS a (i:Int) 0) (gS b (i:Int) 0)):=Yv.f_of (by
 have hlim:lim=1048576:=rfl
 have hb:big=2^64:=rfl
 have la:=ga.1
 unfold Yv.t Yv.g
 cases hl:((a.length:Int)==(b.length:Int))
 ·simp only[bne,hl,Bool.not_false,cond_true,Bool.false_and]
 ·have hl':a.length=b.length:=by have:=eq_of_beq hl;omega
  simp only[bne,hl,Bool.not_true,cond_false,Bool.true_and]
  rw[iter_all0 (n:=a.length) (λi=>Zae (gS a (i:Int) 0) (gS b (i:Int) 0)) (r1:=some false) (r2:=some true) (by unfold Fuel at hk;omega)]
  ·cases List.all _ _<;>rfl
  ·intro L i hi
   simp(disch:=omega) only[Yv.l0,atR,rdQ,Q.ask,ZY (show(i:Int)<(a.length:Int) by omega),cond_true,RS.row ga,RS.row gb,Z4,ZaQ,Zan,Z9]
   cases Zae (gS a (i:Int) 0) (gS b (i:Int) 0)<;>rfl
  ·intro L
   simp[Yv.l0,atR,rdQ,Q.ask]) K
set_option maxRecDepth 100000 in
set_option maxHeartbeats 2000000 in
theorem same_both (n:Nat):∀ (c0:Int) (c1:BA) (c2:Int) (c3 c4:LD) (e0:Int) (e1:BA) (e2:Int) (e3 e4:LD),ZB RS lim c3->c4.length<=lim->(∀ x∈c4,YD lim n x)->ZB RS lim e3->e4.length<=lim->(∀ x∈e4,YD lim n x)->∀ {k:Nat},big+2*n+2<=k->Ye.t k c0 c1 c2 c3 c4 e0 e1 e2 e3 e4=some (sameF (n+1) (rowV c0 c1 c2 c3 c4) (rowV e0 e1 e2 e3 e4))/\YH.t k c0 c1 c2 c3 c4 e0 e1 e2 e3 e4=some (sameF (n+1) (rowV c0 c1 c2 c3 c4) (rowV e0 e1 e2 e3 e4)):=by
 have hlim:lim=1048576:=rfl
 have hb:big=2^64:=rfl
 induction n using Nat.strongRecOn with
 |ind n ih=>
 intro c0 c1 c2 c3 c4 e0 e1 e2 e3 e4 g3 l4 g4 f3 m4 f4 k hk
 have l3:=g3.1
 have m3:=f3.1
 obtain⟨k,rfl⟩:∃ k',k=k'+1+1:=⟨k-2,by omega⟩
 have val:sameF (n+1) (rowV c0 c1 c2 c3 c4) (rowV e0 e1 e2 e3 e4)=((c0==e0)&&(Zae c1 e1&&((c2==e2)&&(((c3.length:Int)==(e3.length:Int))&&(((c4.length:Int)==(e4.length:Int))&&((List.range c3.length).all (λi=>Zae (gS c3 (i:Int) 0) (gS e3 (i:Int) 0))&&(List.range c4.length).all λi=>sameF n (gR c4 (i:Int)) (gR e4 (i:Int)))))))):=rfl
 rw[val]
 have kid:c4.length=e4.length->∀ (i:Nat),i<c4.length->∃ d0 d1 d2 d3 d4 x0 x1 x2 x3 x4,gR c4 (i:Int)=rowV d0 d1 d2 d3 d4/\gR e4 (i:Int)=rowV x0 x1 x2 x3 x4/\∀ {k':Nat},big+2*n<=k'->Ye.t k' d0 d1 d2 d3 d4 x0 x1 x2 x3 x4=some (sameF n (gR c4 (i:Int)) (gR e4 (i:Int)))/\YH.t k' d0 d1 d2 d3 d4 x0 x1 x2 x3 x4=some (sameF n (gR c4 (i:Int)) (gR e4 (i:Int))):=by
  intro hl i hi
  have part:∀ (c4:LD),c4.length<=lim->(∀ x∈c4,YD lim n x)->i<c4.length->∃ n',n=n'+1/\∃ d0 d1 d2 d3 d4,gR c4 (i:Int)=[.int .i64 d0,.str d1,.int .i64 d2,.sl d3,.sl d4]/\ZB RS lim d3/\d4.length<=lim/\∀ x∈d4,YD lim n' x:=λc4 _ g4 hw=>by
   have:=g4 _ (gR_mem (v:=(i:Int)) (by omega) (by omega))
   generalize gR c4 (i:Int)=r at this
   cases this with
   |mk e0 e1 e2 e3 e4 w0 p1 w2 p3 p4 p5=>exact⟨_,rfl,_,_,_,_,_,rfl,p3,p4,p5⟩
  obtain⟨n1,hn1,d0,d1,d2,d3,d4,ed,w3,w4,w5⟩:=part c4 l4 g4 hi
  obtain⟨n2,hn2,x0,x1,x2,x3,x4,ex,y3,y4,y5⟩:=part e4 m4 f4 (by omega)
  obtain rfl:n1=n2:=by omega
  refine⟨d0,d1,d2,d3,d4,x0,x1,x2,x3,x4,ed,ex,λ{k'} hk'=>?_⟩
  rw[ed,ex]
  subst hn1
  exact ih n1 (by omega) d0 d1 d2 d3 d4 x0 x1 x2 x3 x4 w3 w4 w5 y3 y4 y5 (by omega)
 constructor
 ·rw[Ye.t_succ]
  unfold Ye.g Ye.body Ye.m
  cases h0:(c0==e0)<;>simp only[bne,h0,Bool.not_true,Bool.not_false,cond_true,cond_false,Bool.true_and,Bool.false_and]
  cases h1:Zae c1 e1<;>simp only[Bool.not_true,Bool.not_false,cond_true,cond_false,Bool.true_and,Bool.false_and]
  cases h2:(c2==e2)<;>simp only[h2,Bool.not_true,Bool.not_false,cond_true,cond_false,Bool.true_and,Bool.false_and]
  cases h3:((c3.length:Int)==(e3.length:Int))<;>simp only[h3,Bool.not_true,Bool.not_false,cond_true,cond_false,Bool.true_and,Bool.false_and]
  cases h4:((c4.length:Int)==(e4.length:Int))<;>simp only[h4,Bool.not_true,Bool.not_false,cond_true,cond_false,Bool.true_and,Bool.false_and]
  have q3:c3.length=e3.length:=by have:=eq_of_beq h3;omega
  have q4:c4.length=e4.length:=by have:=eq_of_beq h4;omega
  have e2':ZA (Ye.l1 (k+1) (Ye.f (k+1)) c0 c1 c2 c3 c4 e0 e1 e2 e3 e4 (λz0=>some z0)) (k+1) 0=some ((List.range c4.length).all λi=>sameF n (gR c4 (i:Int)) (gR e4 (i:Int))):=by
   rw[iter_all0 (n:=c4.length) (λi=>sameF n (gR c4 (i:Int)) (gR e4 (i:Int))) (r1:=some false) (r2:=some true) (by omega)]
   ·cases List.all _ _<;>rfl
   ·intro L i hi
    obtain⟨d0,d1,d2,d3,d4,x0,x1,x2,x3,x4,ed,ex,hkid⟩:=kid q4 i hi
    have es:=(hkid (k':=k+1) (by omega)).1
    generalize sameF n (gR c4 (i:Int)) (gR e4 (i:Int))=bb at es
    simp(disch:=omega) only[Ye.l1,atR,rdQ,Q.ask,ZY (show(i:Int)<(c4.length:Int) by omega),cond_true,atR,rdQ,Q.ask,Zck (xs:=c4) (v:=(i:Int)),Zck (xs:=e4) (v:=(i:Int)),ed,ex,Z4,Z5,ZaQ,Zbl,Zan,Ye.f_of es,Z9]
    cases bb<;>rfl
   ·intro L
    simp[Ye.l1,atR,rdQ,Q.ask]
  rw[iter_all0 (n:=c3.length) (λi=>Zae (gS c3 (i:Int) 0) (gS e3 (i:Int) 0)) (r1:=some false) (r2:=some ((List.range c4.length).all λi=>sameF n (gR c4 (i:Int)) (gR e4 (i:Int)))) (by omega)]
  ·cases(List.range c3.length).all λi=>Zae (gS c3 (i:Int) 0) (gS e3 (i:Int) 0)<;>rfl
  ·intro L i hi
   simp(disch:=omega) only[Ye.l0,Ye.m0,atR,rdQ,Q.ask,ZY (show(i:Int)<(c3.length:Int) by omega),cond_true,RS.row g3,RS.row f3,Z4,ZaQ,Zan,Z9]
   cases Zae (gS c3 (i:Int) 0) (gS e3 (i:Int) 0)<;>rfl
  ·intro L
   simp only[Ye.l0,Ye.m0,atR,rdQ,Q.ask,ZZ (show ¬ (c3.length:Int)<(c3.length:Int) by omega),cond_false]
   exact e2'
 ·rw[YH.t_succ]
  unfold YH.g YH.body
  cases h0:(c0==e0)<;>simp only[cond_true,cond_false,Bool.true_and,Bool.false_and]
  cases h1:Zae c1 e1<;>simp only[cond_true,cond_false,Bool.true_and,Bool.false_and]
  cases h2:(c2==e2)<;>simp only[cond_true,cond_false,Bool.true_and,Bool.false_and]
  rw[equalS_fv g3 f3 (by unfold Fuel;omega)]
  cases h3:((c3.length:Int)==(e3.length:Int))<;>simp only[cond_true,cond_false,Bool.true_and,Bool.false_and]
  have ef:Ya.t (k+1) c4 e4=some (((c4.length:Int)==(e4.length:Int))&&(List.range c4.length).all λi=>sameF n (gR c4 (i:Int)) (gR e4 (i:Int))):=by
   rw[Ya.t_succ]
   unfold Ya.g Ya.body
   cases h4:((c4.length:Int)==(e4.length:Int))<;>simp only[bne,h4,Bool.not_true,Bool.not_false,cond_true,cond_false,Bool.true_and,Bool.false_and]
   have q4:c4.length=e4.length:=by have:=eq_of_beq h4;omega
   rw[iter_all0 (n:=c4.length) (λi=>sameF n (gR c4 (i:Int)) (gR e4 (i:Int))) (r1:=some false) (r2:=some true) (by omega)]
   ·cases List.all _ _<;>rfl
   ·intro L i hi
    obtain⟨d0,d1,d2,d3,d4,x0,x1,x2,x3,x4,ed,ex,hkid⟩:=kid q4 i hi
    have es:=(hkid (k':=k) (by omega)).2
    generalize sameF n (gR c4 (i:Int)) (gR e4 (i:Int))=bb at es
    simp(disch:=omega) only[Ya.l0,atR,rdQ,Q.ask,ZY (show(i:Int)<(c4.length:Int) by omega),cond_true,atR,rdQ,Q.ask,Zck (xs:=c4) (v:=(i:Int)),Zck (xs:=e4) (v:=(i:Int)),ed,ex,Z4,Z5,ZaQ,Zbl,Zan,YH.f_of es,Z9]
    cases bb<;>rfl
   ·intro L
    simp[Ya.l0,atR,rdQ,Q.ask]
  cases hk3:(List.range c3.length).all λi=>Zae (gS c3 (i:Int) 0) (gS e3 (i:Int) 0)<;>simp only[cond_true,cond_false,Bool.true_and,Bool.false_and,Bool.and_false]
  rw[Ya.f_of ef]
noncomputable def sameVB (c0:Int) (c1:BA) (c2:Int) (c3 c4:LD) (e0:Int) (e1:BA) (e2:Int) (e3 e4:LD):Bool:=sameF (1099511627776+1) (rowV c0 c1 c2 c3 c4) (rowV e0 e1 e2 e3 e4)
theorem sameVB_t {c0 c2 e0 e2:Int} {c1 e1:BA} {c3 c4 e3 e4:LD} (g3:ZB RS lim c3) (g4:ZB Yr lim c4) (f3:ZB RS lim e3) (f4:ZB Yr lim e4) {k:Nat} (hk:Zai 1 k):Ye.t k c0 c1 c2 c3 c4 e0 e1 e2 e3 e4=some (sameVB c0 c1 c2 c3 c4 e0 e1 e2 e3 e4)/\YH.t k c0 c1 c2 c3 c4 e0 e1 e2 e3 e4=some (sameVB c0 c1 c2 c3 c4 e0 e1 e2 e3 e4):=
 same_both 1099511627776 c0 c1 c2 c3 c4 e0 e1 e2 e3 e4 g3 g4.1 (value_h g4) f3 f4.1 (value_h f4) (Nat.le_trans (big_lv1 (n:=2*1099511627776+2) (by omega)) hk)
theorem Ya3.f_of {β:Type} {k aB aA aC aD aE aK aL z0} (h:Ya3.t k aB aA aC aD aE aK aL=some z0) (K:Bool->Option β):Ya3.f k aB aA aC aD aE aK aL K=K z0:=by unfold Ya3.f;rw[h];rfl
theorem Yay.f_of {β:Type} {k aB aA aC aD aE aK aL z0} (h:Yay.t k aB aA aC aD aE aK aL=some z0) (K:Bool->Option β):Yay.f k aB aA aC aD aE aK aL K=K z0:=by unfold Yay.f;rw[h];rfl
theorem Yc.f_of {β:Type} {k a0 z0} (h:Yc.t k a0=some z0) (K:Int->Option β):Yc.f k a0 K=K z0:=by unfold Yc.f;rw[h];rfl
theorem Ym.f_of {β:Type} {k a0 z0} (h:Ym.t k a0=some z0) (K:Bool->Option β):Ym.f k a0 K=K z0:=by unfold Ym.f;rw[h];rfl
theorem YaF.f_of {β:Type} {k a0 z0} (h:YaF.t k a0=some z0) (K:Bool->Option β):YaF.f k a0 K=K z0:=by unfold YaF.f;rw[h];rfl
end Go.Proofs.YtlobhlnahhjpjaaGreat
