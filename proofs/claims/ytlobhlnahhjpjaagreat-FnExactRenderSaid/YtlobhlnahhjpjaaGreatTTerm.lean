/- That a printed function comes to its end: a value that is the same for all fuel from some on. -/
import Derived.Test.YtlobhlnahhjpjaaGreatTFrame
set_option linter.unusedVariables false
set_option linter.unusedSimpArgs false
namespace Go.T
theorem bz0 {p:Prop} [Decidable p]:(decide p=true)=p:=decide_eq_true_eq
theorem bz1 {p:Prop} [Decidable p]:decide p=false↔¬ p:=decide_eq_false_iff_not
theorem bz2 {a b:Int}:¬ a<b↔b<=a:=Int.not_lt
theorem bz3 {a b:Int}:¬ a<=b↔b<a:=Int.not_le
theorem bz4 {α:Type} [BEq α] [LawfulBEq α] {a b:α}:(a !=b)=true↔¬ a=b:=bne_iff_ne
theorem bz5 {α:Type} (a b:α):(a≠b)=¬ a=b:=rfl
theorem bz6 {α:Type} [BEq α] [LawfulBEq α] {a b:α}:(a !=b)=false↔a=b:=bne_eq_false_iff_eq
theorem bz7 {α:Type} [BEq α] [LawfulBEq α] {a b:α}:(a==b)=true↔a=b:=beq_iff_eq
theorem bz8 {α:Type} [BEq α] [LawfulBEq α] {a b:α}:(a==b)=false↔¬ a=b:=beq_eq_false_iff_ne
theorem bz9 (b:Bool):((!b)=true)=(b=false):=Bool.not_eq_true' b
theorem bza (b:Bool):((!b)=false)=(b=true):=Bool.not_eq_false' b
def big:Nat:=2^64
def lv (n:Nat):Nat:=2^(64+n)
theorem lv_le {m n:Nat} (h:m<=n):lv m<=lv n:=Nat.pow_le_pow_right (by decide) (by omega)
theorem up0 {n k:Nat} (h:lv n<=k):big<=k:=Nat.le_trans (lv_le (Nat.zero_le n):lv 0<=lv n) h
theorem upn {m n k:Nat} (h:lv n<=k) (hm:m<=n):lv m<=k:=Nat.le_trans (lv_le hm) h
def Tm {ι α:Type} (ok:ι->Prop) (F:ι->Option α) (φ:α->Prop):Prop:=∃ v,φ v/\∀ i,ok i->F i=some v
abbrev Fuel:Nat->Prop:=λk=>big<=k
abbrev Zai (n:Nat):Nat->Prop:=λk=>lv n<=k
section
variable {ι α:Type} {ok:ι->Prop} {ψ:α->Prop}
theorem Tm.ret {v:α} (h:ψ v):Tm ok (λ_=>some v) ψ:=⟨v,h,λ_ _=>rfl⟩
theorem Tm.mono {F:ι->Option α} {φ:α->Prop} (h:Tm ok F φ) (hi:∀ v,φ v->ψ v):Tm ok F ψ:=by
 obtain⟨v,h1,h2⟩:=h
 exact⟨v,hi v h1,h2⟩
theorem Tm.congr {F G:ι->Option α} (h:Tm ok G ψ) (e:∀ i,ok i->F i=G i):Tm ok F ψ:=by
 obtain⟨v,h1,h2⟩:=h
 exact⟨v,h1,λi hi=>(e i hi).trans (h2 i hi)⟩
theorem Tm.ite {c:Bool} {F G:ι->Option α} (h1:c=true->Tm ok F ψ) (h2:c=false->Tm ok G ψ):Tm ok (λi=>bif c then F i else G i) ψ:=by
 cases c with
 |true=>exact h1 rfl
 |false=>exact h2 rfl
theorem Tm.guard {c:Prop} [Decidable c] {F:ι->Option α} (hc:c) (h:Tm ok F ψ):Tm ok (λi=>Zd c (F i)) ψ:=by
 simp only[Zd,if_pos hc]
 exact h
theorem Tm.uncons {γ:Type} {x:γ} {l:List γ} {F:ι->γ->List γ->Option α} (h:Tm ok (λi=>F i x l) ψ):Tm ok (λi=>ZaJ (x::l) (F i)) ψ:=h
theorem Tm.atEnd {γ:Type} {F:ι->Option α} (h:Tm ok F ψ):Tm ok (λi=>atEnd ([]:List γ) (F i)) ψ:=h
theorem Tm.dStr {s:ByteArray} {F:ι->ByteArray->Option α} (h:Tm ok (λi=>F i s) ψ):Tm ok (λi=>dStr (.str s) (F i)) ψ:=h
theorem Tm.dBool {s:Bool} {F:ι->Bool->Option α} (h:Tm ok (λi=>F i s) ψ):Tm ok (λi=>dBool (.bool s) (F i)) ψ:=h
theorem Tm.dSl {s:List (List D)} {F:ι->List (List D)->Option α} (h:Tm ok (λi=>F i s) ψ):Tm ok (λi=>dSl (.sl s) (F i)) ψ:=h
theorem Tm.dInt {q:IntKind} {s:Int} {F:ι->Int->Option α} (h:Tm ok (λi=>F i s) ψ):Tm ok (λi=>dInt q (.int q s) (F i)) ψ:=by
 simp only[Go.T.dInt,if_true]
 exact h
theorem Tm.cD {x:D} {F:ι->D->Option α} (h:Tm ok (λi=>F i x) ψ):Tm ok (λi=>cD (.d x) (F i)) ψ:=h
theorem Tm.cOwn {x:List (List C)} {F:ι->List (List C)->Option α} (h:Tm ok (λi=>F i x) ψ):Tm ok (λi=>cOwn (.own x) (F i)) ψ:=h
theorem Tm.atRow {γ:Type} {xs:List γ} {j:Int} {F:ι->γ->Option α} (h0:0<=j) (h1:j<xs.length) (h:∀ x,xs[j.toNat]? = some x->x∈xs->Tm ok (λi=>F i x) ψ):Tm ok (λi=>atRow xs j (F i)) ψ:=by
 have hl:j.toNat<xs.length:=by omega
 have e:xs[j.toNat]? = some xs[j.toNat]:=by simp[hl]
 refine(h _ e (List.getElem_mem hl)).congr λi _=>?_
 simp only[Go.T.atRow,if_pos h0,ZaR,e]
theorem Tm.atStr {s:ByteArray} {j:Int} {F:ι->Int->Option α} (h0:0<=j) (h1:j<s.size) (h:∀ b:UInt8,s[j.toNat]? = some b->Tm ok (λi=>F i (b.toNat:Int)) ψ):Tm ok (λi=>atStr s j (F i)) ψ:=by
 have hl:j.toNat<s.size:=by omega
 have e:s[j.toNat]? = some s[j.toNat]:=by simp[hl]
 refine(h _ e).congr λi _=>?_
 simp only[Go.T.atStr,if_pos h0,e]
theorem Tm.loop {V:Type} {okk:ι->Prop} {p:ι->Nat} (hp:∀ i,okk i->big<=p i) {b:ι->(V->Option α)->V->Option α} (m:V->Nat) (Inv:V->Prop) (hm:∀ v,Inv v->m v<big) {v:V} (h0:Inv v)
  (step:∀ v,Inv v->∀ L:ι×Nat->V->Option α,(∀ v',Inv v'->m v'<m v->Tm (λi:ι×Nat=>okk i.1/\m v<=i.2) (λi=>L i v') ψ)->Tm (λi:ι×Nat=>okk i.1/\m v<=i.2) (λi=>b i.1 (L i) v) ψ):
  Tm okk (λi=>ZA (b i) (p i) v) ψ:=by
 have key:∀ (n:Nat) (v:V),m v=n->Inv v->∃ r,ψ r/\∀ i,okk i->∀ j,m v<j->ZA (b i) j v=some r:=by
  intro n
  induction n using Nat.strongRecOn with
  |ind n ih=>
   intro v hv hI
   obtain⟨r,h1,h2⟩:=step v hI (λi=>ZA (b i.1) i.2) (λv' hI' hlt=>by
    obtain⟨r',q1,q2⟩:=ih (m v') (by omega) v' rfl hI'
    exact⟨r',q1,λi hi=>q2 i.1 hi.1 i.2 (Nat.lt_of_lt_of_le hlt hi.2)⟩)
   refine⟨r,h1,λi hi j hj=>?_⟩
   cases j with
   |zero=>omega
   |succ j=>exact h2 (i,j) ⟨hi,by omega⟩
 obtain⟨r,h1,h2⟩:=key (m v) v rfl h0
 exact⟨r,h1,λi hi=>h2 i hi (p i) (Nat.lt_of_lt_of_le (hm v h0) (hp i hi))⟩
end
theorem Z9 {x:Int} (h1 : -9223372036854775808<=x) (h2:x<=9223372036854775807):IntKind.wrap .i64 x=x:=by
 simp only[IntKind.wrap,IntKind.signed,IntKind.bits]
 simp
 omega
abbrev lim:Nat:=1048576
theorem maxLen_eq:maxLen=9223372036854775807:=rfl
def ZB (R:Nat->List D->Prop) (B:Nat) (xs:List (List D)):Prop:=xs.length<=B/\∀ r∈xs,R B r
theorem take_rows {R:List D->Prop} {xs:List (List D)} {i:Int} {x:List D} (h0:0<=i) (hx:xs[i.toNat]? = some x) (h:∀ r∈xs.take i.toNat,R r) (hr:R x):∀ r∈xs.take (i+1).toNat,R r:=by
 rw[show(i+1).toNat=i.toNat+1 from by omega,List.take_add_one,hx]
 intro r hr'
 rcases List.mem_append.mp hr' with q|q
 ·exact h r q
 ·simp at q;subst q;exact hr
theorem all_rows {R:List D->Prop} {xs:List (List D)} {i:Int} (hi:(xs.length:Int)<=i) (h:∀ r∈xs.take i.toNat,R r):∀ r∈xs,R r:=by
 rw[List.take_of_length_le (by omega)] at h
 exact h
theorem strEq_self (s:ByteArray):Zae s s=true:=by simp[Zae]
theorem Tm.self {ι α:Type} {ok:ι->Prop} {F:ι->Option α} {φ:α->Prop} (h:Tm ok F φ):Tm ok F (λv=>φ v/\∀ i,ok i->F i=some v):=by
 obtain⟨v,h1,h2⟩:=h
 exact⟨v,⟨h1,h2⟩,h2⟩
theorem Tm.succ {α:Type} {N:Nat} {t g:Nat->Option α} {φ:α->Prop} (e:∀ k,t (k+1)=g k) (h:Tm (λk=>N<=k) g φ):Tm (λk=>N+1<=k) t φ:=by
 obtain⟨v,h1,h2⟩:=h
 refine⟨v,h1,λk hk=>?_⟩
 cases k with
 |zero=>omega
 |succ k=>rw[e];exact h2 k (by omega)
theorem Tm.up {α:Type} {M N:Nat} {t:Nat->Option α} {φ:α->Prop} (h:Tm (λk=>M<=k) t φ) (hn:M<=N):Tm (λk=>N<=k) t φ:=by
 obtain⟨v,h1,h2⟩:=h
 exact⟨v,h1,λk hk=>h2 k (Nat.le_trans hn hk)⟩
theorem Tm.at {ι α:Type} {ok:ι->Prop} {F:ι->Option α} {v:α} (h:∀ i,ok i->F i=some v):Tm ok F (λz=>z=v):=⟨v,rfl,h⟩
theorem Za3:∀ (a b:List (List C)),C.immRows (a++b)=C.immRows a++C.immRows b
 |[],_=>rfl
 |x::a,b=>by simp only[List.cons_append,C.immRows,Za3 a b]
theorem bif_congr {β:Type} {c:Bool} {a a' b b':β} (h1:c=true->a=a') (h2:c=false->b=b'):(bif c then a else b)=(bif c then a' else b'):=by
 cases c
 ·exact h2 rfl
 ·exact h1 rfl
theorem atRow_get {γ β:Type} {xs:List γ} {v:Int} {x:γ} (h0:0<=v) (hx:xs[v.toNat]? = some x) (F:γ->Option β):atRow xs v F=F x:=by
 simp only[atRow,if_pos h0,ZaR,hx]
mutual
def deepD:D->C
 |.bool b=>.d (.bool b)
 |.int q n=>.d (.int q n)
 |.str s=>.d (.str s)
 |.sl xs=>.own (Zc xs)
 |.fn f cs=>.d (.fn f cs)
 |.un=>.d .un
def ZN:List D->List C
 |[]=>[]
 |d::r=>deepD d::ZN r
def Zc:List (List D)->List (List C)
 |[]=>[]
 |r::xs=>ZN r::Zc xs
end
mutual
theorem imm_deepD:∀ d:D,C.imm (deepD d)=d
 |.bool _|.int _ _|.str _|.fn _ _|.un=>by simp only[deepD,C.imm]
 |.sl xs=>by simp only[deepD,C.imm,ZK xs]
theorem imm_deepCells:∀ r:List D,C.immCells (ZN r)=r
 |[]=>by simp only[ZN,C.immCells]
 |d::r=>by simp only[ZN,C.immCells,imm_deepD d,imm_deepCells r]
theorem ZK:∀ xs:List (List D),C.immRows (Zc xs)=xs
 |[]=>by simp only[Zc,C.immRows]
 |r::xs=>by simp only[Zc,C.immRows,imm_deepCells r,ZK xs]
end
theorem ZS:∀ xs:List (List D),(Zc xs).length=xs.length
 |[]=>by simp only[Zc,List.length_nil]
 |r::xs=>by simp only[Zc,List.length_cons,ZS xs]
theorem Zbb:∀ (xs ys:List (List D)),Zc (xs++ys)=Zc xs++Zc ys
 |[],ys=>by simp only[Zc,List.nil_append]
 |r::xs,ys=>by simp only[Zc,List.cons_append,Zbb xs ys]
theorem deep_flat {R:List D->Prop} (hR:∀ r,R r->ZN r=r.map C.d):∀ xs:List (List D),(∀ r∈xs,R r)->Zc xs=xs.map (·.map C.d)
 |[],_=>by simp only[Zc,List.map_nil]
 |r::xs,h=>by simp only[Zc,List.map_cons,hR r (h r (by simp)),deep_flat hR xs λr hr=>h r (by simp[hr])]
structure Filled (xs:List (List D)) (Z:List C) (i:Int) (out:List (List C)):Prop where
 get:∃ done,out=done++List.replicate (xs.length-i.toNat) Z/\done.length=i.toNat/\done=Zc (xs.take i.toNat)
theorem Filled.start (xs:List (List D)) (Z:List C):Filled xs Z 0 (List.replicate (Int.toNat (xs.length:Int)) Z):=⟨[],by simp,rfl,by simp[Zc]⟩
theorem Filled.len {xs:List (List D)} {Z:List C} {i:Int} {out:List (List C)} (h:Filled xs Z i out) (h1:i<=xs.length):out.length=xs.length:=by
 obtain⟨done,rfl,hl,_⟩:=h.get
 simp;omega
theorem Filled.next {xs:List (List D)} {Z new:List C} {i:Int} {out:List (List C)} {x:List D} (h:Filled xs Z i out) (h0:0<=i) (hx:xs[i.toNat]? = some x) (hz:Z.length=new.length) (hn:new=ZN x):
  Filled xs Z (i+1) (out.modify i.toNat λc=>Zs c 0 new):=by
 obtain⟨done,rfl,hl,hi⟩:=h.get
 have hlt:=(List.getElem?_eq_some_iff.mp hx).1
 have e1:(i+1).toNat=i.toNat+1:=by omega
 refine⟨done++[new],?_,by simp[hl,e1],?_⟩
 ·obtain⟨n,hn'⟩:∃ n,xs.length-i.toNat=n+1:=⟨xs.length-i.toNat-1,by omega⟩
  rw[hn',e1,show xs.length-(i.toNat+1)=n from by omega,List.replicate_succ]
  have hsp:Zs Z 0 new=new:=by simp[Zs,<- hz]
  have hil:i.toNat<(done++Z::List.replicate n Z).length:=by simp;omega
  rw[List.modify_eq_take_cons_drop hil]
  have a1:(done++Z::List.replicate n Z).take i.toNat=done:=by rw[<- hl];simp
  have a2:(done++Z::List.replicate n Z).drop (i.toNat+1)=List.replicate n Z:=by rw[<- hl];simp
  have a3:(done++Z::List.replicate n Z)[i.toNat]=Z:=by simp[<- hl]
  rw[a1,a2,a3,hsp]
  simp
 ·rw[e1,List.take_add_one,hx,Zbb,<- hi]
  simp[Zc,hn]
theorem Filled.all {xs:List (List D)} {Z:List C} {i:Int} {out:List (List C)} (h:Filled xs Z i out) (hi:(xs.length:Int)<=i):out=Zc xs:=by
 obtain⟨done,rfl,hl,he⟩:=h.get
 rw[show xs.length-i.toNat=0 from by omega]
 simp only[List.replicate_zero,List.append_nil]
 rw[he,List.take_of_length_le (by omega)]
section
variable {ι α α₁ α₂ α₃ α₄ α₅:Type} {ok:ι->Prop} {ψ:α->Prop} {p:ι->Nat} {B:Nat}
theorem bd1_tm (hp:∀ i,ok i->B<=p i) {t:Nat->Option (α₁)} {φ:α₁->Prop} (h:Tm (λk=>B<=k) t φ) {G:ι->α₁->Option α} (hG:∀ z0,φ z0->Tm ok (λi=>G i z0) ψ):Tm ok (λi=>bd1 (t (p i)) (G i)) ψ:=by
 obtain⟨z0,h1,h2⟩:=h
 exact(hG z0 h1).congr λi hi=>by rw[h2 (p i) (hp i hi)];rfl
theorem bd2_tm (hp:∀ i,ok i->B<=p i) {t:Nat->Option (α₁×α₂)} {φ:α₁×α₂->Prop} (h:Tm (λk=>B<=k) t φ) {G:ι->α₁->α₂->Option α} (hG:∀ z0 z1,φ (z0,z1)->Tm ok (λi=>G i z0 z1) ψ):Tm ok (λi=>bd2 (t (p i)) (G i)) ψ:=by
 obtain⟨⟨z0,z1⟩,h1,h2⟩:=h
 exact(hG z0 z1 h1).congr λi hi=>by rw[h2 (p i) (hp i hi)];rfl
theorem bd3_tm (hp:∀ i,ok i->B<=p i) {t:Nat->Option (α₁×α₂×α₃)} {φ:α₁×α₂×α₃->Prop} (h:Tm (λk=>B<=k) t φ) {G:ι->α₁->α₂->α₃->Option α} (hG:∀ z0 z1 z2,φ (z0,z1,z2)->Tm ok (λi=>G i z0 z1 z2) ψ):Tm ok (λi=>bd3 (t (p i)) (G i)) ψ:=by
 obtain⟨⟨z0,z1,z2⟩,h1,h2⟩:=h
 exact(hG z0 z1 z2 h1).congr λi hi=>by rw[h2 (p i) (hp i hi)];rfl
theorem bd4_tm (hp:∀ i,ok i->B<=p i) {t:Nat->Option (α₁×α₂×α₃×α₄)} {φ:α₁×α₂×α₃×α₄->Prop} (h:Tm (λk=>B<=k) t φ) {G:ι->α₁->α₂->α₃->α₄->Option α} (hG:∀ z0 z1 z2 z3,φ (z0,z1,z2,z3)->Tm ok (λi=>G i z0 z1 z2 z3) ψ):Tm ok (λi=>bd4 (t (p i)) (G i)) ψ:=by
 obtain⟨⟨z0,z1,z2,z3⟩,h1,h2⟩:=h
 exact(hG z0 z1 z2 z3 h1).congr λi hi=>by rw[h2 (p i) (hp i hi)];rfl
theorem bd5_tm (hp:∀ i,ok i->B<=p i) {t:Nat->Option (α₁×α₂×α₃×α₄×α₅)} {φ:α₁×α₂×α₃×α₄×α₅->Prop} (h:Tm (λk=>B<=k) t φ) {G:ι->α₁->α₂->α₃->α₄->α₅->Option α} (hG:∀ z0 z1 z2 z3 z4,φ (z0,z1,z2,z3,z4)->Tm ok (λi=>G i z0 z1 z2 z3 z4) ψ):Tm ok (λi=>bd5 (t (p i)) (G i)) ψ:=by
 obtain⟨⟨z0,z1,z2,z3,z4⟩,h1,h2⟩:=h
 exact(hG z0 z1 z2 z3 z4 h1).congr λi hi=>by rw[h2 (p i) (hp i hi)];rfl
end
end Go.T
