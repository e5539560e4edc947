/- How the evaluator's abstract data stand to the machine's memory. -/
import Derived.Test.YtlobhlnahhjpjaaGreatTDen
namespace Go.T
mutual
def RdD (w:World) (I:Nat->Prop):D->Value->Prop
 |.bool b,v=>v=.bool b
 |.int k n,v=>v=.int k n
 |.str s,v=>v=.string s
 |.sl xs,v=>∃ a len cap,v=.slice a len cap/\len=xs.length/\len<=cap/\
   (xs=[]\/∃ b off c e fr sz,a=some ⟨b,off,none⟩/\I b/\w.heap[b]? = some (.cells c e fr)/\0<sz/\ZC w I c sz off xs)
 |.fn f caps,v=>∃ vs:List Value,v=.func (.func f) #[] vs.toArray/\Zay w I caps vs
 |.un,v=>∃ a len cap,v=.slice a len cap
def Zi (w:World) (I:Nat->Prop) (c:Array Value):Nat->List D->Prop
 |_,[]=>True
 |p,d::ds=>(∃ v,c[p]? = some v/\RdD w I d v)/\Zi w I c (p+1) ds
def ZC (w:World) (I:Nat->Prop) (c:Array Value) (sz:Nat):Nat->List (List D)->Prop
 |_,[]=>True
 |p,x::xs=>(x.length=sz/\Zi w I c p x)/\ZC w I c sz (p+sz) xs
def Zay (w:World) (I:Nat->Prop):List (List D)->List Value->Prop
 |[],vs=>vs=[]
 |x::xs,vs=>∃ b off c e fr vs',vs=.pointer (some ⟨b,off,none⟩)::vs'/\I b/\w.heap[b]? = some (.cells c e fr)/\Zi w I c off x/\Zay w I xs vs'
end
mutual
def OwC (P:Program) (w:World) (I:Nat->Prop):C->TypeId->Value->List Nat->Prop
 |.d x,_,v,F=>F=[]/\RdD w I x v
 |.own xs,ct,v,F=>∃ a cap,v=.slice a xs.length cap/\
   ((xs=[]/\cap=0/\F=[])\/
    ∃ b o c e F',a=some ⟨b,o,none⟩/\(cutTy ct=false->o=0)/\F=b::F'/\w.heap[b]? = some (.cells c e (0,0))/\0<Zl P ct/\c.size=o+cap*Zl P ct/\xs.length<=cap/\
     Ze P w I c (ZQ P ct) (Zl P ct) xs o F')
def Za (P:Program) (w:World) (I:Nat->Prop) (c:Array Value):List C->List TypeId->Nat->List Nat->Prop
 |[],cts,_,F=>F=[]/\cts=[]
 |x::xs,cts,p,F=>∃ ct cts' v F1 F2,cts=ct::cts'/\F=F1++F2/\c[p]? = some v/\OwC P w I x ct v F1/\Za P w I c xs cts' (p+1) F2
def Ze (P:Program) (w:World) (I:Nat->Prop) (c:Array Value) (cts:List TypeId) (sz:Nat):List (List C)->Nat->List Nat->Prop
 |[],_,F=>F=[]
 |x::xs,p,F=>∃ F1 F2,F=F1++F2/\Za P w I c x cts p F1/\Ze P w I c cts sz xs (p+sz) F2
end
structure Keeps (w w':World) (I I':Nat->Prop):Prop where
 imp:∀ b,I b->I' b
 same:∀ b,I b->w'.heap[b]? = w.heap[b]?
theorem Keeps.refl (w:World) (I:Nat->Prop):Keeps w w I I:=⟨λ_ h=>h,λ_ _=>rfl⟩
mutual
theorem RdD.mono {w w':World} {I I':Nat->Prop} (h:Keeps w w' I I'):∀ {d:D} {v:Value},RdD w I d v->RdD w' I' d v
 |.bool _,_,r=>r
 |.int _ _,_,r=>r
 |.str _,_,r=>r
 |.sl xs,v,r=>by
  simp only[RdD] at r⊢
  obtain⟨a,len,cap,hv,hl,hc,r⟩:=r
  refine⟨a,len,cap,hv,hl,hc,?_⟩
  rcases r with r|⟨b,off,c,e,fr,sz,ha,hI,hb,hs,r⟩
  ·exact .inl r
  ·exact .inr ⟨b,off,c,e,fr,sz,ha,h.imp b hI,by rw[h.same b hI];exact hb,hs,ZC.mono h r⟩
 |.fn f caps,v,r=>by
  simp only[RdD] at r⊢
  obtain⟨vs,hv,r⟩:=r
  exact⟨vs,hv,Zay.mono h r⟩
 |.un,v,r=>by simp only[RdD] at r⊢;exact r
theorem Zi.mono {w w':World} {I I':Nat->Prop} (h:Keeps w w' I I') {c:Array Value}:∀ {ds:List D} {p:Nat},Zi w I c p ds->Zi w' I' c p ds
 |[],_,_=>by simp only[Zi]
 |d::ds,p,r=>by
  simp only[Zi] at r⊢
  obtain⟨⟨v,hv,r1⟩,r2⟩:=r
  exact⟨⟨v,hv,RdD.mono h r1⟩,Zi.mono h r2⟩
theorem ZC.mono {w w':World} {I I':Nat->Prop} (h:Keeps w w' I I') {c:Array Value} {sz:Nat}:∀ {xs:List (List D)} {p:Nat},ZC w I c sz p xs->ZC w' I' c sz p xs
 |[],_,_=>by simp only[ZC]
 |x::xs,p,r=>by
  simp only[ZC] at r⊢
  exact⟨⟨r.1.1,Zi.mono h r.1.2⟩,ZC.mono h r.2⟩
theorem Zay.mono {w w':World} {I I':Nat->Prop} (h:Keeps w w' I I'):∀ {xs:List (List D)} {vs:List Value},Zay w I xs vs->Zay w' I' xs vs
 |[],_,r=>by simp only[Zay] at r⊢;exact r
 |x::xs,vs,r=>by
  simp only[Zay] at r⊢
  obtain⟨b,off,c,e,fr,vs',hv,hI,hb,r1,r2⟩:=r
  exact⟨b,off,c,e,fr,vs',hv,h.imp b hI,by rw[h.same b hI];exact hb,Zi.mono h r1,Zay.mono h r2⟩
end
structure KeepsO (w w':World) (I I':Nat->Prop) (F:List Nat):Prop extends Keeps w w' I I' where
 own:∀ b,b∈F->w'.heap[b]? = w.heap[b]?
mutual
theorem OwC.mono {P:Program} {w w':World} {I I':Nat->Prop}:∀ {x:C} {ct:TypeId} {v:Value} {F:List Nat},KeepsO w w' I I' F->OwC P w I x ct v F->OwC P w' I' x ct v F
 |.d x,ct,v,F,h,r=>by
  simp only[OwC] at r⊢
  exact⟨r.1,RdD.mono h.toKeeps r.2⟩
 |.own xs,ct,v,F,h,r=>by
  simp only[OwC] at r⊢
  obtain⟨a,cap,hv,r⟩:=r
  refine⟨a,cap,hv,?_⟩
  rcases r with r|⟨b,o,c,e,F',ha,ho,hF,hb,h0,hs,hl,r⟩
  ·exact .inl r
  ·subst hF
   exact .inr ⟨b,o,c,e,F',ha,ho,rfl,by rw[h.own b (by simp)];exact hb,h0,hs,hl,Ze.mono ⟨h.toKeeps,λb hb=>h.own b (by simp[hb])⟩ r⟩
theorem Za.mono {P:Program} {w w':World} {I I':Nat->Prop} {c:Array Value}:∀ {xs:List C} {cts:List TypeId} {p:Nat} {F:List Nat},KeepsO w w' I I' F->Za P w I c xs cts p F->Za P w' I' c xs cts p F
 |[],_,_,_,_,r=>by simp only[Za] at r⊢;exact r
 |x::xs,cts,p,F,h,r=>by
  simp only[Za] at r⊢
  obtain⟨ct,cts',v,F1,F2,hc,hF,hv,r1,r2⟩:=r
  subst hF
  exact⟨ct,cts',v,F1,F2,hc,rfl,hv,OwC.mono ⟨h.toKeeps,λb hb=>h.own b (by simp[hb])⟩ r1,Za.mono ⟨h.toKeeps,λb hb=>h.own b (by simp[hb])⟩ r2⟩
theorem Ze.mono {P:Program} {w w':World} {I I':Nat->Prop} {c:Array Value} {cts:List TypeId} {sz:Nat}:∀ {xs:List (List C)} {p:Nat} {F:List Nat},KeepsO w w' I I' F->Ze P w I c cts sz xs p F->Ze P w' I' c cts sz xs p F
 |[],_,_,_,r=>by simp only[Ze] at r⊢;exact r
 |x::xs,p,F,h,r=>by
  simp only[Ze] at r⊢
  obtain⟨F1,F2,hF,r1,r2⟩:=r
  subst hF
  exact⟨F1,F2,rfl,Za.mono ⟨h.toKeeps,λb hb=>h.own b (by simp[hb])⟩ r1,Ze.mono ⟨h.toKeeps,λb hb=>h.own b (by simp[hb])⟩ r2⟩
end
theorem Za.length {P:Program} {w:World} {I:Nat->Prop} {c:Array Value}:∀ {xs:List C} {cts:List TypeId} {p:Nat} {F:List Nat},Za P w I c xs cts p F->xs.length=cts.length
 |[],_,_,_,r=>by simp only[Za] at r;simp[r.2]
 |x::xs,cts,p,F,r=>by
  simp only[Za] at r
  obtain⟨ct,cts',v,F1,F2,hc,hF,hv,r1,r2⟩:=r
  subst hc
  simp[Za.length r2]
theorem C.immRows_length:∀ (xs:List (List C)),(C.immRows xs).length=xs.length
 |[]=>rfl
 |x::xs=>by simp[C.immRows,C.immRows_length xs]
theorem C.immCells_length:∀ (xs:List C),(C.immCells xs).length=xs.length
 |[]=>rfl
 |x::xs=>by simp[C.immCells,C.immCells_length xs]
mutual
theorem OwC.imm {P:Program} {w:World} {I J:Nat->Prop} (hJ:∀ b,I b->J b):∀ {x:C} {ct:TypeId} {v:Value} {F:List Nat},(∀ b,b∈F->J b)->(∀ ct:TypeId,Zl P ct≠0->(ZQ P ct).length=Zl P ct)->OwC P w I x ct v F->RdD w J x.imm v
 |.d x,ct,v,F,hF,hT,r=>by
  simp only[OwC] at r
  simp only[C.imm]
  exact RdD.mono ⟨hJ,λ_ _=>rfl⟩ r.2
 |.own xs,ct,v,F,hF,hT,r=>by
  simp only[OwC] at r
  simp only[C.imm,RdD]
  obtain⟨a,cap,hv,r⟩:=r
  rcases r with⟨rfl,h0,_⟩|⟨b,o,c,e,F',ha,_,rfl,hb,h0,hs,hl,r⟩
  ·exact⟨a,0,cap,by simpa using hv,by simp[C.immRows],by simp,.inl (by simp[C.immRows])⟩
  ·refine⟨a,xs.length,cap,hv,by simp[C.immRows_length],hl,.inr ⟨b,o,c,e,(0,0),Zl P ct,ha,hF b (by simp),hb,h0,?_⟩⟩
   exact Ze.imm hJ (λb hb=>hF b (by simp[hb])) hT (hT ct (by omega)) r
theorem Za.imm {P:Program} {w:World} {I J:Nat->Prop} (hJ:∀ b,I b->J b) {c:Array Value}:∀ {xs:List C} {cts:List TypeId} {p:Nat} {F:List Nat},(∀ b,b∈F->J b)->(∀ ct:TypeId,Zl P ct≠0->(ZQ P ct).length=Zl P ct)->Za P w I c xs cts p F->Zi w J c p (C.immCells xs)
 |[],_,_,_,_,_,_=>by simp only[C.immCells,Zi]
 |x::xs,cts,p,F,hF,hT,r=>by
  simp only[Za] at r
  obtain⟨ct,cts',v,F1,F2,hc,rfl,hv,r1,r2⟩:=r
  simp only[C.immCells,Zi]
  exact⟨⟨v,hv,OwC.imm hJ (λb hb=>hF b (by simp[hb])) hT r1⟩,Za.imm hJ (λb hb=>hF b (by simp[hb])) hT r2⟩
theorem Ze.imm {P:Program} {w:World} {I J:Nat->Prop} (hJ:∀ b,I b->J b) {c:Array Value} {cts:List TypeId} {sz:Nat}:∀ {xs:List (List C)} {p:Nat} {F:List Nat},(∀ b,b∈F->J b)->(∀ ct:TypeId,Zl P ct≠0->(ZQ P ct).length=Zl P ct)->cts.length=sz->Ze P w I c cts sz xs p F->ZC w J c sz p (C.immRows xs)
 |[],_,_,_,_,_,_=>by simp only[C.immRows,ZC]
 |x::xs,p,F,hF,hT,hs,r=>by
  simp only[Ze] at r
  obtain⟨F1,F2,rfl,r1,r2⟩:=r
  simp only[C.immRows,ZC]
  exact⟨⟨by rw[C.immCells_length,Za.length r1,hs],Za.imm hJ (λb hb=>hF b (by simp[hb])) hT r1⟩,Ze.imm hJ (λb hb=>hF b (by simp[hb])) hT hs r2⟩
end
end Go.T
