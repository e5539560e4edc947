/- Operations that make,move or freeze objects. -/
import Derived.Test.YtlobhlnahhjpjaaGreatTUpd
set_option linter.unusedVariables false
set_option linter.unusedSimpArgs false
namespace Go.T
theorem Zao:∀ (l:List (Nat×Obj)) (ob:List Obj) (id:Nat),(∀ p∈l,p.1≠id)->(ZG ob l)[id]? = ob[id]?
 |[],_,_,_=>rfl
 |p::l,ob,id,h=>by
  show(ZG (ob.set p.1 p.2) l)[id]? = _
  rw[Zao l _ id (λq hq=>h q (by simp[hq])),List.getElem?_set_ne (h p (by simp))]
theorem Zx:∀ (l:List (Nat×Obj)) (ob:List Obj),(ZG ob l).length=ob.length
 |[],_=>rfl
 |p::l,ob=>by show(ZG (ob.set p.1 p.2) l).length=_;rw[Zx l];simp
theorem ZbJ:∀ (l:List (Nat×Obj)) (ob:List Obj) (id:Nat),(∃ p∈l,p.1=id)->id<ob.length->∃ o,(id,o)∈l/\(ZG ob l)[id]? = some o
 |[],_,_,h,_=>by obtain⟨p,hp,_⟩:=h;cases hp
 |p::l,ob,id,h,hl=>by
  show ∃ o,(id,o)∈p::l/\(ZG (ob.set p.1 p.2) l)[id]? = some o
  by_cases hin:∃ q∈l,q.1=id
  ·obtain⟨o,h1,h2⟩:=ZbJ l (ob.set p.1 p.2) id hin (by simpa using hl)
   exact⟨o,by simp[h1],h2⟩
  ·obtain⟨q,hq,he⟩:=h
   rcases List.mem_cons.mp hq with rfl|hq
   ·refine⟨q.2,by rw[<- he];simp,?_⟩
    rw[Zao l _ id (λr hr e=>hin ⟨r,hr,e⟩),<- he]
    simp[he,hl]
   ·exact absurd ⟨q,hq,he⟩ hin
theorem ZbP:∀ (os:List Obj) (ob:List Obj) (n id:Nat),(id<n\/n+os.length<=id)->(Zbm ob n os)[id]? = ob[id]?
 |[],_,_,_,_=>rfl
 |o::os,ob,n,id,h=>by
  show(Zbm (ob.set n o) (n+1) os)[id]? = _
  simp at h
  rw[ZbP os _ (n+1) id (by omega),List.getElem?_set_ne (by omega)]
theorem setNews_hit:∀ (os:List Obj) (ob:List Obj) (n j:Nat),j<os.length->n+j<ob.length->(Zbm ob n os)[n+j]? = os[j]?
 |[],_,_,j,h,_=>by simp at h
 |o::os,ob,n,j,h,hl=>by
  show(Zbm (ob.set n o) (n+1) os)[n+j]? = _
  cases j with
  |zero=>
   rw[ZbP os _ (n+1) (n+0) (by omega)]
   simp at hl⊢
   simp[hl]
  |succ j=>
   have:=setNews_hit os (ob.set n o) (n+1) j (by simpa using h) (by simp;omega)
   rw[show n+(j+1)=n+1+j from by omega,this]
   simp
theorem Zbi (l:List (Nat×Obj)):∀ (t:T),Zw l t=t/\(∀ id j off,t=.sub id j off->∀ p∈l,p.1≠id)\/Zw l t=.any:=by
 induction l with
 |nil=>intro t;exact .inl ⟨rfl,λ_ _ _ _ p hp=>by cases hp⟩
 |cons p l ih=>
  intro t
  show(Zw l (ZX p.1 t)=t/\_)\/Zw l (ZX p.1 t)=.any
  have hany:Zw l .any=.any:=by
   rcases ih .any with⟨h,_⟩|h<;>exact h
  cases t with
  |sub id j off=>
   simp only[ZX]
   split
   ·exact .inr hany
   ·rename_i hne
    rcases ih (.sub id j off) with⟨h,h2⟩|h
    ·refine .inl ⟨h,λid' j' off' e q hq=>?_⟩
     rcases List.mem_cons.mp hq with rfl|hq
     ·injection e with e1 _ _;rw[<- e1];exact λe=>hne e.symm
     ·exact h2 id' j' off' e q hq
    ·exact .inr h
  |_=>
   simp only[ZX]
   rcases ih _ with⟨h,h2⟩|h
   ·exact .inl ⟨h,λ_ _ _ e=>by cases e⟩
   ·exact .inr h
def Eff.U (e:Eff) (n:Nat) (id:Nat):Prop:=(∃ p∈e.chg,p.1=id)\/(n<=id/\id<n+e.news.length)
theorem OpOk.make' {P:Program} {X:Fix} {w0:World} {o:Oper} {st:St} {e:Eff} (hchg:∀ p∈e.chg,p.1<st.ob.length)
  (h:∀ (stL:St) (g:G) (a:Act) (w:World),Rel P X w g stL a->Zac X w0 w->(∀ x∈o.op.operands.toList,Zb X w g (st.ev x) (a.eval x))->ZW g stL st (Za9 o st)->
   (∀ j,j<e.news.length->¬ g.B (st.ob.length+j))->
   ∃ v w' g',(∀ (K:Act->World->Prop) (Q:Exit->Act->World->Prop),K (a.put o.dst v) w'->o.wp P a w K Q)/\Turn X w w' g g' (e.U st.ob.length)/\
    (∀ id,g'.B id↔g.B id\/(st.ob.length<=id/\id<st.ob.length+e.news.length))/\
    (∀ p∈e.chg,g.B p.1->Zn P X w' g' p.1 p.2)/\
    (∀ j ob,e.news[j]? = some ob->Zn P X w' g' (st.ob.length+j) ob)/\
    Zb X w' g' e.t v):
  OpOk P X w0 o st e:=by
 intro stL g a w hr hs ha hl hn K Q hK
 obtain⟨v,w',g',hrun,hx,hB,hch,hnw,hT⟩:=h stL g a w hr hs (λx hx=>OpOk.args hr (ha x hx)) hl (λj hj=>(hn j hj).2)
 refine hrun K Q (hK g' w' _ (Rel.put ?_ o.dst hT) (hx.since hr.sep hs) hB)
 have hlen:∀ j,j<e.news.length->st.ob.length+j<stL.ob.length:=λj hj=>(List.getElem?_eq_some_iff.mp (hn j hj).1).1
 refine Rel.update (e.U st.ob.length) hr hs hx rfl ⟨by simp[hr.tms.1],?_⟩ ?_ ?_
 ·intro i t ht
  rw[List.getElem?_map] at ht
  obtain⟨t0,ht0,rfl⟩:=Option.map_eq_some_iff.mp ht
  obtain⟨v0,hv0,rv0⟩:=hr.tms.2 i t0 ht0
  rcases Zbi e.chg t0 with⟨hk,hsub⟩|hk
  ·refine .inr (.inr ⟨by rw[hk];exact ht0,rfl,λid j off e' hU=>?_⟩)
   rw[hk] at e'
   subst e'
   simp only[Zb] at rv0
   rcases hU with⟨p,hp,e⟩|⟨q1,q2⟩
   ·exact hsub id j off rfl p hp e
   ·exact(hn (id-st.ob.length) (by omega)).2 (by rw[show st.ob.length+(id-st.ob.length)=id from by omega];exact rv0.1)
  ·exact .inl ⟨hk,v0,hv0⟩
 ·intro id hU
  rw[ZbP _ _ _ _ (by
   rcases Nat.lt_or_ge id st.ob.length with q|q
   ·exact .inl q
   ·exact .inr (Nat.le_of_not_lt λq2=>hU (.inr ⟨q,q2⟩)))]
  exact Zao _ _ _ λp hp e=>hU (.inl ⟨p,hp,e⟩)
 ·intro id hU hb
  by_cases hn2:st.ob.length<=id/\id<st.ob.length+e.news.length
  ·obtain⟨j,rfl⟩:∃ j,id=st.ob.length+j:=⟨id-st.ob.length,by omega⟩
   have hj:j<e.news.length:=by omega
   refine⟨e.news[j],?_,hnw j _ (by simp[hj])⟩
   rw[setNews_hit _ _ _ _ hj (by rw[Zx];exact hlen j hj)]
   simp[hj]
  ·have hc:=hU.resolve_right hn2
   rw[ZbP _ _ _ _ (by omega)]
   have hb0:=((hB id).mp hb).resolve_right hn2
   obtain⟨o0,ho0,_⟩:=hr.obs id hb0
   obtain⟨o',hm,ho'⟩:=ZbJ e.chg stL.ob id hc (List.getElem?_eq_some_iff.mp ho0).1
   exact⟨o',ho',hch (id,o') hm hb0⟩
theorem OpOk.make {P:Program} {X:Fix} {w0:World} {o:Oper} {st:St} {e:Eff} (hchg:∀ p∈e.chg,p.1<st.ob.length)
  (h:∀ (stL:St) (g:G) (a:Act) (w:World),Rel P X w g stL a->Zac X w0 w->(∀ x∈o.op.operands.toList,Zb X w g (st.ev x) (a.eval x))->ZW g stL st (Za9 o st)->
   (∀ j,j<e.news.length->¬ g.B (st.ob.length+j))->
   ∃ v w' g',(execOp a.eval o).run P w=.ok (.value v) w'/\Turn X w w' g g' (e.U st.ob.length)/\
    (∀ id,g'.B id↔g.B id\/(st.ob.length<=id/\id<st.ob.length+e.news.length))/\
    (∀ p∈e.chg,g.B p.1->Zn P X w' g' p.1 p.2)/\
    (∀ j ob,e.news[j]? = some ob->Zn P X w' g' (st.ob.length+j) ob)/\
    Zb X w' g' e.t v):
  OpOk P X w0 o st e:=
 OpOk.make' hchg λstL g a w hr hs hR hl hn=>by
  obtain⟨v,w',g',hrun,rest⟩:=h stL g a w hr hs hR hl hn
  exact⟨v,w',g',λK Q hk=>wp_val hrun hk,rest⟩
theorem wp_skip {P:Program} {o:Oper} {a:Act} {w w':World} {K:Act->World->Prop} {Q:Exit->Act->World->Prop}
  (h:(execOp a.eval o).run P w=.ok .skip w') (hk:K (a.put o.dst undef) w'):o.wp P a w K Q:=by
 unfold Oper.wp
 rw[h]
 exact hk
end Go.T
