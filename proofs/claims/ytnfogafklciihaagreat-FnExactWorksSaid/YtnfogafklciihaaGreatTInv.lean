/- The evaluator and why it is right. -/
import Derived.Test.YtnfogafklciihaaGreatTRel
import Derived.Below
import Derived.ArgAppend
set_option linter.unusedVariables false
set_option linter.unusedSimpArgs false
namespace Go.T
def Zax (P:Program):Prop:=∀ ct:TypeId,Zs P ct≠0->(ZX P ct).length=Zs P ct
structure Fix where
 base:Nat
 lent:List Nat
 av:Nat->Option Value
 imm:Nat->Prop
 pre:Nat->Prop
structure G where
 I:Nat->Prop
 B:Nat->Prop
 fp:Nat->List Nat
 hv:Nat->Value
 sz:Nat->Nat
def Fix.new (X:Fix) (b:Nat):Prop:=X.base<=b\/X.pre b
def G.IM (X:Fix) (g:G) (fr:Bool) (b:Nat):Prop:=g.I b/\(fr=true->X.new b)
def Zcp:T->Bool
 |.sub _ _ _=>true
 |_=>false
mutual
def Zi (X:Fix) (w:World) (g:G):T->Value->Prop
 |.d fr x,v=>RdD w (g.IM X fr) x v
 |.nil,v=>∃ a,v=.slice a 0 0
 |.agg ts,v=>∃ cs:List Value,v=.agg cs.toArray/\Zo X w g ts cs
 |.tup ts,v=>∃ vs:List Value,v=.tuple vs.toArray/\Zo X w g ts vs
 |.row id,v=>g.B id/\v=g.hv id
 |.bp id off,v=>g.B id/\∃ b,g.hv id=.pointer (some ⟨b,0,none⟩)/\v=.pointer (some ⟨b,off,none⟩)
 |.ep id i off,v=>g.B id/\∃ b o len cap,g.hv id=.slice (some ⟨b,o,none⟩) len cap/\i<len/\v=.pointer (some ⟨b,o+(i*g.sz id+off),none⟩)
 |.ip fr cs,v=>∃ b off c e f,v=.pointer (some ⟨b,off,none⟩)/\g.IM X fr b/\w.heap[b]? = some (.cells c e f)/\Zt w (g.IM X fr) c off cs
 |.sub id i off,v=>g.B id/\∃ b o len cap c e f,g.hv id=.slice (some ⟨b,o,none⟩) len cap/\b∈g.fp id/\w.heap[b]? = some (.cells c e f)/\c[o+(i*g.sz id+off)]? = some v
 |.clo f caps,v=>∃ vs:List Value,v=.func (.func f) #[] vs.toArray/\Zo X w g caps vs
 |.undef,v=>v=Go.undef
 |.ub,v=>∃ b,v=.bool b
 |.any,_=>True
def Zo (X:Fix) (w:World) (g:G):List T->List Value->Prop
 |[],vs=>vs=[]
 |t::ts,vs=>∃ v vs',vs=v::vs'/\Zcp t=false/\Zi X w g t v/\Zo X w g ts vs'
end
def Zy (P:Program) (X:Fix) (w:World) (g:G) (id:Nat):Obj->Prop
 |.box og _ cs=>(∃ b c e,g.hv id=.pointer (some ⟨b,0,none⟩)/\g.fp id=[b]/\w.heap[b]? = some (.cells c e (0,0))/\Zo X w g cs c.toList)/\
   ∀ j,og=some j->X.av j=some (g.hv id)
 |.row og fr ct xs=>(OwC P w (g.IM X fr) (.own xs) ct (g.hv id) (g.fp id)/\g.sz id=Zs P ct)/\(fr=true->∀ b,b∈g.fp id->X.new b)/\∀ j,og=some j->X.av j=some (g.hv id)
 |.frz fr xs=>RdD w (g.IM X fr) (.sl xs) (g.hv id)/\g.fp id=[]
 |.fbx fr cs=>(∃ b c e f,g.hv id=.pointer (some ⟨b,0,none⟩)/\g.I b/\w.heap[b]? = some (.cells c e f)/\Zt w (g.IM X fr) c 0 cs)/\g.fp id=[]
 |.gone=>g.fp id=[]/\(g.hv id).oneCell'=true
structure Sep (X:Fix) (w:World) (g:G):Prop where
 nodup:∀ id,g.B id->(g.fp id).Nodup
 apart:∀ id id',g.B id->g.B id'->id≠id'->∀ b,b∈g.fp id->b∉g.fp id'
 mine:∀ id,g.B id->∀ b,b∈g.fp id->¬ g.I b/\b<w.heap.size/\(X.base<=b\/b∈X.lent)
 imm:∀ b,g.I b->b<w.heap.size
 old:∀ b,g.I b->X.imm b\/X.base<=b\/b∈X.lent
 keep:∀ b,X.imm b->g.I b
structure Zal (X:Fix) (w0 w:World):Prop where
 os:w.os=w0.os
 tape:w.tape=w0.tape
 output:w.output=w0.output
 size:w0.heap.size<=w.heap.size
 base:X.base<=w0.heap.size
 block:∀ b,b<X.base->b∉X.lent->w.heap[b]? = w0.heap[b]?
structure Ext (w w':World) (g g':G) (S:Nat->Prop):Prop where
 imp:∀ b,g.I b->g'.I b
 same:∀ b,b<w.heap.size->¬ S b->w'.heap[b]? = w.heap[b]?
 notS:∀ b,g.I b->¬ S b
 lt:∀ b,g.I b->b<w.heap.size
 B:∀ id,g.B id->g'.B id
 hv:∀ id,g.B id->g'.hv id=g.hv id
 sz:∀ id,g.B id->g'.sz id=g.sz id
theorem Ext.keeps {X:Fix} {w w':World} {g g':G} {S:Nat->Prop} (h:Ext w w' g g' S) (fr:Bool):Keeps w w' (g.IM X fr) (g'.IM X fr):=
 ⟨λb hb=>⟨h.imp b hb.1,hb.2⟩,λb hb=>h.same b (h.lt b hb.1) (h.notS b hb.1)⟩
mutual
theorem Zi.mono {X:Fix} {w w':World} {g g':G} {S:Nat->Prop} (h:Ext w w' g g' S):∀ {t:T} {v:Value},(∀ id i off,t=.sub id i off->(∀ b,b∈g.fp id->b∈g'.fp id/\b<w.heap.size/\¬ S b))->Zi X w g t v->Zi X w' g' t v
 |.d fr x,v,_,r=>by simp only[Zi] at r⊢;exact RdD.mono (h.keeps fr) r
 |.nil,_,_,r=>by simp only[Zi] at r⊢;exact r
 |.agg ts,v,_,r=>by
  simp only[Zi] at r⊢;obtain⟨cs,hv,r⟩:=r;exact⟨cs,hv,Zo.mono h r⟩
 |.tup ts,v,_,r=>by
  simp only[Zi] at r⊢;obtain⟨cs,hv,r⟩:=r;exact⟨cs,hv,Zo.mono h r⟩
 |.row id,v,_,r=>by simp only[Zi] at r⊢;exact⟨h.B id r.1,by rw[h.hv id r.1];exact r.2⟩
 |.bp id off,v,_,r=>by
  simp only[Zi] at r⊢;obtain⟨hB,b,hb,hv⟩:=r;exact⟨h.B id hB,b,by rw[h.hv id hB];exact hb,hv⟩
 |.ep id i off,v,_,r=>by
  simp only[Zi] at r⊢;obtain⟨hB,b,o,len,cap,hb,hi,hv⟩:=r;exact⟨h.B id hB,b,o,len,cap,by rw[h.hv id hB];exact hb,hi,by rw[h.sz id hB];exact hv⟩
 |.ip fr cs,v,_,r=>by
  simp only[Zi] at r⊢;obtain⟨b,off,c,e,f,hv,hI,hb,r⟩:=r;exact⟨b,off,c,e,f,hv,(h.keeps fr).imp b hI,by rw[(h.keeps fr).same b hI];exact hb,Zt.mono (h.keeps fr) r⟩
 |.sub id i off,v,hsub,r=>by
  simp only[Zi] at r⊢;obtain⟨hB,b,o,len,cap,c,e,f,hh,hfp,hb,hc⟩:=r;obtain⟨h1,h2,h3⟩:=hsub id i off rfl b hfp;exact⟨h.B id hB,b,o,len,cap,c,e,f,by rw[h.hv id hB];exact hh,h1,by rw[h.same b h2 h3];exact hb,by rw[h.sz id hB];exact hc⟩
 |.clo f caps,v,_,r=>by
  simp only[Zi] at r⊢;obtain⟨vs,hv,r⟩:=r;exact⟨vs,hv,Zo.mono h r⟩
 |.undef,_,_,r=>by simp only[Zi] at r⊢;exact r
 |.ub,_,_,r=>by simp only[Zi] at r⊢;exact r
 |.any,_,_,_=>by simp only[Zi]
theorem Zo.mono {X:Fix} {w w':World} {g g':G} {S:Nat->Prop} (h:Ext w w' g g' S):∀ {ts:List T} {vs:List Value},Zo X w g ts vs->Zo X w' g' ts vs
 |[],_,r=>by simp only[Zo] at r⊢;exact r
 |t::ts,vs,r=>by
  simp only[Zo] at r⊢;obtain⟨v,vs',hv,hs,r1,r2⟩:=r;refine⟨v,vs',hv,hs,Zi.mono h ?_ r1,Zo.mono h r2⟩
  intro id i off e;rw[e] at hs;simp[Zcp] at hs
end
theorem Zo.length {X:Fix} {w:World} {g:G}:∀ {ts:List T} {vs:List Value},Zo X w g ts vs->vs.length=ts.length
 |[],_,r=>by simp only[Zo] at r;simp[r]
 |t::ts,vs,r=>by
  simp only[Zo] at r;obtain⟨v,vs',rfl,_,_,r2⟩:=r;simp[Zo.length r2]
theorem Zo.get {X:Fix} {w:World} {g:G}:∀ {ts:List T} {vs:List Value},Zo X w g ts vs->∀ {i:Nat} {t:T},ts[i]? = some t->Zcp t=false/\∃ v,vs[i]? = some v/\Zi X w g t v
 |[],_,r,i,t,h=>by simp at h
 |t::ts,vs,r,i,t',h=>by
  simp only[Zo] at r;obtain⟨v,vs',rfl,h1,r1,r2⟩:=r;cases i with
  |zero=>simp at h;subst h;exact⟨h1,v,by simp,r1⟩
  |succ i=>simpa using Zo.get r2 (by simpa using h)
theorem Zo.mk {X:Fix} {w:World} {g:G}:∀ {ts:List T} {vs:List Value},vs.length=ts.length->(∀ (i:Nat) (t:T),ts[i]? = some t->Zcp t=false/\∃ v,vs[i]? = some v/\Zi X w g t v)->Zo X w g ts vs
 |[],vs,hl,_=>by simp only[Zo];simpa using hl
 |t::ts,[],hl,_=>by simp at hl
 |t::ts,v::vs,hl,h=>by
  simp only[Zo]
  obtain⟨h1,v',hv,r⟩:=h 0 t Sp;simp at hv;subst hv;exact⟨v,vs,rfl,h1,r,Zo.mk (by simpa using hl) λi t ht=>by simpa using h (i+1) t (by simpa using ht)⟩
def RelS (X:Fix) (w:World) (g:G) (ts:List T) (vs:Array Value):Prop:=
 vs.size=ts.length/\∀ (i:Nat) (t:T),ts[i]? = some t->∃ v,vs[i]? = some v/\Zi X w g t v
structure Rel (P:Program) (X:Fix) (w:World) (g:G) (st:St) (a:Act):Prop where
 tms:RelS X w g st.tm a.tmps
 obs:∀ id,g.B id->∃ o,st.ob[id]? = some o/\Zy P X w g id o
 sep:Sep X w g
 def_:a.defers=[]
theorem Rel.put {P:Program} {X:Fix} {w:World} {g:G} {st:St} {a:Act} (h:Rel P X w g st a) (dst:Option Nat) {t:T} {v:Value} (r:Zi X w g t v):
  Rel P X w g (st.put dst t) (a.put dst v):=by
 cases dst with
 |none=>exact h
 |some d=>
  refine⟨⟨by simp[St.put,Act.put,h.tms.1],?_⟩,h.obs,h.sep,h.def_⟩
  intro i t' ht;simp only[St.put,List.getElem?_set] at ht;simp only[Act.put,Array.getElem?_setIfInBounds]
  by_cases hd:d=i
  ·subst hd;by_cases hl:d<st.tm.length
   ·simp[hl] at ht;subst ht;exact⟨v,by simp[h.tms.1,hl],r⟩
   ·simp[hl] at ht
  ·simp only[hd,if_false] at ht⊢;exact h.tms.2 i t' ht
theorem Zi.const {X:Fix} {w:World} {g:G} (v:Value):Zi X w g (constT v) v:=by
 unfold constT;split<;>simp[Zi,RdD]
theorem Rel.ev {P:Program} {X:Fix} {w:World} {g:G} {st:St} {a:Act} (h:Rel P X w g st a) (x:Operand):Zi X w g (st.ev x) (a.eval x):=by
 cases x with
 |tmp t=>
  simp only[St.ev,Act.eval]
  cases ht:st.tm[t]? with
  |none=>simp[List.getD,ht,Zi]
  |some u=>
   obtain⟨v,hv,r⟩:=h.tms.2 t u ht;simp only[List.getD,ht,Option.getD_some]
   rw[Array.getD_eq_getD_getElem?,hv];exact r
 |const v=>exact Zi.const v
 |global g'=>simp[St.ev,Zi]
 |func f=>simp only[St.ev,Act.eval,Zi];exact⟨[],rfl,by simp[Zo]⟩
end Go.T
