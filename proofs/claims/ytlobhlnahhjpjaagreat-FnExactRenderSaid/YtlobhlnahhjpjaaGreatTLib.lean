/- Calls of library functions that take rows over and hand one back. -/
import Derived.Test.YtlobhlnahhjpjaaGreatTCall5
set_option linter.unusedVariables false
set_option linter.unusedSimpArgs false
namespace Go.T
theorem killSub_cases (id:Nat) (t:T):ZX id t=t/\(∀ j off,t≠.sub id j off)\/ZX id t=.any:=by
 cases t with
 |sub k j off=>
  simp only[ZX]
  split
  ·exact .inr rfl
  ·rename_i h
   exact .inl ⟨rfl,λ_ _ e=>h (by injection e)⟩
 |_=>exact .inl ⟨rfl,by simp⟩
def G.less (g:G) (id:Nat):G:={ g with fp:=λi=>if i=id then[] else g.fp i }
section
variable {P:Program} {X:Fix} {w0 w:World} {g:G} {st:St} {a:Act}
theorem G.less_ext (hsep:Sep X w g) (id:Nat):Ext w w g (g.less id) (λ_=>False):=
 ⟨λ_ h=>h,λ_ _ _=>rfl,λ_ _ h=>h,hsep.imm,λ_ h=>h,λ_ _=>rfl,λ_ _=>rfl⟩
theorem Rel.gone1 (hr:Rel P X w g st a) {id:Nat} {o:Obj} (ho:st.ob[id]? = some o) (hB:g.B id):Rel P X w (g.less id) (st.setOb id .gone) a:=by
 have ext:=G.less_ext hr.sep id
 have hfp:∀ i,i≠id->(g.less id).fp i=g.fp i:=λi hi=>by simp[G.less,hi]
 have hsub:∀ i,∀ b∈(g.less id).fp i,b∈g.fp i:=λi b hb=>by
  simp only[G.less] at hb
  split at hb
  ·cases hb
  ·exact hb
 refine⟨⟨by simp only[St.setOb,List.length_map];exact hr.tms.1,λi t ht=>?_⟩,λi hBi=>?_,⟨λi hBi=>?_,λi i' hBi hBi' hne b hb hb'=>?_,λi hBi b hb=>?_,hr.sep.imm,hr.sep.old,hr.sep.keep⟩,hr.def_⟩
 ·simp only[St.setOb] at ht
  rw[List.getElem?_map] at ht
  obtain⟨t0,ht0,rfl⟩:=Option.map_eq_some_iff.mp ht
  obtain⟨v,hv,rv⟩:=hr.tms.2 i t0 ht0
  rcases killSub_cases id t0 with⟨h,hn⟩|h
  ·rw[h]
   refine⟨v,hv,Zb.mono ext (λi' j off e b hb=>?_) rv⟩
   subst e
   simp only[Zb] at rv
   exact⟨by rw[hfp i' (λe=>hn j off (by rw[e]))];exact hb,(hr.sep.mine i' rv.1 b hb).2.1,λq=>q⟩
  ·rw[h];exact⟨v,hv,by simp[Zb]⟩
 ·obtain⟨o0,ho0,r0⟩:=hr.obs i hBi
  by_cases e:i=id
  ·subst e
   refine⟨.gone,?_,?_⟩
   ·simp only[St.setOb]
    rw[List.getElem?_set_self (List.getElem?_eq_some_iff.mp ho0).1]
   ·simp only[Zn]
    exact⟨by simp[G.less],(Zn.one r0:(g.hv i).oneCell'=true)⟩
  ·refine⟨o0,by rw[Za6 e];exact ho0,Zn.mono ext hBi (hfp i e) (λb hb=>⟨λq=>q,(hr.sep.mine i hBi b hb).2.1⟩) r0⟩
 ·by_cases e:i=id
  ·subst e;simp[G.less]
  ·rw[hfp i e];exact hr.sep.nodup i hBi
 ·exact hr.sep.apart i i' hBi hBi' hne b (hsub i b hb) (hsub i' b hb')
 ·exact hr.sep.mine i hBi b (hsub i b hb)
theorem Rel.gones:∀ {mv:List Nat} {g:G} {stL st:St} {l:List Nat},Rel P X w g stL a->mv.Nodup->(∀ id∈mv,id∈l)->(∀ id∈mv,(∃ o,st.ob[id]? = some o))->ZW g stL st l->
  ∃ g',Rel P X w g' (stL.gones mv) a/\g'.I=g.I/\(∀ id,g'.B id↔g.B id)/\(∀ id,id∉mv->g'.fp id=g.fp id)/\(∀ id∈mv,g'.fp id=[])/\Ext w w g g' (λ_=>False)/\ZW g' (stL.gones mv) (st.gones mv) l
 |[],g,stL,st,l,hr,_,_,_,hs=>⟨g,by rw[St.gones_nil];exact hr,rfl,λ_=>Iff.rfl,λ_ _=>rfl,by simp,⟨λ_ h=>h,λ_ _ _=>rfl,λ_ _ h=>h,hr.sep.imm,λ_ h=>h,λ_ _=>rfl,λ_ _=>rfl⟩,by rw[St.gones_nil,St.gones_nil];exact hs⟩
 |id::mv,g,stL,st,l,hr,hnd,hin,hex,hs=>by
  simp only[List.nodup_cons] at hnd
  obtain⟨o,ho⟩:=hex id (by simp)
  obtain⟨hoL,hB⟩:=hs id (hin id (by simp)) (by rw[ho];rfl)
  rw[ho] at hoL
  obtain⟨g',q1,q2,q3,q4,q5,q6,q7⟩:=Rel.gones (mv:=mv) (g:=g.less id) (stL:=stL.setOb id .gone) (st:=st.setOb id .gone) (l:=l) (hr.gone1 hoL hB) hnd.2 (λi hi=>hin i (by simp[hi])) (λi hi=>by
   obtain⟨o',ho'⟩:=hex i (by simp[hi])
   exact⟨o',by rw[Za6 (λe:i=id=>hnd.1 (e▸hi))];exact ho'⟩) (hs.set (g':=g.less id) (λ_ h=>h) (hin id (by simp)) .gone)
  refine⟨g',by rw[St.gones_cons];exact q1,q2,q3,λi hi=>?_,λi hi=>?_,⟨λb hb=>q6.imp b hb,λ_ _ _=>rfl,λ_ _ h=>h,hr.sep.imm,λi h=>q6.B i h,λi h=>q6.hv i h,λi h=>q6.sz i h⟩,by rw[St.gones_cons,St.gones_cons];exact q7⟩
  ·simp only[List.mem_cons,not_or] at hi
   rw[q4 i hi.2]
   simp[G.less,hi.1]
  ·by_cases him:i∈mv
   ·exact q5 i him
   ·rcases List.mem_cons.mp hi with rfl|hi
    ·rw[q4 i him];simp[G.less]
    ·exact absurd hi him
end
inductive LTaken (ct:TypeId) (s0 st1:St):List Bool->List T->List A->List Nat->Prop
 |done:LTaken ct s0 st1 [] [] [] []
 |row {bs:List Bool} {id:Nat} {og:Option Nat} {fr:Bool} {xs:List (List C)} {ts:List T} {as:List A} {mv:List Nat} (h:s0.ob[id]? = some (.row og fr ct xs)) (r:LTaken ct s0 st1 bs ts as mv):
   LTaken ct s0 st1 (true::bs) (.row id::ts) (.own false [.own xs]::as) (id::mv)
 |nil {bs:List Bool} {ts:List T} {as:List A} {mv:List Nat} (r:LTaken ct s0 st1 bs ts as mv):LTaken ct s0 st1 (true::bs) (.nil::ts) (.own false [.own []]::as) mv
 |imm {bs:List Bool} {t:T} {ts:List T} {a:A} {as:List A} {mv:List Nat} (h:argD false st1 t=some a) (r:LTaken ct s0 st1 bs ts as mv):LTaken ct s0 st1 (false::bs) (t::ts) (a::as) mv
theorem Zcd {ct:TypeId} {s0 st1:St}:∀ {bs:List Bool} {ts:List T} {as:List A},Zaf ct s0 st1 bs ts=some as->LTaken ct s0 st1 bs ts as (libMv bs ts)
 |[],[],as,h=>by
  simp only[Zaf] at h
  injection h with h;subst h
  exact .done
 |true::bs,.row id::ts,as,h=>by
  simp only[Zaf] at h
  split at h
  case h_2=>cases h
  rename_i ho
  split at h
  case isFalse=>cases h
  rename_i hc
  subst hc
  split at h
  case h_2=>cases h
  rename_i h1
  injection h with h;subst h
  exact .row ho (Zcd h1)
 |true::bs,.nil::ts,as,h=>by
  simp only[Zaf] at h
  split at h
  case h_2=>cases h
  rename_i h1
  injection h with h;subst h
  exact .nil (Zcd h1)
 |false::bs,t::ts,as,h=>by
  simp only[Zaf] at h
  split at h
  case h_2=>cases h
  rename_i h0
  split at h
  case h_2=>cases h
  rename_i h1
  injection h with h;subst h
  have:libMv (false::bs) (t::ts)=libMv bs ts:=by cases t<;>rfl
  rw[this]
  exact .imm h0 (Zcd h1)
 |[],_::_,_,h=>by simp[Zaf] at h
 |true::_,[],_,h=>by simp[Zaf] at h
 |false::_,[],_,h=>by simp[Zaf] at h
 |true::_,.d _ _::_,_,h=>by simp[Zaf] at h
 |true::_,.agg _::_,_,h=>by simp[Zaf] at h
 |true::_,.tup _::_,_,h=>by simp[Zaf] at h
 |true::_,.bp _ _::_,_,h=>by simp[Zaf] at h
 |true::_,.ep _ _ _::_,_,h=>by simp[Zaf] at h
 |true::_,.ip _ _::_,_,h=>by simp[Zaf] at h
 |true::_,.sub _ _ _::_,_,h=>by simp[Zaf] at h
 |true::_,.clo _ _::_,_,h=>by simp[Zaf] at h
 |true::_,.undef::_,_,h=>by simp[Zaf] at h
 |true::_,.ub::_,_,h=>by simp[Zaf] at h
 |true::_,.any::_,_,h=>by simp[Zaf] at h
theorem LTaken.rows {ct:TypeId} {s0 st1:St} {bs:List Bool} {ts:List T} {as:List A} {mv:List Nat} (h:LTaken ct s0 st1 bs ts as mv):∀ id∈mv,(∃ og fr xs,s0.ob[id]? = some (.row og fr ct xs))/\.row id∈ts:=by
 induction h with
 |done=>simp
 |row h r ih=>
  intro i hi
  rcases List.mem_cons.mp hi with rfl|hi
  ·exact⟨⟨_,_,_,h⟩,by simp⟩
  ·exact⟨(ih i hi).1,by simp[(ih i hi).2]⟩
 |nil r ih=>intro i hi;exact⟨(ih i hi).1,by simp[(ih i hi).2]⟩
 |imm h r ih=>intro i hi;exact⟨(ih i hi).1,by simp[(ih i hi).2]⟩
theorem libFr_all {st:St}:∀ {mv:List Nat},libFr st mv=true->∀ id∈mv,∀ og fr ct xs,st.ob[id]? = some (.row og fr ct xs)->fr=true
 |[],_,id,hid,_,_,_,_,_=>by cases hid
 |i::mv,h,id,hid,og,fr,ct,xs,ho=>by
  simp only[libFr] at h
  split at h
  case h_2=>cases h
  rename_i f0 _ _ h0
  simp only[Bool.and_eq_true] at h
  rcases List.mem_cons.mp hid with rfl|hid
  ·rw[h0] at ho
   injection ho with ho;injection ho with _ e _ _
   exact e▸h.1
  ·exact libFr_all h.2 id hid og fr ct xs ho
section
variable {P:Program} {X:Fix} {w0 w:World} {a:Act}
theorem LTaken.sound (hT:Zar P) {g g1:G} {stL stL1 s0 st1:St} {J I:Nat->Prop} (hr:Rel P X w g stL a) (hr1:Rel P X w g1 stL1 a) (hJ:∀ b,g1.I b->I b) (hall:∀ id,g1.B id->∀ b∈g1.fp id,I b) {ct:TypeId} {bs:List Bool} {ts:List T} {as:List A} {mv:List Nat} (h:LTaken ct s0 st1 bs ts as mv):
  ∀ {vs:List Value},(∀ t∈ts,ZW g1 stL1 st1 (ZE st1 t))->(∀ id∈mv,ZW g stL s0 [id])->(∀ id∈mv,∀ og fr ct xs,s0.ob[id]? = some (.row og fr ct xs)->∀ b,g.IM X fr b->J b)->(ts.length=vs.length)->(∀ (i:Nat) (t:T) (v:Value),ts[i]? = some t->vs[i]? = some v->Zb X w g t v/\(Zb4 t=false->Zb X w g1 t v))->
   LArgs P w I J ct bs as vs (mv.flatMap g.fp):=by
 induction h with
 |done=>
  intro vs _ _ _ hl _
  cases vs with
  |nil=>simp[LArgs]
  |cons _ _=>simp at hl
 |@row bs id og fr xs ts as mv h r ih=>
  intro vs hs hsg hj hl hv
  cases vs with
  |nil=>simp at hl
  |cons v vs=>
   simp only[LArgs]
   obtain⟨_,hB,⟨row,_⟩,_⟩:=(hsg id (by simp)).obj hr (by simp) h
   have rv:=(hv 0 (.row id) v rfl rfl).1
   simp only[Zb] at rv
   refine⟨v,vs,g.fp id,_,rfl,by simp,?_,ih (λt ht=>hs t (by simp[ht])) (λi hi=>hsg i (by simp[hi])) (λi hi=>hj i (by simp[hi])) (by simpa using hl) (λi t u ht hu=>hv (i+1) t u (by simpa using ht) (by simpa using hu))⟩
   rw[rv.2]
   exact OwC.weaken (hj id (by simp) og fr ct xs h) row
 |@nil bs ts as mv r ih=>
  intro vs hs hsg hj hl hv
  cases vs with
  |nil=>simp at hl
  |cons v vs=>
   simp only[LArgs]
   have rv:=(hv 0 .nil v rfl rfl).1
   simp only[Zb] at rv
   obtain⟨ad,rfl⟩:=rv
   refine⟨_,vs,[],_,rfl,by simp,?_,ih (λt ht=>hs t (by simp[ht])) hsg hj (by simpa using hl) (λi t u ht hu=>hv (i+1) t u (by simpa using ht) (by simpa using hu))⟩
   simp only[OwC]
   exact⟨ad,0,rfl,.inl (by simp)⟩
 |@imm bs t ts x as mv h r ih=>
  intro vs hs hsg hj hl hv
  cases vs with
  |nil=>simp at hl
  |cons v vs=>
   have hx:LArgs P w I J ct (false::bs) (x::as) (v::vs) (mv.flatMap g.fp)↔∃ v' vs',v::vs=v'::vs'/\ZJ P w I (λ_=>True) x (.imm,0) v' []/\LArgs P w I J ct bs as vs' (mv.flatMap g.fp):=by
    simp only[LArgs]
   rw[hx]
   have hns:Zb4 t=false:=by
    cases t<;>first|rfl|(simp[argD,cellD] at h)
   exact⟨v,vs,rfl,argD_J hT hr1 ⟨hJ,λ_=>hall⟩ h (hs t (by simp)) ((hv 0 t v rfl rfl).2 hns),ih (λt ht=>hs t (by simp[ht])) hsg hj (by simpa using hl) (λi t u ht hu=>hv (i+1) t u (by simpa using ht) (by simpa using hu))⟩
end
theorem OpOk.callOne {P:Program} {X:Fix} {w0:World} {o:Oper} {st:St} {mv:List Nat} {t:T} {ob:Obj} (hmv:∀ id∈mv,id<st.ob.length)
  (h:∀ (stL:St) (g:G) (a:Act) (w:World),Rel P X w g stL a->Zac X w0 w->(∀ x∈o.op.operands.toList,Zb X w g (st.ev x) (a.eval x))->ZW g stL st (Za9 o st)->¬ g.B st.ob.length->
   ∃ f vs,(execOp a.eval o).run P w=.ok (.enter f vs) w/\(∀ id∈mv,g.B id)/\Calls P f vs w λex w'=>∃ v F hdr z,ex=.returned v/\w.heap.size<=w'.heap.size/\w'.os=w.os/\w'.tape=w.tape/\w'.output=w.output/\
    (∀ b,b<w.heap.size->b∉mv.flatMap g.fp->w'.heap[b]? = w.heap[b]?)/\F.Nodup/\(∀ b∈F,b<w'.heap.size/\(b<w.heap.size->b∈mv.flatMap g.fp))/\
    Zn P X w' (g.one mv st.ob.length F hdr z) st.ob.length ob/\Zb X w' (g.one mv st.ob.length F hdr z) t v):
  OpOk P X w0 o st ⟨t,mv.map (·,.gone),[ob]⟩:=by
 intro stL g a w hr hs ha hl hn K Q hK
 have hn0:¬ g.B st.ob.length:=by simpa using(hn 0 (by simp)).2
 obtain⟨f,vs,hexec,hmB,hcall⟩:=h stL g a w hr hs (λx hx=>OpOk.args hr (ha x hx)) hl hn0
 unfold Oper.wp
 rw[hexec,Oper.upon_enter]
 refine Calls.mono hcall ?_
 rintro ex w' ⟨v,F,hdr,z,rfl,hsz,hos,htp,hou,hkeep,hnd,hF,hobj,hT⟩
 have hU:∀ id,Eff.U ⟨t,mv.map (·,.gone),[ob]⟩ st.ob.length id↔id∈mv\/id=st.ob.length:=by
  intro id
  simp only[Eff.U,List.mem_map,List.length_singleton]
  constructor
  ·rintro(⟨p,⟨q,hq,rfl⟩,rfl⟩|h)
   ·exact .inl hq
   ·exact .inr (by omega)
  ·rintro(h|h)
   ·exact .inl ⟨(id,.gone),⟨id,h,rfl⟩,rfl⟩
   ·exact .inr (by omega)
 have hpool:∀ b,Pool g (Eff.U ⟨t,mv.map (·,.gone),[ob]⟩ st.ob.length) b↔b∈mv.flatMap g.fp:=by
  intro b
  rw[List.mem_flatMap]
  constructor
  ·rintro⟨id,hu,hB,hb⟩
   rcases(hU id).mp hu with q|rfl
   ·exact⟨id,q,hb⟩
   ·exact absurd hB hn0
  ·rintro⟨id,q,hb⟩
   exact⟨id,(hU id).mpr (.inl q),hmB id q,hb⟩
 have hmn:∀ id∈mv,id≠st.ob.length:=λid q e=>absurd (hmB id q) (e▸hn0)
 have hlt:∀ b,b∈mv.flatMap g.fp->¬ g.I b:=by
  intro b hb
  obtain⟨id,q,hb⟩:=List.mem_flatMap.mp hb
  exact(hr.sep.mine id (hmB id q) b hb).1
 have turn:Turn X w w' g (g.one mv st.ob.length F hdr z) (Eff.U ⟨t,mv.map (·,.gone),[ob]⟩ st.ob.length):=by
  refine⟨hsz,hos,htp,hou,λb hb hp=>hkeep b hb (λq=>hp ((hpool b).mpr q)),λb hb=>hb,λid hB=>.inl hB,?_,?_,?_,?_,?_,?_⟩
  ·intro id hB;simp only[G.one];rw[if_neg (show ¬ id=st.ob.length from λe=>hn0 (e▸hB))]
  ·intro id hB;simp only[G.one];rw[if_neg (show ¬ id=st.ob.length from λe=>hn0 (e▸hB))]
  ·intro id hu
   rw[hU] at hu
   refine⟨λhB=>hB.resolve_right λe=>hu (.inr e),λhB=>?_⟩
   simp only[G.one]
   rw[if_neg (λe=>hu (.inr e)),if_neg (λe=>hu (.inl e))]
  ·intro id hu hB
   simp only[G.one]
   by_cases hid:id=st.ob.length
   ·rw[if_pos hid]
    refine⟨hnd,λb hb=>⟨λhI=>?_,(hF b hb).1,λhlt'=>(hpool b).mpr ((hF b hb).2 hlt')⟩⟩
    have:=hr.sep.imm b hI
    exact hlt b ((hF b hb).2 this) hI
   ·rw[if_neg hid]
    rcases(hU id).mp hu with q|q
    ·rw[if_pos q];simp
    ·exact absurd q hid
  ·intro id id' hu hu' hne hB hB' b hb hb'
   simp only[G.one] at hb hb'
   by_cases hid:id=st.ob.length
   ·rw[if_neg (λe=>hne (hid.trans e.symm))] at hb'
    rcases(hU id').mp hu' with q|q
    ·rw[if_pos q] at hb';cases hb'
    ·exact hne (hid.trans q.symm)
   ·rw[if_neg hid] at hb
    rcases(hU id).mp hu with q|q
    ·rw[if_pos q] at hb;cases hb
    ·exact hid q
  ·intro b hI
   exact⟨Nat.lt_of_lt_of_le (hr.sep.imm b hI) hsz,.inl hI⟩
 refine hK (g.one mv st.ob.length F hdr z) w' _ (Rel.eff (n:=st.ob.length) (e:=⟨t,mv.map (·,.gone),[ob]⟩) hr hs hn (by simpa using hmv) turn ?_ ?_ ?_ hT) (turn.since hr.sep hs) ?_
 ·intro id
  simp only[G.one,List.length_singleton]
  constructor
  ·rintro(h|h)
   ·exact .inl h
   ·exact .inr (by omega)
  ·rintro(h|h)
   ·exact .inl h
   ·exact .inr (by omega)
 ·intro id o' hm ho hB
  have hidm:id∈mv:=by
   obtain⟨p,hp,rfl⟩:=hm
   obtain⟨q,hq,rfl⟩:=List.mem_map.mp hp
   exact hq
  obtain⟨o0,ho0,r0⟩:=hr.obs id hB
  obtain⟨o1,h1,h2⟩:=ZbJ (mv.map (·,Obj.gone)) stL.ob id hm (List.getElem?_eq_some_iff.mp ho0).1
  rw[h2] at ho
  injection ho with ho
  obtain⟨q,_,hq⟩:=List.mem_map.mp h1
  injection hq with _ hq
  rw[<- ho,<- hq]
  simp only[Zn,G.one]
  rw[if_neg (hmn id hidm),if_pos hidm,if_neg (hmn id hidm)]
  exact⟨rfl,r0.one⟩
 ·intro j ob' hj
  cases j with
  |zero=>simp at hj;subst hj;exact hobj
  |succ j=>simp at hj
 ·intro id
  simp only[G.one,List.length_singleton]
  constructor
  ·rintro(h|h)
   ·exact .inl h
   ·exact .inr (by omega)
  ·rintro(h|h)
   ·exact .inl h
   ·exact .inr (by omega)
section
variable {P:Program} {E:Env} {st:St} {β:Type} {k:St->Option β} {r:β} {dst:Option Nat} {ty:TypeId} {pos:String} {af:Array Edge} {gd:Option (Nat×Bool)}
theorem opLib (hT:Zar P) (hE:EnvOK P E) {c:Call} {f:Operand} (hc:c.callee=.value f) {g:FuncId} (hf:st.ev f=.clo g []) (hfm:f∈(Op.call c).operands.toList) {e:Zj} {L:Lib} (he:E g=some e) (hL:e.lib=some L)
  (h:libDen L st (c.args.toList.map st.ev) (λt st'=>k (st'.put dst t))=some r):ZD P E ⟨dst,.call c,ty,pos,af,gd⟩ st k r:=by
 unfold libDen at h
 split at h
 case isFalse=>cases h
 rename_i hnd
 split at h
 case h_2=>cases h
 rename_i as has
 have htk:=Zcd has
 obtain⟨hent,_,hlib⟩:=hE g e he
 obtain⟨ys,hk,hcalls⟩:=hlib L hL _ as _ r h
 rw[ZcC] at htk hk
 have hrows:=htk.rows
 have hlk:∀ id∈libMv L.gives (c.args.toList.map st.ev),id∈Za9 ⟨dst,.call c,ty,pos,af,gd⟩ st:=by
  intro id hid
  obtain⟨x,hx,e⟩:=List.mem_map.mp (hrows id hid).2
  exact Zbs hx id (by rw[e];simp[ZE])
 refine ZD.moved (mv:=libMv L.gives (c.args.toList.map st.ev)) (λid hid=>by obtain⟨⟨og,fr,xs,q⟩,_⟩:=hrows id hid;exact⟨og,fr,_,xs,q⟩) hk λX w0=>OpOk.callOne (λid hid=>by obtain⟨⟨_,_,_,ho⟩,_⟩:=hrows id hid;exact(List.getElem?_eq_some_iff.mp ho).1) λstL g1 a w hr hs hR hl hn=>?_
 obtain⟨mv,hmv⟩:∃ mv,mv=libMv L.gives (c.args.toList.map st.ev):=⟨_,rfl⟩
 rw[<- hmv] at hnd htk hk hrows hlk⊢
 have hF:=hR f hfm
 rw[hf] at hF
 simp only[Zb,Zh] at hF
 obtain⟨vs,hv,rfl⟩:=hF
 obtain⟨g2,r1,r2,r3,r4,r5,r6,r7⟩:=Rel.gones (mv:=mv) (st:=st) hr hnd hlk (λid hid=>by obtain⟨⟨_,_,_,ho⟩,_⟩:=hrows id hid;exact⟨_,ho⟩) hl
 have hmB:∀ id∈mv,g1.B id:=λid hid=>by
  obtain⟨⟨_,_,_,ho⟩,_⟩:=hrows id hid
  exact(hl id (hlk id hid) (by rw[ho];rfl)).2
 have hmine:∀ b∈mv.flatMap g1.fp,¬ g1.I b/\b<w.heap.size/\(X.base<=b\/b∈X.lent):=by
  intro b hb
  obtain⟨id,hid,hb⟩:=List.mem_flatMap.mp hb
  exact hr.sep.mine id (hmB id hid) b hb
 let I:Nat->Prop:=λb=>g2.I b\/∃ id,g2.B id/\b∈g2.fp id
 have hIlt:∀ b,I b->b<w.heap.size:=by
  rintro b (hb|⟨id,hB,hb⟩)
  ·exact r1.sep.imm b hb
  ·exact(r1.sep.mine id hB b hb).2.1
 have hIF:∀ b∈mv.flatMap g1.fp,¬ I b/\b<w.heap.size:=by
  intro b hb
  refine⟨?_,(hmine b hb).2.1⟩
  obtain⟨id,hid,hb'⟩:=List.mem_flatMap.mp hb
  rintro(q|⟨id',hB',q⟩)
  ·rw[r2] at q;exact(hmine b hb).1 q
  ·by_cases e:id'∈mv
   ·rw[r5 id' e] at q;cases q
   ·rw[r4 id' e] at q
    exact hr.sep.apart id id' (hmB id hid) ((r3 id').mp hB') (λe'=>e (e'▸hid)) b hb' q
 have hJI:∀ b,g1.IM X (libFr st mv) b->I b:=λb hb=>.inl (by rw[r2];exact hb.1)
 have hargs:LArgs P w I (g1.IM X (libFr st mv)) L.ct L.gives as (c.args.toList.map a.eval) (mv.flatMap g1.fp):=by
  refine htk.sound hT hr r1 (λb hb=>.inl hb) (λid hB b hb=>.inr ⟨id,hB,hb⟩) (λt ht=>?_) (λid hid=>hl.sub λi hi=>by simp at hi;subst hi;exact hlk _ hid) (λid hid og fr ct xs ho b hb=>⟨hb.1,λq=>hb.2 (libFr_all q id hid og fr ct xs ho)⟩) (by simp) λi t v ht hv'=>?_
  ·obtain⟨x,hx,rfl⟩:=List.mem_map.mp ht
   refine r7.sub λid hid=>Zbs hx id ?_
   have:∀ (u:T),∀ i∈ZE (st.gones mv) u,i∈ZE st u:=by
    intro u i hi
    cases u<;>try exact hi
    rw[Zcv] at hi⊢
    obtain⟨u',hu',hi⟩:=List.mem_flatMap.mp hi
    refine List.mem_flatMap.mpr ⟨u',hu',?_⟩
    unfold ZaE at hi⊢
    split at hi
    ·split at hi
     ·rename_i ho
      rw[(St.gones_ob ho (by simp)).2]
      exact hi
     ·simp at hi
      subst hi
      split<;>simp
    ·cases hi
   exact this _ id hid
  ·rw[List.getElem?_map] at ht hv'
   obtain⟨x,hx,rfl⟩:=Option.map_eq_some_iff.mp ht
   rw[hx] at hv'
   simp only[Option.map_some,Option.some.injEq] at hv'
   subst hv'
   have rv:=hR x (Z3 (List.mem_of_getElem? hx))
   exact⟨rv,λhns=>Zb.mono r6 (λid i off e=>by rw[e] at hns;cases hns) rv⟩
 refine⟨g,(c.args.toList.map a.eval).toArray,?_,hmB,?_⟩
 ·rw[run_call hc hv hent]
  have e0:(c.args.toList.map a.eval).toArray=c.args.map a.eval:=by apply Array.ext';simp
  rw[e0]
  simp
 refine Calls.mono (hcalls w I _ _ _ hargs (Zcw hr.sep hnd hmB) hIF hJI hIlt) ?_
 rintro ex w' ⟨v,F',rfl,q1,q2,q3,q4,q5,q6,q7,q8⟩
 refine⟨v,F',v,Zl P L.ct,rfl,q1,q2,q3,q4,q5,q6,q7,?_,?_⟩
 ·simp only[Zn,G.one_hv,G.one_fp,G.one_sz]
  refine⟨⟨q8,trivial⟩,λhfr b hb=>?_,by simp⟩
  by_cases hlt:b<w.heap.size
  ·obtain⟨id,hid,hb'⟩:=List.mem_flatMap.mp ((q7 b hb).2 hlt)
   obtain⟨⟨og,fr,xs,ho⟩,_⟩:=hrows id hid
   obtain⟨_,_,_,hfr',_⟩:=hl.obj hr (hlk id hid) ho
   exact hfr' (libFr_all hfr id hid og fr _ xs ho) b hb'
  ·exact .inl (by have:=hs.base;have:=hs.size;omega)
 ·simp only[Zb]
  exact⟨G.one_B,G.one_hv.symm⟩
end
end Go.T
