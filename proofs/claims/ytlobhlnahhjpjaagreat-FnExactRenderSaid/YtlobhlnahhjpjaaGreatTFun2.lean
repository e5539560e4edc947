/- Functions: what they leave. -/
import Derived.Test.YtlobhlnahhjpjaaGreatTFun1
import Derived.Laws.Sem
set_option linter.unusedVariables false
set_option linter.unusedSimpArgs false
namespace Go.T
structure Took (X:Fix) (w:World) (g:G) (Z:List Nat):Prop where
 nodup:Z.Nodup
 off:∀ b∈Z,¬ g.I b/\(∀ id,g.B id->b∉g.fp id)/\b<w.heap.size/\(X.base<=b\/b∈X.lent)
section
variable {P:Program} {X:Fix} {w0 w:World} {g:G} {st:St} {a:Act}
theorem Took.take {Z:List Nat} (h:Took X w g Z) (hr:Rel P X w g st a) {id:Nat} (hB:g.B id):Took X w (g.less id) (Z++g.fp id):=by
 refine⟨List.nodup_append.mpr ⟨h.nodup,hr.sep.nodup id hB,λx hx y hy e=>?_⟩,λb hb=>?_⟩
 ·subst e
  exact(h.off x hx).2.1 id hB hy
 ·rcases List.mem_append.mp hb with q|q
  ·obtain⟨h1,h2,h3⟩:=h.off b q
   refine⟨h1,λi hi hm=>?_,h3⟩
   simp only[G.less] at hm
   split at hm
   ·cases hm
   ·exact h2 i hi hm
  ·obtain⟨m1,m2,m3⟩:=hr.sep.mine id hB b q
   refine⟨m1,λi hi hm=>?_,m2,m3⟩
   simp only[G.less] at hm
   split at hm
   ·cases hm
   ·rename_i hne
    exact hr.sep.apart id i hB hi (λe=>hne e.symm) b q hm
theorem Took.act {g':G} {Z:List Nat} (h:Took X w g Z) (hI:∀ b,g'.I b->g.I b\/∃ id,g.B id/\b∈g.fp id) (hfp:∀ id,g'.B id->∀ b,b∈g'.fp id->g.B id/\b∈g.fp id):Took X w g' Z:=by
 refine⟨h.nodup,λb hb=>?_⟩
 obtain⟨h1,h2,h3⟩:=h.off b hb
 refine⟨λq=>?_,λid hB hm=>?_,h3⟩
 ·rcases hI b q with q|⟨id,hB,hm⟩
  ·exact h1 q
  ·exact h2 id hB hm
 ·obtain⟨q1,q2⟩:=hfp id hB b hm
  exact h2 id q1 q2
theorem ZaC.setOb {id:Nat} {o:Obj} (h:ZaC g st):ZaC g (st.setOb id o):=λi hi=>h i (by simpa[St.setOb] using hi)
theorem ZaC.less {id:Nat} (h:ZaC g st):ZaC (g.less id) st:=λi hi=>h i hi
def ArgsOk (P:Program):List A->List TypeId->Prop
 |[],[]=>True
 |a::as,t::ts=>(∀ g cs,a=.own g cs->cs.length<=1000/\(g=true\/Zq P 6 t=[t]))/\ArgsOk P as ts
 |_,_=>False
theorem ZcQ {ow:Bool}:∀ {as:List A} {tys:List TypeId} {st st':St} {l:List T} {j:Nat},Z7 P ow st j tys as=some (l,st')->ArgsOk P as tys
 |[],[],_,_,_,_,_=>by simp[ArgsOk]
 |[],_::_,st,st',l,j,h=>by simp[Z7] at h
 |a::as,[],st,st',l,j,h=>by cases a<;>simp[Z7] at h
 |a::as,t::tys,st,st',l,j,h=>by
  simp only[ArgsOk]
  cases a with
  |own g cs=>
   simp only[Z7] at h
   split at h
   case isFalse=>cases h
   rename_i hck
   split at h
   case h_2=>cases h
   split at h
   case h_2=>cases h
   rename_i h2
   exact⟨λg' cs' e=>by injection e with e1 e2;subst e1 e2;exact hck,ZcQ h2⟩
  |box cs=>
   simp only[Z7] at h
   split at h
   case h_2=>cases h
   split at h
   case h_2=>cases h
   rename_i h2
   exact⟨by simp,ZcQ h2⟩
  |_=>
   simp only[Z7] at h
   split at h
   case h_2=>cases h
   rename_i h2
   exact⟨by simp,ZcQ h2⟩
theorem Took.gones:∀ {mv:List Nat} {g:G} {st:St} {Z:List Nat},Rel P X w g st a->ZaC g st->Took X w g Z->mv.Nodup->(∀ id∈mv,g.B id)->
  ∃ g',g'.I=g.I/\Rel P X w g' (st.gones mv) a/\ZaC g' (st.gones mv)/\Took X w g' (Z++mv.flatMap g.fp)/\Ext w w g g' (λ_=>False)
 |[],g,st,Z,hr,hf,hz,_,_=>⟨g,rfl,by rw[St.gones_nil];exact hr,by rw[St.gones_nil];exact hf,by simpa using hz,⟨λ_ h=>h,λ_ _ _=>rfl,λ_ _ h=>h,hr.sep.imm,λ_ h=>h,λ_ _=>rfl,λ_ _=>rfl⟩⟩
 |id::mv,g,st,Z,hr,hf,hz,hnd,hB=>by
  simp only[List.nodup_cons] at hnd
  have hBi:=hB id (by simp)
  obtain⟨o,ho,_⟩:=hr.obs id hBi
  obtain⟨g',q1,q2,q3,q4,q5⟩:=Took.gones (mv:=mv) (hr.gone1 ho hBi) (ZaC.setOb (g:=g.less id) (id:=id) (o:=.gone) (st:=st) hf) (hz.take hr hBi) hnd.2 (λi hi=>hB i (by simp[hi]))
  refine⟨g',q1,by rw[St.gones_cons];exact q2,by rw[St.gones_cons];exact q3,?_,⟨λb hb=>q5.imp b hb,λ_ _ _=>rfl,λ_ _ h=>h,hr.sep.imm,λi h=>q5.B i h,λi h=>q5.hv i h,λi h=>q5.sz i h⟩⟩
  have:mv.flatMap (g.less id).fp=mv.flatMap g.fp:=by
   have gen:∀ l:List Nat,id∉l->l.flatMap (g.less id).fp=l.flatMap g.fp:=by
    intro l
    induction l with
    |nil=>intro _;rfl
    |cons x l ih=>
     intro h
     simp only[List.mem_cons,not_or] at h
     rw[List.flatMap_cons,List.flatMap_cons,ih h.2]
     simp only[G.less]
     rw[if_neg (λe=>h.1 e.symm)]
   exact gen mv hnd.1
  rw[this] at q4
  rw[List.flatMap_cons,<- List.append_assoc]
  exact q4
theorem ZaC.sees {l:List Nat} (hf:ZaC g st):ZW g st st l:=λid _ h=>⟨rfl,hf id (by simpa using h)⟩
def Z2:List A->List Out->Prop
 |[],os=>os=[]
 |.own _ cs::as,os=>(∃ os',os=.lost::os'/\Z2 as os')\/∃ cs' os',os=.own cs'::os'/\cs'.length=cs.length/\(∀ (i:Nat) (x:D),cs[i]? = some (.d x)->cs'[i]? = some (.d x))/\Z2 as os'
 |.box cs::as,os=>∃ cs' os',os=.box cs'::os'/\cs'.length=cs.length/\Z2 as os'
 |_::as,os=>Z2 as os
def FreshT (st:St) (t:T):Prop:=
 match t with
 |.d fr x=>(fr||Zag x)=true
 |.row i=>∀ og fr ct xs,st.ob[i]? = some (.row og fr ct xs)->fr=true
 |_=>True
def FreshM (st:St):Prop:=∀ (id:Nat) (o:Obj),st.ob[id]? = some o->
 match o with
 |.row (some _) fr _ _=>fr=true
 |.box (some _) _ cs=>∀ t∈cs,FreshT st t
 |_=>True
theorem FreshM.under {st1 st:St} (hb:Zau st1 st) (h:FreshM st):FreshM st1:=by
 intro id o ho
 cases o with
 |row og fr ct xs=>
  have:=h id _ (hb id _ ho (by simp))
  cases og<;>first|(simp;done)|simpa using this
 |box og t cs=>
  have:=h id _ (hb id _ ho (by simp))
  cases og with
  |none=>trivial
  |some m=>
   intro t ht
   have q:=this t ht
   cases t with
   |row i=>exact λog fr ct xs ho=>q og fr ct xs (hb i _ ho (by simp))
   |_=>exact q
 |_=>trivial
theorem freshTs_all:∀ {ts:List T},Zas st ts=true->∀ t∈ts,FreshT st t
 |[],_,t,ht=>by cases ht
 |x::ts,h,t,ht=>by
  rcases List.mem_cons.mp ht with rfl|ht
  ·cases t<;>simp only[Zas] at h
   case d fr y=>
    simp only[Bool.and_eq_true] at h
    exact h.1
   case row i=>
    intro og fr ct xs ho
    rw[ho] at h
    simp only[Bool.and_eq_true] at h
    exact h.1
   all_goals trivial
  ·refine freshTs_all (ts:=ts) ?_ t ht
   cases x<;>simp only[Zas] at h
   case d fr y=>simp only[Bool.and_eq_true] at h;exact h.2
   case nil=>exact h
   case row i=>
    split at h
    ·simp only[Bool.and_eq_true] at h;exact h.2
    ·cases h
   all_goals cases h
theorem freshM_of (h:freshOuts st=true):FreshM st:=by
 unfold freshOuts at h
 rw[List.all_eq_true] at h
 intro id o ho
 have:=h o (List.mem_of_getElem? ho)
 cases o with
 |row og fr ct xs=>cases og<;>first|(simp;done)|simpa using this
 |box og t cs=>
  cases og with
  |none=>trivial
  |some m=>exact freshTs_all this
 |_=>trivial
theorem ZaH.freshTs {cts:List TypeId} {ts:List T} {cs:List C} {mv:List Nat} (h:ZaH st cts ts cs mv):(∀ t∈ts,FreshT st t)->Go.T.Zas st ts=true:=by
 induction h with
 |nil=>exact λ_=>rfl
 |row h r ih=>
  intro q
  have:=q _ (List.mem_cons_self) _ _ _ _ h
  subst this
  simp only[Go.T.Zas,h,Bool.true_and]
  exact ih λt ht=>q t (by simp[ht])
 |none r ih=>exact λq=>by simp only[Go.T.Zas];exact ih λt ht=>q t (by simp[ht])
 |dat r ih=>
  intro q
  simp only[Go.T.Zas,Bool.and_eq_true]
  exact⟨q _ (List.mem_cons_self),ih λt ht=>q t (by simp[ht])⟩
theorem Zb2 {Z:List Nat} {I Q Qo:Nat->Prop} {ff:Bool} {c:Array Value} (hk:Keeps w0 w I g.I) (hQd:∀ b,Q b->Qo b) (hQo:∀ b,(ff=true->X.new b)->Qo b):∀ {cts:List TypeId} {cs l:List C} {g':G} {st st':St} {j p:Nat} {F:List Nat} {Z:List Nat},Za0 st j cts cs=some (l,st')->(ff=true->FreshM st)->g'.I=g.I->Rel P X w g' st a->ZaC g' st->Took X w g' Z->
  Za P w0 (λb=>I b/\Q b) c cs cts p F->(∀ (i:Nat) (v:Value),(∃ xs,cs[i]? = some (.own xs))->c[p+i]? = some v->X.av (j+i)=some v)->
  ∃ g2 Fo,g2.I=g.I/\Rel P X w g2 st' a/\ZaC g2 st'/\Took X w g2 (Z++Fo)/\Za P w (λb=>g.I b/\Qo b) c l cts p Fo/\(∀ b∈Fo,Qo b)/\l.length=cs.length/\∀ (i:Nat) (x:D),cs[i]? = some (.d x)->l[i]? = some (.d x)
 |[],[],l,g',st,st',j,p,F,Z,h,hfm,hg,hr,hf,hz,r,hav=>by
  simp only[Za0] at h
  injection h with h;injection h with e1 e2;subst e1 e2
  exact⟨g',[],hg,hr,hf,by simpa using hz,by simp[Za],by simp,rfl,by simp⟩
 |_::_,[],l,g',st,st',j,p,F,Z,h,hfm,hg,hr,hf,hz,r,hav=>by
  simp[Za] at r
 |[],_::_,l,g',st,st',j,p,F,Z,h,hfm,hg,hr,hf,hz,r,hav=>by
  simp[Za] at r
 |ct::cts,.d x::cs,l,g',st,st',j,p,F,Z,h,hfm,hg,hr,hf,hz,r,hav=>by
  simp only[Za0] at h
  split at h
  case h_2=>cases h
  rename_i l1 st1 h1
  injection h with h;injection h with e1 e2;subst e1 e2
  simp only[Za] at r
  obtain⟨ct',cts',v,F1,F2,e,rfl,hv,r1,r2⟩:=r
  injection e with e1 e2;subst e1 e2
  simp only[OwC] at r1
  obtain⟨g2,Fo,q1,q2,q3,q4,q5,q5',q6,q7⟩:=Zb2 hk hQd hQo (Z:=Z) h1 hfm hg hr hf hz r2 (λi u hi hu=>by
   have:=hav (i+1) u (by simpa using hi) (by rwa[show p+(i+1)=p+1+i from by omega])
   rwa[show j+(i+1)=j+1+i from by omega] at this)
  refine⟨g2,Fo,q1,q2,q3,q4,?_,q5',by simp[q6],λi y hy=>?_⟩
  ·simp only[Za]
   exact⟨ct,cts,v,[],Fo,rfl,by simp,hv,by simp only[OwC];exact⟨trivial,RdD.mono ⟨λb hb=>⟨hk.imp b hb.1,hQd b hb.2⟩,λb hb=>hk.same b hb.1⟩ r1.2⟩,q5⟩
  ·cases i with
   |zero=>simpa using hy
   |succ i=>simpa using q7 i y (by simpa using hy)
 |ct::cts,.own xs0::cs,l,g',st,st',j,p,F,Z,h,hfm,hg,hr,hf,hz,r,hav=>by
  simp only[Za0] at h
  split at h
  case h_2=>cases h
  rename_i id hid
  split at h
  case h_2=>cases h
  rename_i og fr rt xs ho
  split at h
  case isFalse=>cases h
  rename_i hrt
  subst hrt
  split at h
  case h_2=>cases h
  rename_i l1 st1 h1
  injection h with h;injection h with e1 e2;subst e1 e2
  simp only[Za] at r
  obtain⟨ct',cts',v,F1,F2,e,rfl,hv,r1,r2⟩:=r
  injection e with e1 e2;subst e1 e2
  have hB:g'.B id:=hf id (List.getElem?_eq_some_iff.mp ho).1
  obtain⟨o',ho',ro⟩:=hr.obs id hB
  rw[ho] at ho'
  injection ho' with ho'
  subst ho'
  simp only[Zn] at ro
  obtain⟨⟨row,_⟩,hnew,horg⟩:=ro
  have hog:og=some j:=by
   obtain⟨h1,h2,_⟩:=List.findIdx?_eq_some_iff_getElem.mp hid
   have:st.ob[id]=.row og fr rt xs:=by
    have:=(List.getElem?_eq_some_iff.mp ho).2
    exact this
   rw[this] at h2
   simpa[orgOf] using h2
  have hhv:g'.hv id=v:=by
   have h1:=horg j hog
   have h2:=hav 0 v ⟨xs0,by simp⟩ (by simpa using hv)
   rw[Nat.add_zero,h1] at h2
   exact Option.some.inj h2
  obtain⟨g2,Fo,q1,q2,q3,q4,q5,q5',q6,q7⟩:=Zb2 hk hQd hQo (Z:=Z++g'.fp id) h1 (λq=>(hfm q).under (Zau.setOb _ _)) (show(g'.less id).I=g.I from hg) (hr.gone1 ho hB) hf.setOb (hz.take hr hB) r2 (λi u hi hu=>by
   have:=hav (i+1) u (by simpa using hi) (by rwa[show p+(i+1)=p+1+i from by omega])
   rwa[show j+(i+1)=j+1+i from by omega] at this)
  have hfrt:ff=true->fr=true:=λq=>by
   have:=hfm q id _ ho
   rw[hog] at this
   exact this
  refine⟨g2,g'.fp id++Fo,q1,q2,q3,by rw[<- List.append_assoc];exact q4,?_,λb hb=>?_,by simp[q6],λi y hy=>?_⟩
  rotate_left
  ·rcases List.mem_append.mp hb with q|q
   ·exact hQo b λz=>hnew (hfrt z) b q
   ·exact q5' b q
  rotate_left
  ·simp only[Za]
   refine⟨rt,cts,v,g'.fp id,Fo,rfl,rfl,hv,?_,q5⟩
   rw[<- hhv]
   exact OwC.weaken (λb hb=>⟨by rw[<- hg];exact hb.1,hQo b λz=>hb.2 (hfrt z)⟩) row
  ·cases i with
   |zero=>simp at hy
   |succ i=>simpa using q7 i y (by simpa using hy)
theorem Zb1:∀ {cts:List TypeId} {cs l:List C} {st st':St} {j:Nat},Za0 st j cts cs=some (l,st')->Zau st' st
 |_,[],l,st,st',j,h=>by
  simp only[Za0] at h
  injection h with h;injection h with e1 e2;subst e2
  exact Zau.refl _
 |[],.d _::_,_,_,_,_,h=>by simp[Za0] at h
 |[],.own _::_,_,_,_,_,h=>by simp[Za0] at h
 |ct::cts,.d x::cs,l,st,st',j,h=>by
  simp only[Za0] at h
  split at h
  case h_2=>cases h
  rename_i h1
  injection h with h;injection h with e1 e2;subst e2
  exact Zb1 h1
 |ct::cts,.own _::cs,l,st,st',j,h=>by
  simp only[Za0] at h
  split at h
  case h_2=>cases h
  split at h
  case h_2=>cases h
  split at h
  case isFalse=>cases h
  split at h
  case h_2=>cases h
  rename_i h1
  injection h with h;injection h with e1 e2;subst e2
  exact(Zb1 h1).trans (Zau.setOb _ _)
theorem ZaD {I Q Qo:Nat->Prop} {ff:Bool} (hk:Keeps w0 w I g.I) (hQd:∀ b,Q b->Qo b) (hQo:∀ b,(ff=true->X.new b)->Qo b) {lo:Bool}:∀ {as:List A} {ms:List (Mode×TypeId)} {tys:List TypeId} {vs:List Value} {os:List Out} {g':G} {st st':St} {j:Nat} {F0:List Nat} {Z:List Nat},Zb0 P lo st j tys as=some (os,st')->(ff=true->FreshM st)->g'.I=g.I->Rel P X w g' st a->ZaC g' st->Took X w g' Z->
  ZO P w0 I Q as ms vs F0->ZbH P ms tys=true->AvOk X j vs->ArgsOk P as tys->
  ∃ g2 Fo,g2.I=g.I/\Rel P X w g2 st' a/\ZaC g2 st'/\Took X w g2 (Z++Fo)/\Z0 P w g.I Qo as ms vs os Fo/\Z2 as os
 |[],[],tys,vs,os,g',st,st',j,F0,Z,h,hfm,hg,hr,hf,hz,r,hm,hav,hlen=>by
  cases tys with
  |cons _ _=>simp[ZbH] at hm
  |nil=>
   simp only[Zb0] at h
   injection h with h;injection h with e1 e2;subst e1 e2
   exact⟨g',[],hg,hr,hf,by simpa using hz,by simp[Z0],by simp[Z2]⟩
 |[],_::_,_,_,_,_,_,_,_,_,_,_,_,_,_,_,_,r,_,_,_=>by simp[ZO] at r
 |_::_,[],_,_,_,_,_,_,_,_,_,_,_,_,_,_,_,r,_,_,_=>by simp[ZO] at r
 |x::as,(m,ct)::ms,tys,vs,os,g',st,st',j,F0,Z,h,hfm,hg,hr,hf,hz,r,hm,hav,hlen=>by
  cases tys with
  |nil=>simp[ZbH] at hm
  |cons t tys=>
   simp only[ZO] at r
   obtain⟨v,vs',F1,F2,rfl,rfl,r1,r2⟩:=r
   simp only[ZbH,Bool.and_eq_true] at hm
   obtain⟨⟨hm1,hmb⟩,hm2⟩:=hm
   simp only[ArgsOk] at hlen
   obtain⟨hlen,hlen'⟩:=hlen
   cases x with
   |own gg cs=>
    have hmo:m=.own:=by
     cases m<;>cases gg<;>simp only[ZJ] at r1
     all_goals rfl
    subst hmo
    have htt:ct=t:=by simpa using hm1
    subst htt
    simp only[Zb0] at h
    split at h
    case h_2=>
     split at h
     case h_2=>cases h
     rename_i os1 st2 h2
     injection h with h;injection h with e1 e2;subst e1 e2
     obtain⟨g3,Fo',z1,z2,z3,z4,z5,z6⟩:=ZaD hk hQd hQo (Z:=Z) h2 hfm hg hr hf hz r2 hm2 hav.tail hlen'
     exact⟨g3,Fo',z1,z2,z3,z4,by simp only[Z0];exact .inl ⟨os1,rfl,z5⟩,by simp only[Z2];exact .inl ⟨os1,rfl,z6⟩⟩
    rename_i c1 st1 h1
    replace h1:Za0 st (1000*j) (Zq P 6 ct) cs=some (c1,st1):=by
     cases lo with
     |true=>cases h1
     |false=>exact h1
    split at h
    case h_2=>cases h
    rename_i os1 st2 h2
    injection h with h;injection h with e1 e2;subst e1 e2
    have hav0:=hav 0 v (by simp)
    obtain⟨hcl,hflat⟩:=hlen gg cs rfl
    cases gg with
    |true=>
     simp only[ZJ] at r1
     obtain⟨vals,rfl,hvl,ow,hqb⟩:=r1
     obtain⟨g2,Fo,q1,q2,q3,q4,q5,q5',q6,q7⟩:=Zb2 hk hQd hQo (Z:=Z) h1 hfm hg hr hf hz ow (λi u hi hu=>by
      obtain⟨xs,hi⟩:=hi
      have hi:=(List.getElem?_eq_some_iff.mp hi).1
      have:=hav0.1 vals rfl i (by omega)
      rw[Nat.add_zero] at this
      rw[this]
      simpa using hu)
     obtain⟨g3,Fo',z1,z2,z3,z4,z5,z6⟩:=ZaD hk hQd hQo (Z:=Z++Fo) h2 (λq=>(hfm q).under (Zb1 h1)) q1 q2 q3 q4 r2 hm2 hav.tail hlen'
     refine⟨g3,Fo++Fo',z1,z2,z3,by rw[<- List.append_assoc];exact z4,?_,?_⟩
     ·simp only[Z0,ZJ]
      exact .inr ⟨c1,os1,Fo,Fo',rfl,rfl,q6,⟨vals,rfl,by rw[hvl,q6],q5,q5'⟩,z5⟩
     ·simp only[Z2]
      exact .inr ⟨c1,os1,rfl,q6,q7,z6⟩
    |false=>
     simp only[ZJ] at r1
     obtain⟨r1,hqb⟩:=r1
     have hcs:cs.length=1:=by simpa using Za.length r1
     have hft:=hflat.resolve_left (by simp)
     rw[hft] at h1
     obtain⟨g2,Fo,q1,q2,q3,q4,q5,q5',q6,q7⟩:=Zb2 hk hQd hQo (Z:=Z) h1 hfm hg hr hf hz r1 (λi u hi hu=>by
      obtain⟨xs,hi⟩:=hi
      have hi1:=(List.getElem?_eq_some_iff.mp hi).1
      have hi0:i=0:=by omega
      subst hi0
      simp at hu
      subst hu
      simp only[Nat.add_zero] at hav0⊢
      match cs,hcs,hi with
      |[c0],_,hi=>
       simp at hi
       subst hi
       simp only[Za,OwC] at r1
       obtain⟨_,_,v',_,_,_,_,hv',⟨a,cap,hvv,_⟩,_⟩:=r1
       simp at hv'
       subst hv'
       exact hav0.2.1 _ _ _ hvv)
     obtain⟨g3,Fo',z1,z2,z3,z4,z5,z6⟩:=ZaD hk hQd hQo (Z:=Z++Fo) h2 (λq=>(hfm q).under (Zb1 h1)) q1 q2 q3 q4 r2 hm2 hav.tail hlen'
     refine⟨g3,Fo++Fo',z1,z2,z3,by rw[<- List.append_assoc];exact z4,?_,?_⟩
     ·simp only[Z0,ZJ]
      exact .inr ⟨c1,os1,Fo,Fo',rfl,rfl,q6,⟨q5,q5'⟩,z5⟩
     ·simp only[Z2]
      exact .inr ⟨c1,os1,rfl,q6,q7,z6⟩
   |box cs=>
    cases m<;>simp only[ZJ] at r1
    obtain⟨b,c,e,F',rfl,rfl,hb,hsz,ow,hqb⟩:=r1
    have hpt:ct=Zbn P t:=by simpa using hmb
    subst hpt
    simp only[Zb0] at h
    split at h
    case h_2=>cases h
    rename_i id hid
    split at h
    case h_2=>cases h
    rename_i og bt cells ho
    split at h
    case isFalse=>cases h
    rename_i hck
    obtain⟨hbt,hck⟩:=hck
    subst hbt
    split at h
    case h_2=>cases h
    rename_i c1 st1 hl
    split at h
    case h_2=>cases h
    rename_i os1 st2 h2
    injection h with h;injection h with e1 e2;subst e1 e2
    have hB:g'.B id:=hf id (List.getElem?_eq_some_iff.mp ho).1
    obtain⟨o',ho',ro⟩:=hr.obs id hB
    rw[ho] at ho'
    injection ho' with ho'
    subst ho'
    simp only[Zn] at ro
    obtain⟨⟨b',c',e',hh',hfp',hb',rc'⟩,horg⟩:=ro
    have hog:og=some (1000*j):=by
     obtain⟨h1,h2,_⟩:=List.findIdx?_eq_some_iff_getElem.mp hid
     have:st.ob[id]=.box og (Zbn P t) cells:=(List.getElem?_eq_some_iff.mp ho).2
     rw[this] at h2
     simpa[orgOf] using h2
    have hhv:g'.hv id=.pointer (some ⟨b,0,none⟩):=by
     have h1:=horg _ hog
     have h2:=(hav 0 (.pointer (some ⟨b,0,none⟩)) (by simp)).2.2 _ rfl
     rw[Nat.add_zero,h1] at h2
     exact Option.some.inj h2
    rw[hhv] at hh'
    injection hh' with hh';injection hh' with hh';injection hh' with hh' _ _
    subst hh'
    obtain⟨m,a1,a2,rfl⟩:=Za1 hl
    have a1':=a1.back (Zau.setOb _ _)
    obtain⟨ow',hmB,hcl1⟩:=a1'.sound hr (c:=c') (p:=0) hf.sees rc' (λj u hu=>by simpa using hu)
    have hfT:ff=true->Zas st cells=true:=λq=>a1'.freshTs (by
     have:=hfm q id _ ho
     rw[hog] at this
     exact this)
    have how':Za P w (λb=>g'.I b/\Qo b) c' c1 (Zq P 6 (Zbn P t)) 0 (m.flatMap g'.fp)/\∀ b∈m.flatMap g'.fp,Qo b:=by
     cases hff:ff with
     |false=>exact⟨Za.weaken (λb hb=>⟨hb,hQo b λq=>by rw[hff] at q;cases q⟩) ow',λb _=>hQo b λq=>by rw[hff] at q;cases q⟩
     |true=>
      obtain⟨y1,y2⟩:=a1'.soundF hr (c:=c') (p:=0) (hfT hff) hf.sees rc' (λj u hu=>by simpa using hu)
      refine⟨Za.weaken (λb hb=>⟨hb.1,hQo b λ_=>hb.2 rfl⟩) y1,λb hb=>?_⟩
      obtain⟨i,hi,hb⟩:=List.mem_flatMap.mp hb
      exact hQo b λ_=>y2 i hi b hb
    have hcl:c'.size=cells.length:=by simpa using Zh.length rc'
    have hnm:id∉m:=λhm=>by
     obtain⟨_,_,_,_,q⟩:=a1.rows id hm
     exact setOb_row q
    obtain⟨g2,q1,q2,q3,q4,_⟩:=Took.gones (mv:=m) (hr.gone1 ho hB) (ZaC.setOb (g:=g'.less id) (id:=id) (o:=.gone) (st:=st) hf) (hz.take hr hB) a2 (λi hi=>hmB i hi)
    have hfl:m.flatMap (g'.less id).fp=m.flatMap g'.fp:=by
     have gen:∀ l:List Nat,id∉l->l.flatMap (g'.less id).fp=l.flatMap g'.fp:=by
      intro l
      induction l with
      |nil=>intro _;rfl
      |cons x l ih=>
       intro h
       simp only[List.mem_cons,not_or] at h
       rw[List.flatMap_cons,List.flatMap_cons,ih h.2]
       simp only[G.less]
       rw[if_neg (λe=>h.1 e.symm)]
     exact gen m hnm
    rw[hfl] at q4
    obtain⟨g3,Fo',z1,z2,z3,z4,z5,z6⟩:=ZaD hk hQd hQo (Z:=Z++g'.fp id++m.flatMap g'.fp) h2 (λq=>(hfm q).under ((Zau.gones _ _).trans (Zau.setOb _ _))) (q1.trans hg) q2 q3 q4 r2 hm2 hav.tail hlen'
    refine⟨g3,(g'.fp id++m.flatMap g'.fp)++Fo',z1,z2,z3,by simpa[List.append_assoc] using z4,?_,?_⟩
    ·simp only[Z0,ZJ]
     exact⟨c1,os1,g'.fp id++m.flatMap g'.fp,Fo',rfl,rfl,by rw[hcl1,hck],⟨b,c',e',m.flatMap g'.fp,rfl,by rw[hfp'];rfl,hb',by omega,by rw[<- hg];exact how'.1,how'.2⟩,z5⟩
    ·simp only[Z2]
     exact⟨c1,os1,rfl,by rw[hcl1,hck],z6⟩
   |d y=>
    simp only[Zb0] at h
    obtain⟨g3,Fo',z1,z2,z3,z4,z5,z6⟩:=ZaD hk hQd hQo (Z:=Z) h hfm hg hr hf hz r2 hm2 hav.tail hlen'
    exact⟨g3,Fo',z1,z2,z3,z4,by simpa only[Z0] using z5,by simpa only[Z2] using z6⟩
   |agg y=>
    simp only[Zb0] at h
    obtain⟨g3,Fo',z1,z2,z3,z4,z5,z6⟩:=ZaD hk hQd hQo (Z:=Z) h hfm hg hr hf hz r2 hm2 hav.tail hlen'
    exact⟨g3,Fo',z1,z2,z3,z4,by simpa only[Z0] using z5,by simpa only[Z2] using z6⟩
   |nil=>
    simp only[Zb0] at h
    obtain⟨g3,Fo',z1,z2,z3,z4,z5,z6⟩:=ZaD hk hQd hQo (Z:=Z) h hfm hg hr hf hz r2 hm2 hav.tail hlen'
    exact⟨g3,Fo',z1,z2,z3,z4,by simpa only[Z0] using z5,by simpa only[Z2] using z6⟩
   |ip y=>
    simp only[Zb0] at h
    obtain⟨g3,Fo',z1,z2,z3,z4,z5,z6⟩:=ZaD hk hQd hQo (Z:=Z) h hfm hg hr hf hz r2 hm2 hav.tail hlen'
    exact⟨g3,Fo',z1,z2,z3,z4,by simpa only[Z0] using z5,by simpa only[Z2] using z6⟩
theorem Ext.refl (hsep:Sep X w g):Ext w w g g (λ_=>False):=⟨λ_ h=>h,λ_ _ _=>rfl,λ_ _ h=>h,hsep.imm,λ_ h=>h,λ_ _=>rfl,λ_ _=>rfl⟩
theorem Ext.trans' {g1 g2 g3:G} (h1:Ext w w g1 g2 (λ_=>False)) (h2:Ext w w g2 g3 (λ_=>False)):Ext w w g1 g3 (λ_=>False):=
 ⟨λb h=>h2.imp b (h1.imp b h),λ_ _ _=>rfl,λ_ _ h=>h,h1.lt,λi h=>h2.B i (h1.B i h),λi h=>(h2.hv i (h1.B i h)).trans (h1.hv i h),λi h=>(h2.sz i (h1.B i h)).trans (h1.sz i h)⟩
theorem subRes_sound {β:Type} {k:St->Option β} {y:β} (hT:Zar P) (hs:Zac X w0 w):∀ {rs:List ResultVar} {g:G} {st:St},subRes rs st k=some y->Rel P X w g st a->ZaC g st->∃ g' st',k st'=some y/\Rel P X w g' st' a/\ZaC g' st'
 |[],g,st,h,hr,hf=>⟨g,st,h,hr,hf⟩
 |.cell _ _::rs,g,st,h,hr,hf=>subRes_sound hT hs (rs:=rs) h hr hf
 |.tmp i::rs,g,st,h,hr,hf=>by
  simp only[subRes] at h
  split at h
  ·rename_i id r off ht
   obtain⟨og,fr,rt,xs,c,x,rest,ys,ho,hc,hd,hy,h⟩:=subD_some h
   obtain⟨v,rv,hv⟩:=hr.getD i
   rw[ht] at rv
   have hB:g.B id:=by simp only[Zb] at rv;exact rv.1
   have hfz:Zbw st (.row id)=st.setOb id (.frz fr (C.immRows xs)):=by simp[Zbw,ho]
   rw[hfz] at h
   obtain⟨o',ho',rel⟩:=hr.obs id hB
   rw[ho] at ho'
   injection ho' with ho'
   subst ho'
   simp only[Zn] at rel
   obtain⟨ct,F',ow,-,hF⟩:=sub_cell (stL:=st) hr (λi hi _=>by simp only[List.mem_singleton] at hi;subst hi;exact⟨rfl,hB⟩) ho hc hd rv
   have hr2:=Rel.freeze hT hr hs ho hB
   refine subRes_sound hT hs h (hr2.setTm λu hu=>?_) (λj hj=>hf j (by simpa[St.setOb] using hj))
   rw[hv u hu]
   have h3:=OwC.imm (J:=(g.frz id).IM X fr) (λb hb=>⟨.inl hb.1,hb.2⟩) (λb hb=>⟨.inr (hF b hb),λe=>rel.2.1 e b (hF b hb)⟩) hT ow
   rw[hy] at h3
   simp only[Zb]
   exact h3
  ·exact subRes_sound hT hs h hr hf
theorem ZcD (hT:Zar P) (hs:Zac X w0 w) {Z:List Nat}:∀ {ts ts':List T} {bs:List Bool} {g:G} {st st':St} {vs:List Value},ZbF st bs ts=some (ts',st')->Rel P X w g st a->ZaC g st->Took X w g Z->Zh X w g ts vs->
  ∃ g',Rel P X w g' st' a/\ZaC g' st'/\Took X w g' Z/\Zh X w g' ts' vs/\Ext w w g g' (λ_=>False)
 |[],ts',bs,g,st,st',vs,h,hr,hf,hz,r=>by
  have:ts'=[]/\st'=st:=by
   cases bs with
   |nil=>simp only[ZbF] at h;injection h with h;injection h with e1 e2;exact⟨e1.symm,e2.symm⟩
   |cons b bs=>cases b<;>(simp only[ZbF] at h;injection h with h;injection h with e1 e2;exact⟨e1.symm,e2.symm⟩)
  obtain⟨rfl,rfl⟩:=this
  exact⟨g,hr,hf,hz,r,Ext.refl hr.sep⟩
 |t::ts,ts',bs,g,st,st',vs,h,hr,hf,hz,r=>by
  simp only[Zh] at r
  obtain⟨v,vs',rfl,hsub,r1,r2⟩:=r
  have plain:∀ (bs':List Bool) (xs:List T),ZbF st bs' ts=some (xs,st')->ts'=t::xs->
    ∃ g',Rel P X w g' st' a/\ZaC g' st'/\Took X w g' Z/\Zh X w g' ts' (v::vs')/\Ext w w g g' (λ_=>False):=by
   intro bs' xs h1 e
   subst e
   obtain⟨g',q1,q2,q3,q4,q5⟩:=ZcD hT hs h1 hr hf hz r2
   refine⟨g',q1,q2,q3,?_,q5⟩
   simp only[Zh]
   exact⟨v,vs',rfl,hsub,Zb.mono q5 (λid i off e=>by rw[e] at hsub;simp[Zb4] at hsub) r1,q4⟩
  cases bs with
  |nil=>
   simp only[ZbF] at h
   split at h
   case h_2=>cases h
   rename_i xs st1 h1
   injection h with h;injection h with e1 e2;subst e1 e2
   exact plain _ xs h1 rfl
  |cons b bs=>
   cases b with
   |false=>
    simp only[ZbF] at h
    split at h
    case h_2=>cases h
    rename_i xs st1 h1
    injection h with h;injection h with e1 e2;subst e1 e2
    exact plain _ xs h1 rfl
   |true=>
    simp only[ZbF] at h
    split at h
    case h_2=>cases h
    rename_i x st1 h1
    split at h
    case h_2=>cases h
    rename_i xs st2 h2
    injection h with h;injection h with e1 e2;subst e1 e2
    obtain⟨g1,p1,p2,p3,p4,_,_,p7,p8,p9⟩:=actT_sound hT hs hr h1 r1
    obtain⟨g',q1,q2,q3,q4,q5⟩:=ZcD hT hs h2 p1 (p7 hf) (hz.act p8 p9) (Zh.mono p3 r2)
    refine⟨g',q1,q2,q3,?_,p3.trans' q5⟩
    simp only[Zh]
    exact⟨v,vs',rfl,p4 hsub,Zb.mono q5 (λid i off e=>by have:=p4 hsub;rw[e] at this;simp[Zb4] at this) p2,q4⟩
def resSem (tmps:Array Value):ResultVar->Sem Value
 |.tmp t=>pure (tmps.getD t undef)
 |.cell a t=>do loadVar t (<- asAddr (tmps.getD a undef))
def ResVals (P:Program) (a:Act) (w:World):List ResultVar->List Value->Prop
 |[],vs=>vs=[]
 |r::rs,vs=>∃ v vs',vs=v::vs'/\(resSem a.tmps r).run P w=.ok v w/\ResVals P a w rs vs'
theorem resCells_sound (hr:Rel P X w g st a) {t:TypeId} {rv:ResultVar} {ts:List T} (h:resCells P st t rv=some ts):
  ∃ v cells,(resSem a.tmps rv).run P w=.ok v w/\v=(if ZU P t then .agg cells else cells.getD 0 undef)/\cells.size=ts.length/\Zh X w g ts cells.toList:=by
 cases rv with
 |tmp i=>
  simp only[resCells] at h
  split at h
  case isFalse=>cases h
  rename_i hck
  obtain⟨h1,h2⟩:=hck
  injection h with h
  have rv:=hr.ev (.tmp i)
  simp only[St.ev,Act.eval] at rv
  refine⟨a.tmps.getD i undef,?_⟩
  cases hT:st.tm.getD i .any with
  |agg l=>
   rw[hT] at h h1 rv
   simp only[Zy] at h
   subst h
   simp only[Zb] at rv
   obtain⟨cs,hv,rs⟩:=rv
   refine⟨cs.toArray,rfl,?_,by simpa using Zh.length rs,by simpa using rs⟩
   have:ZU P t=true:=by rw[<- h1];rfl
   rw[this,hv]
   rfl
  |_=>
   rw[hT] at h h1 h2 rv
   simp only[Zy] at h
   subst h
   have hg:ZU P t=false:=by rw[<- h1];rfl
   refine⟨#[a.tmps.getD i undef],rfl,by rw[hg];rfl,rfl,?_⟩
   simp only[Zh]
   refine⟨_,[],rfl,?_,rv,rfl⟩
   first
    |rfl
    |(simp[Zy,Za8] at h2)
 |cell x t'=>
  simp only[resCells] at h
  split at h
  case h_2=>cases h
  rename_i id hx
  split at h
  case h_2=>cases h
  rename_i og bt cells ho
  split at h
  case isFalse=>cases h
  rename_i hck
  obtain⟨rfl,hu,h0,h1,hl⟩:=hck
  injection h with h
  subst h
  have rv:=hr.ev (.tmp x)
  simp only[St.ev,Act.eval] at rv
  rw[hx] at rv
  simp only[Zb] at rv
  obtain⟨hB,b,hh,hv⟩:=rv
  obtain⟨o',ho',ro⟩:=hr.obs id hB
  rw[ho] at ho'
  injection ho' with ho'
  subst ho'
  simp only[Zn] at ro
  obtain⟨⟨b',c,e,hh',hfp,hb,rc⟩,_⟩:=ro
  rw[hh] at hh'
  injection hh' with hh';injection hh' with hh';injection hh' with hh' _ _
  subst hh'
  have hcl:c.toList.length=P.cellsOf t':=by rw[Zh.length rc,hl]
  have hrun:=Za7 (P:=P) hb hu c.toList hcl h0 h1 (off:=0) (λj v hv=>by simpa using hv)
  refine⟨_,c,?_,rfl,by simpa using Zh.length rc,rc⟩
  have e1:(resSem a.tmps (.cell x t')).run P w=(loadVar t' ⟨b,0,none⟩).run P w:=by
   show(Sem.bind (asAddr (a.tmps.getD x undef)) _).run P w=_
   rw[Zm,hv]
   rfl
  rw[e1]
  have e2:(Instr.loadAt t' (.pointer (some ⟨b,0,none⟩))).run P w=(loadVar t' ⟨b,0,none⟩).run P w:=by
   show(Sem.bind (Instr.sureAddr _) _).run P w=_
   rw[Zm]
   rfl
  rw[<- e2,hrun]
  congr 1
  cases ZU P t' with
  |true=>simp
  |false=>
   simp only[Bool.false_eq_true,if_false]
   rw[Array.getD_eq_getD_getElem?,<- Array.getElem?_toList]
   cases c.toList<;>rfl
theorem resBox_sound (hr:Rel P X w g st a) {rv:ResultVar} {ds:List D} {id:Nat} (h:resBox st rv=some (ds,id)):
  ∃ v,g.B id/\(resSem a.tmps rv).run P w=.ok v w/\∃ o,st.ob[id]? = some o/\BoxRel w g.I ds v (g.fp id):=by
 cases rv with
 |cell _ _=>simp[resBox] at h
 |tmp i=>
  simp only[resBox] at h
  split at h
  case h_2=>cases h
  rename_i id' hx
  split at h
  case h_2=>cases h
  rename_i og bt cells ho
  obtain⟨ds',hds,h⟩:=Option.map_eq_some_iff.mp h
  injection h with e1 e2;subst e1 e2
  have rv:=hr.ev (.tmp i)
  simp only[St.ev,Act.eval] at rv
  rw[hx] at rv
  simp only[Zb] at rv
  obtain⟨hB,b,hh,hv⟩:=rv
  obtain⟨o',ho',ro⟩:=hr.obs id' hB
  rw[ho] at ho'
  injection ho' with ho'
  subst ho'
  simp only[Zn] at ro
  obtain⟨⟨b',c,e,hh',hfp,hb,rc⟩,_⟩:=ro
  rw[hh] at hh'
  injection hh' with hh';injection hh' with hh';injection hh' with hh' _ _
  subst hh'
  obtain⟨rd,hln⟩:=datTs_rd (c:=c) (p:=0) hds rc (λj u hu=>by simpa using hu)
  have hcl:c.size=cells.length:=by simpa using Zh.length rc
  exact⟨_,hB,rfl,_,ho,b,c,e,hv,hfp,hb,by omega,rd⟩
theorem resOf_sound (hT:Zar P) (hs:Zac X w0 w):∀ {tys:List TypeId} {rvs:List ResultVar} {ra:List (List Bool)} {f:Bool} {cs:List (List C)} {g:G} {st st':St} {Z:List Nat},resOf P st ra tys rvs=some (f,cs,st')->Rel P X w g st a->ZaC g st->Took X w g Z->
  ∃ g' Fr vals,Rel P X w g' st' a/\Took X w g' (Z++Fr)/\ResVals P a w rvs vals/\ZaO P w (g'.IM X f) tys cs vals Fr/\(f=true->∀ b∈Fr,X.new b)/\(∀ b,g.I b->g'.I b)/\ZaC g' st'
 |[],[],ra,f,cs,g,st,st',Z,h,hr,hf,hz=>by
  simp only[resOf] at h
  injection h with h;injection h with e1 h;injection h with e2 e3;subst e1 e2 e3
  exact⟨g,[],[],hr,by simpa using hz,rfl,by simp[ZaO],by simp,λ_ h=>h,hf⟩
 |[],_::_,ra,_,_,_,_,_,_,h,_,_,_=>by simp[resOf] at h
 |_::_,[],ra,_,_,_,_,_,_,h,_,_,_=>by simp[resOf] at h
 |t::tys,rv::rvs,ra,f,cs,g,st,st',Z,h,hr,hf,hz=>by
  simp only[resOf] at h
  cases hp:Zb5 P t with
  |true=>
   rw[hp] at h
   simp only[cond_true] at h
   split at h
   case h_2=>cases h
   rename_i ds id h1
   split at h
   case h_2=>cases h
   rename_i f2 cs2 st3 h4
   injection h with h;injection h with e1 h;injection h with e2 e3;subst e1 e2 e3
   obtain⟨v,hB,hrun,o,ho,hv⟩:=resBox_sound hr h1
   obtain⟨g3,Fr,vals,z1,z2,z3,z4,z5,z6,z7⟩:=resOf_sound hT hs h4 (hr.gone1 ho hB) hf.setOb (hz.take hr hB)
   refine⟨g3,g.fp id++Fr,v::vals,z1,by rw[<- List.append_assoc];exact z2,⟨v,vals,rfl,hrun,z3⟩,?_,by simp,z6,z7⟩
   simp only[ZaO]
   refine⟨v,vals,g.fp id,Fr,rfl,rfl,.inr ⟨hp,ds,rfl,hv.weaken λb hb=>⟨z6 b hb,by simp⟩⟩,ZaO.weaken (λb hb=>⟨hb.1,by simp⟩) z4⟩
  |false=>
  rw[hp] at h
  simp only[cond_false] at h
  split at h
  case h_2=>cases h
  rename_i ts h1
  split at h
  case h_2=>cases h
  rename_i ts' st1 h2
  split at h
  case h_2=>cases h
  rename_i f1 c st2 h3
  split at h
  case h_2=>cases h
  rename_i f2 cs2 st3 h4
  injection h with h;injection h with e1 h;injection h with e2 e3;subst e1 e2 e3
  obtain⟨v,cells,hrun,hv,hsz,rts⟩:=resCells_sound hr h1
  obtain⟨g1,q1,q2,q3,q4,q5⟩:=ZcD hT hs h2 hr hf hz rts
  obtain⟨mv,m1,m2,rfl⟩:=cellsC_mv h3
  have ow:=Zt.sound q1 (c:=cells) (p:=0) m1 q2.sees q4 (λj u hu=>by simpa using hu)
  have hfr:=Zt.fresh q1 m1 q2.sees
  have hB:=Zt.held q1 m1 q2.sees
  obtain⟨g2,p1,p2,p3,p4,p5⟩:=Took.gones (mv:=mv) q1 q2 q3 m2 hB
  obtain⟨g3,Fr,vals,z1,z2,z3,z4,z5,z6,z7⟩:=resOf_sound hT hs h4 p2 p3 p4
  refine⟨g3,mv.flatMap g1.fp++Fr,v::vals,z1,by rw[<- List.append_assoc];exact z2,⟨v,vals,rfl,hrun,z3⟩,?_,λhff b hb=>?_,λb hb=>z6 b (p5.imp b (q5.imp b hb)),z7⟩
  ·simp only[ZaO]
   have hcl:c.length=ts.length:=by
    have a1:=Za.length ow
    have a2:=(Zt.plain m1).2
    have a3:=Zh.length q4
    have:cells.toList.length=ts'.length:=a3
    simp at this
    omega
   exact⟨v,vals,mv.flatMap g1.fp,Fr,rfl,rfl,.inl ⟨hp,cells,hv,by rw[hsz,hcl],Za.weaken (λb hb=>IM_and (f2:=f2) ⟨z6 b (p5.imp b hb.1),hb.2⟩) ow⟩,ZaO.weaken (λb hb=>IM_and' hb) z4⟩
  ·simp only[Bool.and_eq_true] at hff
   rcases List.mem_append.mp hb with q|q
   ·exact hfr hff.1 b q
   ·exact z5 hff.2 b q
end
end Go.T
