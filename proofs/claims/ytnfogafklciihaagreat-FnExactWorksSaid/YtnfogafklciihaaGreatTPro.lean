/- The evaluator and why it is right. -/
import Derived.Test.YtnfogafklciihaaGreatTFun1
import Derived.Laws.Sem
set_option linter.unusedVariables false
set_option linter.unusedSimpArgs false
namespace Go.T
structure Took (X:Fix) (w:World) (g:G) (Z:List Nat):Prop where
 nodup:Z.Nodup
 off:∀ b∈Z,¬ g.I b/\(∀ id,g.B id->b∉g.fp id)/\b<w.heap.size/\(X.base<=b\/b∈X.lent)
section
variable {P:Program} {X:Fix} {w0 w:World} {g:G} {st:St} {a:Act}
theorem Took.take {Z:List Nat} (h:Took X w g Z) (hr:Rel P X w g st a) {id:Nat} (hB:g.B id):Took X w (g.less id) (Z++g.fp id):=by
 refine⟨List.nodup_append.mpr ⟨h.nodup,hr.sep.nodup id hB,λx hx y hy e=>?_⟩,λb hb=>?_⟩
 ·subst e;exact(h.off x hx).2.1 id hB hy
 ·rcases List.mem_append.mp hb with q|q
  ·obtain⟨h1,h2,h3⟩:=h.off b q;refine⟨h1,λi hi hm=>?_,h3⟩
   simp only[G.less] at hm;split at hm
   ·cases hm
   ·exact h2 i hi hm
  ·obtain⟨m1,m2,m3⟩:=hr.sep.mine id hB b q;refine⟨m1,λi hi hm=>?_,m2,m3⟩
   simp only[G.less] at hm;split at hm
   ·cases hm
   ·rename_i hne;exact hr.sep.apart id i hB hi (λe=>hne e.symm) b q hm
theorem Took.act {g':G} {Z:List Nat} (h:Took X w g Z) (hI:∀ b,g'.I b->g.I b\/∃ id,g.B id/\b∈g.fp id) (hfp:∀ id,g'.B id->∀ b,b∈g'.fp id->g.B id/\b∈g.fp id):Took X w g' Z:=by
 refine⟨h.nodup,λb hb=>?_⟩
 obtain⟨h1,h2,h3⟩:=h.off b hb;refine⟨λq=>?_,λid hB hm=>?_,h3⟩
 ·rcases hI b q with q|⟨id,hB,hm⟩
  ·exact h1 q
  ·exact h2 id hB hm
 ·obtain⟨q1,q2⟩:=hfp id hB b hm;exact h2 id q1 q2
theorem ZaB.setOb {id:Nat} {o:Obj} (h:ZaB g st):ZaB g (st.setOb id o):=λi hi=>h i (by simpa[St.setOb] using hi)
theorem ZaB.less {id:Nat} (h:ZaB g st):ZaB (g.less id) st:=λi hi=>h i hi
def ArgsOk (P:Program):List A->List TypeId->Prop
 |[],[]=>True
 |a::as,t::ts=>(∀ g cs,a=.own g cs->cs.length<=1000/\(g=true\/ZA P 6 t=[t]))/\ArgsOk P as ts
 |_,_=>False
theorem Zdc {ow:Bool}:∀ {as:List A} {tys:List TypeId} {st st':St} {l:List T} {j:Nat},Zai P ow st j tys as=some (l,st')->ArgsOk P as tys
 |[],[],_,_,_,_,_=>by simp[ArgsOk]
 |[],_::_,st,st',l,j,h=>by simp[Zai] at h
 |a::as,[],st,st',l,j,h=>by cases a<;>simp[Zai] at h
 |a::as,t::tys,st,st',l,j,h=>by
  simp only[ArgsOk]
  cases a with
  |own g cs=>
   simp only[Zai] at h;split at h;case isFalse=>cases h
   rename_i hck;split at h;case h_2=>cases h
   split at h;case h_2=>cases h
   rename_i h2;exact⟨λg' cs' e=>by injection e with e1 e2;subst e1 e2;exact hck,Zdc h2⟩
  |box cs=>
   simp only[Zai] at h;split at h;case h_2=>cases h
   split at h;case h_2=>cases h
   rename_i h2;exact⟨by simp,Zdc h2⟩
  |_=>
   simp only[Zai] at h;split at h;case h_2=>cases h
   rename_i h2;exact⟨by simp,Zdc h2⟩
theorem Took.gones:∀ {mv:List Nat} {g:G} {st:St} {Z:List Nat},Rel P X w g st a->ZaB g st->Took X w g Z->mv.Nodup->(∀ id∈mv,g.B id)->
  ∃ g',g'.I=g.I/\Rel P X w g' (st.gones mv) a/\ZaB g' (st.gones mv)/\Took X w g' (Z++mv.flatMap g.fp)/\Ext w w g g' (λ_=>False)
 |[],g,st,Z,hr,hf,hz,_,_=>⟨g,rfl,by rw[St.gones_nil];exact hr,by rw[St.gones_nil];exact hf,by simpa using hz,⟨λ_ h=>h,λ_ _ _=>rfl,λ_ _ h=>h,hr.sep.imm,λ_ h=>h,λ_ _=>rfl,λ_ _=>rfl⟩⟩
 |id::mv,g,st,Z,hr,hf,hz,hnd,hB=>by
  simp only[List.nodup_cons] at hnd;have hBi:=hB id Sp;obtain⟨o,ho,_⟩:=hr.obs id hBi;obtain⟨g',q1,q2,q3,q4,q5⟩:=Took.gones (mv:=mv) (hr.gone1 ho hBi) (ZaB.setOb (g:=g.less id) (id:=id) (o:=.gone) (st:=st) hf) (hz.take hr hBi) hnd.2 (λi hi=>hB i (by simp[hi]));refine⟨g',q1,by rw[St.gones_cons];exact q2,by rw[St.gones_cons];exact q3,?_,⟨λb hb=>q5.imp b hb,λ_ _ _=>rfl,λ_ _ h=>h,hr.sep.imm,λi h=>q5.B i h,λi h=>q5.hv i h,λi h=>q5.sz i h⟩⟩
  have:mv.flatMap (g.less id).fp=mv.flatMap g.fp:=by
   have gen:∀ l:List Nat,id∉l->l.flatMap (g.less id).fp=l.flatMap g.fp:=by
    intro l;induction l with
    |nil=>intro _;rfl
    |cons x l ih=>
     intro h;simp only[List.mem_cons,not_or] at h;rw[List.flatMap_cons,List.flatMap_cons,ih h.2];simp only[G.less]
     rw[if_neg (λe=>h.1 e.symm)]
   exact gen mv hnd.1
  rw[this] at q4;rw[List.flatMap_cons,<- List.append_assoc];exact q4
theorem ZaB.sees {l:List Nat} (hf:ZaB g st):Z9 g st st l:=λid _ h=>⟨rfl,hf id (by simpa using h)⟩
def Zae:List A->List Out->Prop
 |[],os=>os=[]
 |.own _ cs::as,os=>(∃ os',os=.lost::os'/\Zae as os')\/∃ cs' os',os=.own cs'::os'/\cs'.length=cs.length/\(∀ (i:Nat) (x:D),cs[i]? = some (.d x)->cs'[i]? = some (.d x))/\Zae as os'
 |.box cs::as,os=>∃ cs' os',os=.box cs'::os'/\cs'.length=cs.length/\Zae as os'
 |_::as,os=>Zae as os
def FreshT (st:St) (t:T):Prop:=
 match t with
 |.d fr x=>(fr||Zak x)=true
 |.row i=>∀ og fr ct xs,st.ob[i]? = some (.row og fr ct xs)->fr=true
 |_=>True
def FreshM (st:St):Prop:=∀ (id:Nat) (o:Obj),st.ob[id]? = some o->
 match o with
 |.row (some _) fr _ _=>fr=true
 |.box (some _) _ cs=>∀ t∈cs,FreshT st t
 |_=>True
theorem FreshM.under {st1 st:St} (hb:ZaI st1 st) (h:FreshM st):FreshM st1:=by
 intro id o ho;cases o with
 |row og fr ct xs=>
  have:=h id _ (hb id _ ho Sp);cases og<;>first|(simp;done)|simpa using this
 |box og t cs=>
  have:=h id _ (hb id _ ho Sp);cases og with
  |none=>trivial
  |some m=>
   intro t ht;have q:=this t ht;cases t with
   |row i=>exact λog fr ct xs ho=>q og fr ct xs (hb i _ ho Sp)
   |_=>exact q
 |_=>trivial
theorem freshTs_all:∀ {ts:List T},ZaG st ts=true->∀ t∈ts,FreshT st t
 |[],_,t,ht=>by cases ht
 |x::ts,h,t,ht=>by
  rcases List.mem_cons.mp ht with rfl|ht
  ·cases t<;>simp only[ZaG] at h;case d fr y=>
    simp only[Bool.and_eq_true] at h;exact h.1
   case row i=>
    intro og fr ct xs ho;rw[ho] at h;simp only[Bool.and_eq_true] at h;exact h.1
   all_goals trivial
  ·refine freshTs_all (ts:=ts) ?_ t ht;cases x<;>simp only[ZaG] at h;case d fr y=>simp only[Bool.and_eq_true] at h;exact h.2
   case nil=>exact h
   case row i=>
    split at h
    ·simp only[Bool.and_eq_true] at h;exact h.2
    ·cases h
   all_goals cases h
theorem freshM_of (h:freshOuts st=true):FreshM st:=by
 unfold freshOuts at h;rw[List.all_eq_true] at h;intro id o ho;have:=h o (List.mem_of_getElem? ho);cases o with
 |row og fr ct xs=>cases og<;>first|(simp;done)|simpa using this
 |box og t cs=>
  cases og with
  |none=>trivial
  |some m=>exact freshTs_all this
 |_=>trivial
theorem ZaT.freshTs {cts:List TypeId} {ts:List T} {cs:List C} {mv:List Nat} (h:ZaT st cts ts cs mv):(∀ t∈ts,FreshT st t)->Go.T.ZaG st ts=true:=by
 induction h with
 |nil=>exact λ_=>rfl
 |row h r ih=>
  intro q;have:=q _ (List.mem_cons_self) _ _ _ _ h;subst this;simp only[Go.T.ZaG,h,Bool.true_and]
  exact ih λt ht=>q t (by simp[ht])
 |none r ih=>exact λq=>by simp only[Go.T.ZaG];exact ih λt ht=>q t (by simp[ht])
 |dat r ih=>
  intro q;simp only[Go.T.ZaG,Bool.and_eq_true]
  exact⟨q _ (List.mem_cons_self),ih λt ht=>q t (by simp[ht])⟩
theorem Zcl {Z:List Nat} {I Q Qo:Nat->Prop} {ff:Bool} {c:Array Value} (hk:Keeps w0 w I g.I) (hQd:∀ b,Q b->Qo b) (hQo:∀ b,(ff=true->X.new b)->Qo b):∀ {cts:List TypeId} {cs l:List C} {g':G} {st st':St} {j p:Nat} {F:List Nat} {Z:List Nat},Za5 st j cts cs=some (l,st')->(ff=true->FreshM st)->g'.I=g.I->Rel P X w g' st a->ZaB g' st->Took X w g' Z->
  Zf P w0 (λb=>I b/\Q b) c cs cts p F->(∀ (i:Nat) (v:Value),(∃ xs,cs[i]? = some (.own xs))->c[p+i]? = some v->X.av (j+i)=some v)->
  ∃ g2 Fo,g2.I=g.I/\Rel P X w g2 st' a/\ZaB g2 st'/\Took X w g2 (Z++Fo)/\Zf P w (λb=>g.I b/\Qo b) c l cts p Fo/\(∀ b∈Fo,Qo b)/\l.length=cs.length/\∀ (i:Nat) (x:D),cs[i]? = some (.d x)->l[i]? = some (.d x)
 |[],[],l,g',st,st',j,p,F,Z,h,hfm,hg,hr,hf,hz,r,hav=>by
  simp only[Za5] at h;injection h with h;injection h with e1 e2;subst e1 e2;exact⟨g',[],hg,hr,hf,by simpa using hz,by simp[Zf],by simp,rfl,by simp⟩
 |_::_,[],l,g',st,st',j,p,F,Z,h,hfm,hg,hr,hf,hz,r,hav=>by
  simp[Zf] at r
 |[],_::_,l,g',st,st',j,p,F,Z,h,hfm,hg,hr,hf,hz,r,hav=>by
  simp[Zf] at r
 |ct::cts,.d x::cs,l,g',st,st',j,p,F,Z,h,hfm,hg,hr,hf,hz,r,hav=>by
  simp only[Za5] at h;split at h;case h_2=>cases h
  rename_i l1 st1 h1;injection h with h;injection h with e1 e2;subst e1 e2;simp only[Zf] at r;obtain⟨ct',cts',v,F1,F2,e,rfl,hv,r1,r2⟩:=r;injection e with e1 e2;subst e1 e2;simp only[OwC] at r1;obtain⟨g2,Fo,q1,q2,q3,q4,q5,q5',q6,q7⟩:=Zcl hk hQd hQo (Z:=Z) h1 hfm hg hr hf hz r2 (λi u hi hu=>by
   have:=hav (i+1) u (by simpa using hi) (by rwa[show p+(i+1)=p+1+i from by omega]);rwa[show j+(i+1)=j+1+i from by omega] at this)
  refine⟨g2,Fo,q1,q2,q3,q4,?_,q5',by simp[q6],λi y hy=>?_⟩
  ·simp only[Zf]
   exact⟨ct,cts,v,[],Fo,rfl,by simp,hv,by simp only[OwC];exact⟨trivial,RdD.mono ⟨λb hb=>⟨hk.imp b hb.1,hQd b hb.2⟩,λb hb=>hk.same b hb.1⟩ r1.2⟩,q5⟩
  ·cases i with
   |zero=>simpa using hy
   |succ i=>simpa using q7 i y (by simpa using hy)
 |ct::cts,.own xs0::cs,l,g',st,st',j,p,F,Z,h,hfm,hg,hr,hf,hz,r,hav=>by
  simp only[Za5] at h;split at h;case h_2=>cases h
  rename_i id hid;split at h;case h_2=>cases h
  rename_i og fr rt xs ho;split at h;case isFalse=>cases h
  rename_i hrt;subst hrt;split at h;case h_2=>cases h
  rename_i l1 st1 h1;injection h with h;injection h with e1 e2;subst e1 e2;simp only[Zf] at r;obtain⟨ct',cts',v,F1,F2,e,rfl,hv,r1,r2⟩:=r;injection e with e1 e2;subst e1 e2;have hB:g'.B id:=hf id (List.getElem?_eq_some_iff.mp ho).1;obtain⟨o',ho',ro⟩:=hr.obs id hB;rw[ho] at ho';injection ho' with ho';subst ho';simp only[Zy] at ro;obtain⟨⟨row,_⟩,hnew,horg⟩:=ro;have hog:og=some j:=by
   obtain⟨h1,h2,_⟩:=List.findIdx?_eq_some_iff_getElem.mp hid;have:st.ob[id]=.row og fr rt xs:=by
    have:=(List.getElem?_eq_some_iff.mp ho).2;exact this
   rw[this] at h2;simpa[orgOf] using h2
  have hhv:g'.hv id=v:=by
   have h1:=horg j hog;have h2:=hav 0 v ⟨xs0,by simp⟩ (by simpa using hv);rw[Nat.add_zero,h1] at h2;exact Option.some.inj h2
  obtain⟨g2,Fo,q1,q2,q3,q4,q5,q5',q6,q7⟩:=Zcl hk hQd hQo (Z:=Z++g'.fp id) h1 (λq=>(hfm q).under (ZaI.setOb _ _)) (show(g'.less id).I=g.I from hg) (hr.gone1 ho hB) hf.setOb (hz.take hr hB) r2 (λi u hi hu=>by
   have:=hav (i+1) u (by simpa using hi) (by rwa[show p+(i+1)=p+1+i from by omega]);rwa[show j+(i+1)=j+1+i from by omega] at this)
  have hfrt:ff=true->fr=true:=λq=>by
   have:=hfm q id _ ho;rw[hog] at this;exact this
  refine⟨g2,g'.fp id++Fo,q1,q2,q3,by rw[<- List.append_assoc];exact q4,?_,λb hb=>?_,by simp[q6],λi y hy=>?_⟩
  rotate_left
  ·rcases List.mem_append.mp hb with q|q
   ·exact hQo b λz=>hnew (hfrt z) b q
   ·exact q5' b q
  rotate_left
  ·simp only[Zf]
   refine⟨rt,cts,v,g'.fp id,Fo,rfl,rfl,hv,?_,q5⟩
   rw[<- hhv];exact OwC.weaken (λb hb=>⟨by rw[<- hg];exact hb.1,hQo b λz=>hb.2 (hfrt z)⟩) row
  ·cases i with
   |zero=>simp at hy
   |succ i=>simpa using q7 i y (by simpa using hy)
theorem Zck:∀ {cts:List TypeId} {cs l:List C} {st st':St} {j:Nat},Za5 st j cts cs=some (l,st')->ZaI st' st
 |_,[],l,st,st',j,h=>by
  simp only[Za5] at h;injection h with h;injection h with e1 e2;subst e2;exact ZaI.refl _
 |[],.d _::_,_,_,_,_,h=>by simp[Za5] at h
 |[],.own _::_,_,_,_,_,h=>by simp[Za5] at h
 |ct::cts,.d x::cs,l,st,st',j,h=>by
  simp only[Za5] at h;split at h;case h_2=>cases h
  rename_i h1;injection h with h;injection h with e1 e2;subst e2;exact Zck h1
 |ct::cts,.own _::cs,l,st,st',j,h=>by
  simp only[Za5] at h;split at h;case h_2=>cases h
  split at h;case h_2=>cases h
  split at h;case isFalse=>cases h
  split at h;case h_2=>cases h
  rename_i h1;injection h with h;injection h with e1 e2;subst e2;exact(Zck h1).trans (ZaI.setOb _ _)
theorem ZaP {I Q Qo:Nat->Prop} {ff:Bool} (hk:Keeps w0 w I g.I) (hQd:∀ b,Q b->Qo b) (hQo:∀ b,(ff=true->X.new b)->Qo b) {lo:Bool}:∀ {as:List A} {ms:List (Mode×TypeId)} {tys:List TypeId} {vs:List Value} {os:List Out} {g':G} {st st':St} {j:Nat} {F0:List Nat} {Z:List Nat},Zcj P lo st j tys as=some (os,st')->(ff=true->FreshM st)->g'.I=g.I->Rel P X w g' st a->ZaB g' st->Took X w g' Z->
  ZY P w0 I Q as ms vs F0->ZbX P ms tys=true->AvOk X j vs->ArgsOk P as tys->
  ∃ g2 Fo,g2.I=g.I/\Rel P X w g2 st' a/\ZaB g2 st'/\Took X w g2 (Z++Fo)/\Zac P w g.I Qo as ms vs os Fo/\Zae as os
 |[],[],tys,vs,os,g',st,st',j,F0,Z,h,hfm,hg,hr,hf,hz,r,hm,hav,hlen=>by
  cases tys with
  |cons _ _=>simp[ZbX] at hm
  |nil=>
   simp only[Zcj] at h;injection h with h;injection h with e1 e2;subst e1 e2;exact⟨g',[],hg,hr,hf,by simpa using hz,by simp[Zac],by simp[Zae]⟩
 |[],_::_,_,_,_,_,_,_,_,_,_,_,_,_,_,_,_,r,_,_,_=>by simp[ZY] at r
 |_::_,[],_,_,_,_,_,_,_,_,_,_,_,_,_,_,_,r,_,_,_=>by simp[ZY] at r
 |x::as,(m,ct)::ms,tys,vs,os,g',st,st',j,F0,Z,h,hfm,hg,hr,hf,hz,r,hm,hav,hlen=>by
  cases tys with
  |nil=>simp[ZbX] at hm
  |cons t tys=>
   simp only[ZY] at r;obtain⟨v,vs',F1,F2,rfl,rfl,r1,r2⟩:=r;simp only[ZbX,Bool.and_eq_true] at hm;obtain⟨⟨hm1,hmb⟩,hm2⟩:=hm;simp only[ArgsOk] at hlen;obtain⟨hlen,hlen'⟩:=hlen;cases x with
   |own gg cs=>
    have hmo:m=.own:=by
     cases m<;>cases gg<;>simp only[ZV] at r1
     all_goals rfl
    subst hmo;have htt:ct=t:=by simpa using hm1
    subst htt;simp only[Zcj] at h;split at h;case h_2=>
     split at h;case h_2=>cases h
     rename_i os1 st2 h2;injection h with h;injection h with e1 e2;subst e1 e2;obtain⟨g3,Fo',z1,z2,z3,z4,z5,z6⟩:=ZaP hk hQd hQo (Z:=Z) h2 hfm hg hr hf hz r2 hm2 hav.tail hlen';exact⟨g3,Fo',z1,z2,z3,z4,by simp only[Zac];exact .inl ⟨os1,rfl,z5⟩,by simp only[Zae];exact .inl ⟨os1,rfl,z6⟩⟩
    rename_i c1 st1 h1;replace h1:Za5 st (1000*j) (ZA P 6 ct) cs=some (c1,st1):=by
     cases lo with
     |true=>cases h1
     |false=>exact h1
    split at h;case h_2=>cases h
    rename_i os1 st2 h2;injection h with h;injection h with e1 e2;subst e1 e2;have hav0:=hav 0 v Sp;obtain⟨hcl,hflat⟩:=hlen gg cs rfl;cases gg with
    |true=>
     simp only[ZV] at r1;obtain⟨vals,rfl,hvl,ow,hqb⟩:=r1;obtain⟨g2,Fo,q1,q2,q3,q4,q5,q5',q6,q7⟩:=Zcl hk hQd hQo (Z:=Z) h1 hfm hg hr hf hz ow (λi u hi hu=>by
      obtain⟨xs,hi⟩:=hi;have hi:=(List.getElem?_eq_some_iff.mp hi).1;have:=hav0.1 vals rfl i Om;rw[Nat.add_zero] at this;rw[this];simpa using hu)
     obtain⟨g3,Fo',z1,z2,z3,z4,z5,z6⟩:=ZaP hk hQd hQo (Z:=Z++Fo) h2 (λq=>(hfm q).under (Zck h1)) q1 q2 q3 q4 r2 hm2 hav.tail hlen';refine⟨g3,Fo++Fo',z1,z2,z3,by rw[<- List.append_assoc];exact z4,?_,?_⟩
     ·simp only[Zac,ZV]
      exact .inr ⟨c1,os1,Fo,Fo',rfl,rfl,q6,⟨vals,rfl,by rw[hvl,q6],q5,q5'⟩,z5⟩
     ·simp only[Zae]
      exact .inr ⟨c1,os1,rfl,q6,q7,z6⟩
    |false=>
     simp only[ZV] at r1;obtain⟨r1,hqb⟩:=r1;have hcs:cs.length=1:=by simpa using Zf.length r1
     have hft:=hflat.resolve_left Sp;rw[hft] at h1;obtain⟨g2,Fo,q1,q2,q3,q4,q5,q5',q6,q7⟩:=Zcl hk hQd hQo (Z:=Z) h1 hfm hg hr hf hz r1 (λi u hi hu=>by
      obtain⟨xs,hi⟩:=hi;have hi1:=(List.getElem?_eq_some_iff.mp hi).1;have hi0:i=0:=by omega
      subst hi0;simp at hu;subst hu;simp only[Nat.add_zero] at hav0⊢
      match cs,hcs,hi with
      |[c0],_,hi=>
       simp at hi;subst hi;simp only[Zf,OwC] at r1;obtain⟨_,_,v',_,_,_,_,hv',⟨a,cap,hvv,_⟩,_⟩:=r1;simp at hv';subst hv';exact hav0.2.1 _ _ _ hvv)
     obtain⟨g3,Fo',z1,z2,z3,z4,z5,z6⟩:=ZaP hk hQd hQo (Z:=Z++Fo) h2 (λq=>(hfm q).under (Zck h1)) q1 q2 q3 q4 r2 hm2 hav.tail hlen';refine⟨g3,Fo++Fo',z1,z2,z3,by rw[<- List.append_assoc];exact z4,?_,?_⟩
     ·simp only[Zac,ZV]
      exact .inr ⟨c1,os1,Fo,Fo',rfl,rfl,q6,⟨q5,q5'⟩,z5⟩
     ·simp only[Zae]
      exact .inr ⟨c1,os1,rfl,q6,q7,z6⟩
   |box cs=>
    cases m<;>simp only[ZV] at r1;obtain⟨b,c,e,F',rfl,rfl,hb,hsz,ow,hqb⟩:=r1;have hpt:ct=Zby P t:=by simpa using hmb
    subst hpt;simp only[Zcj] at h;split at h;case h_2=>cases h
    rename_i id hid;split at h;case h_2=>cases h
    rename_i og bt cells ho;split at h;case isFalse=>cases h
    rename_i hck;obtain⟨hbt,hck⟩:=hck;subst hbt;split at h;case h_2=>cases h
    rename_i c1 st1 hl;split at h;case h_2=>cases h
    rename_i os1 st2 h2;injection h with h;injection h with e1 e2;subst e1 e2;have hB:g'.B id:=hf id (List.getElem?_eq_some_iff.mp ho).1;obtain⟨o',ho',ro⟩:=hr.obs id hB;rw[ho] at ho';injection ho' with ho';subst ho';simp only[Zy] at ro;obtain⟨⟨b',c',e',hh',hfp',hb',rc'⟩,horg⟩:=ro;have hog:og=some (1000*j):=by
     obtain⟨h1,h2,_⟩:=List.findIdx?_eq_some_iff_getElem.mp hid;have:st.ob[id]=.box og (Zby P t) cells:=(List.getElem?_eq_some_iff.mp ho).2;rw[this] at h2;simpa[orgOf] using h2
    have hhv:g'.hv id=.pointer (some ⟨b,0,none⟩):=by
     have h1:=horg _ hog;have h2:=(hav 0 (.pointer (some ⟨b,0,none⟩)) Sp).2.2 _ rfl;rw[Nat.add_zero,h1] at h2;exact Option.some.inj h2
    rw[hhv] at hh';injection hh' with hh';injection hh' with hh';injection hh' with hh' _ _;subst hh';obtain⟨m,a1,a2,rfl⟩:=Zbe hl;have a1':=a1.back (ZaI.setOb _ _);obtain⟨ow',hmB,hcl1⟩:=a1'.sound hr (c:=c') (p:=0) hf.sees rc' (λj u hu=>by simpa using hu);have hfT:ff=true->ZaG st cells=true:=λq=>a1'.freshTs (by
     have:=hfm q id _ ho;rw[hog] at this;exact this)
    have how':Zf P w (λb=>g'.I b/\Qo b) c' c1 (ZA P 6 (Zby P t)) 0 (m.flatMap g'.fp)/\∀ b∈m.flatMap g'.fp,Qo b:=by
     cases hff:ff with
     |false=>exact⟨Zf.weaken (λb hb=>⟨hb,hQo b λq=>by rw[hff] at q;cases q⟩) ow',λb _=>hQo b λq=>by rw[hff] at q;cases q⟩
     |true=>
      obtain⟨y1,y2⟩:=a1'.soundF hr (c:=c') (p:=0) (hfT hff) hf.sees rc' (λj u hu=>by simpa using hu);refine⟨Zf.weaken (λb hb=>⟨hb.1,hQo b λ_=>hb.2 rfl⟩) y1,λb hb=>?_⟩
      obtain⟨i,hi,hb⟩:=List.mem_flatMap.mp hb;exact hQo b λ_=>y2 i hi b hb
    have hcl:c'.size=cells.length:=by simpa using Zo.length rc'
    have hnm:id∉m:=λhm=>by
     obtain⟨_,_,_,_,q⟩:=a1.rows id hm;exact setOb_row q
    obtain⟨g2,q1,q2,q3,q4,_⟩:=Took.gones (mv:=m) (hr.gone1 ho hB) (ZaB.setOb (g:=g'.less id) (id:=id) (o:=.gone) (st:=st) hf) (hz.take hr hB) a2 (λi hi=>hmB i hi);have hfl:m.flatMap (g'.less id).fp=m.flatMap g'.fp:=by
     have gen:∀ l:List Nat,id∉l->l.flatMap (g'.less id).fp=l.flatMap g'.fp:=by
      intro l;induction l with
      |nil=>intro _;rfl
      |cons x l ih=>
       intro h;simp only[List.mem_cons,not_or] at h;rw[List.flatMap_cons,List.flatMap_cons,ih h.2];simp only[G.less]
       rw[if_neg (λe=>h.1 e.symm)]
     exact gen m hnm
    rw[hfl] at q4;obtain⟨g3,Fo',z1,z2,z3,z4,z5,z6⟩:=ZaP hk hQd hQo (Z:=Z++g'.fp id++m.flatMap g'.fp) h2 (λq=>(hfm q).under ((ZaI.gones _ _).trans (ZaI.setOb _ _))) (q1.trans hg) q2 q3 q4 r2 hm2 hav.tail hlen';refine⟨g3,(g'.fp id++m.flatMap g'.fp)++Fo',z1,z2,z3,by simpa[List.append_assoc] using z4,?_,?_⟩
    ·simp only[Zac,ZV]
     exact⟨c1,os1,g'.fp id++m.flatMap g'.fp,Fo',rfl,rfl,by rw[hcl1,hck],⟨b,c',e',m.flatMap g'.fp,rfl,by rw[hfp'];rfl,hb',Om,by rw[<- hg];exact how'.1,how'.2⟩,z5⟩
    ·simp only[Zae]
     exact⟨c1,os1,rfl,by rw[hcl1,hck],z6⟩
   |d y=>
    simp only[Zcj] at h;obtain⟨g3,Fo',z1,z2,z3,z4,z5,z6⟩:=ZaP hk hQd hQo (Z:=Z) h hfm hg hr hf hz r2 hm2 hav.tail hlen';exact⟨g3,Fo',z1,z2,z3,z4,by simpa only[Zac] using z5,by simpa only[Zae] using z6⟩
   |agg y=>
    simp only[Zcj] at h;obtain⟨g3,Fo',z1,z2,z3,z4,z5,z6⟩:=ZaP hk hQd hQo (Z:=Z) h hfm hg hr hf hz r2 hm2 hav.tail hlen';exact⟨g3,Fo',z1,z2,z3,z4,by simpa only[Zac] using z5,by simpa only[Zae] using z6⟩
   |nil=>
    simp only[Zcj] at h;obtain⟨g3,Fo',z1,z2,z3,z4,z5,z6⟩:=ZaP hk hQd hQo (Z:=Z) h hfm hg hr hf hz r2 hm2 hav.tail hlen';exact⟨g3,Fo',z1,z2,z3,z4,by simpa only[Zac] using z5,by simpa only[Zae] using z6⟩
   |ip y=>
    simp only[Zcj] at h;obtain⟨g3,Fo',z1,z2,z3,z4,z5,z6⟩:=ZaP hk hQd hQo (Z:=Z) h hfm hg hr hf hz r2 hm2 hav.tail hlen';exact⟨g3,Fo',z1,z2,z3,z4,by simpa only[Zac] using z5,by simpa only[Zae] using z6⟩
theorem Ext.refl (hsep:Sep X w g):Ext w w g g (λ_=>False):=⟨λ_ h=>h,λ_ _ _=>rfl,λ_ _ h=>h,hsep.imm,λ_ h=>h,λ_ _=>rfl,λ_ _=>rfl⟩
theorem Ext.trans' {g1 g2 g3:G} (h1:Ext w w g1 g2 (λ_=>False)) (h2:Ext w w g2 g3 (λ_=>False)):Ext w w g1 g3 (λ_=>False):=
 ⟨λb h=>h2.imp b (h1.imp b h),λ_ _ _=>rfl,λ_ _ h=>h,h1.lt,λi h=>h2.B i (h1.B i h),λi h=>(h2.hv i (h1.B i h)).trans (h1.hv i h),λi h=>(h2.sz i (h1.B i h)).trans (h1.sz i h)⟩
theorem Zch {β:Type} {k:St->Option β} {y:β} (hT:Zax P) (hs:Zal X w0 w):∀ {rs:List ResultVar} {g:G} {st:St},subRes rs st k=some y->Rel P X w g st a->ZaB g st->∃ g' st',k st'=some y/\Rel P X w g' st' a/\ZaB g' st'
 |[],g,st,h,hr,hf=>⟨g,st,h,hr,hf⟩
 |.cell _ _::rs,g,st,h,hr,hf=>Zch hT hs (rs:=rs) h hr hf
 |.tmp i::rs,g,st,h,hr,hf=>by
  simp only[subRes] at h;split at h
  ·rename_i id r off ht;obtain⟨og,fr,rt,xs,c,x,rest,ys,ho,hc,hd,hy,h⟩:=subD_some h;obtain⟨v,rv,hv⟩:=hr.getD i;rw[ht] at rv;have hB:g.B id:=by simp only[Zi] at rv;exact rv.1
   have hfz:ZaL st (.row id)=st.setOb id (.frz fr (C.immRows xs)):=by simp[ZaL,ho]
   rw[hfz] at h;obtain⟨o',ho',rel⟩:=hr.obs id hB;rw[ho] at ho';injection ho' with ho';subst ho';simp only[Zy] at rel;obtain⟨ct,F',ow,-,hF⟩:=sub_cell (stL:=st) hr (λi hi _=>by simp only[List.mem_singleton] at hi;subst hi;exact⟨rfl,hB⟩) ho hc hd rv;have hr2:=Rel.freeze hT hr hs ho hB;refine Zch hT hs h (hr2.setTm λu hu=>?_) (λj hj=>hf j (by simpa[St.setOb] using hj));rw[hv u hu];have h3:=OwC.imm (J:=(g.frz id).IM X fr) (λb hb=>⟨.inl hb.1,hb.2⟩) (λb hb=>⟨.inr (hF b hb),λe=>rel.2.1 e b (hF b hb)⟩) hT ow;rw[hy] at h3;simp only[Zi]
   exact h3
  ·exact Zch hT hs h hr hf
theorem Zc1 (hT:Zax P) (hs:Zal X w0 w) {Z:List Nat}:∀ {ts ts':List T} {bs:List Bool} {g:G} {st st':St} {vs:List Value},ZbV st bs ts=some (ts',st')->Rel P X w g st a->ZaB g st->Took X w g Z->Zo X w g ts vs->
  ∃ g',Rel P X w g' st' a/\ZaB g' st'/\Took X w g' Z/\Zo X w g' ts' vs/\Ext w w g g' (λ_=>False)
 |[],ts',bs,g,st,st',vs,h,hr,hf,hz,r=>by
  have:ts'=[]/\st'=st:=by
   cases bs with
   |nil=>simp only[ZbV] at h;injection h with h;injection h with e1 e2;exact⟨e1.symm,e2.symm⟩
   |cons b bs=>cases b<;>(simp only[ZbV] at h;injection h with h;injection h with e1 e2;exact⟨e1.symm,e2.symm⟩)
  obtain⟨rfl,rfl⟩:=this;exact⟨g,hr,hf,hz,r,Ext.refl hr.sep⟩
 |t::ts,ts',bs,g,st,st',vs,h,hr,hf,hz,r=>by
  simp only[Zo] at r;obtain⟨v,vs',rfl,hsub,r1,r2⟩:=r;have plain:∀ (bs':List Bool) (xs:List T),ZbV st bs' ts=some (xs,st')->ts'=t::xs->
    ∃ g',Rel P X w g' st' a/\ZaB g' st'/\Took X w g' Z/\Zo X w g' ts' (v::vs')/\Ext w w g g' (λ_=>False):=by
   intro bs' xs h1 e;subst e;obtain⟨g',q1,q2,q3,q4,q5⟩:=Zc1 hT hs h1 hr hf hz r2;refine⟨g',q1,q2,q3,?_,q5⟩
   simp only[Zo]
   exact⟨v,vs',rfl,hsub,Zi.mono q5 (λid i off e=>by rw[e] at hsub;simp[Zcp] at hsub) r1,q4⟩
  cases bs with
  |nil=>
   simp only[ZbV] at h;split at h;case h_2=>cases h
   rename_i xs st1 h1;injection h with h;injection h with e1 e2;subst e1 e2;exact plain _ xs h1 rfl
  |cons b bs=>
   cases b with
   |false=>
    simp only[ZbV] at h;split at h;case h_2=>cases h
    rename_i xs st1 h1;injection h with h;injection h with e1 e2;subst e1 e2;exact plain _ xs h1 rfl
   |true=>
    simp only[ZbV] at h;split at h;case h_2=>cases h
    rename_i x st1 h1;split at h;case h_2=>cases h
    rename_i xs st2 h2;injection h with h;injection h with e1 e2;subst e1 e2;obtain⟨g1,p1,p2,p3,p4,_,_,p7,p8,p9⟩:=actT_sound hT hs hr h1 r1;obtain⟨g',q1,q2,q3,q4,q5⟩:=Zc1 hT hs h2 p1 (p7 hf) (hz.act p8 p9) (Zo.mono p3 r2);refine⟨g',q1,q2,q3,?_,p3.trans' q5⟩
    simp only[Zo]
    exact⟨v,vs',rfl,p4 hsub,Zi.mono q5 (λid i off e=>by have:=p4 hsub;rw[e] at this;simp[Zcp] at this) p2,q4⟩
def resSem (tmps:Array Value):ResultVar->Sem Value
 |.tmp t=>pure (tmps.getD t undef)
 |.cell a t=>do loadVar t (<- asAddr (tmps.getD a undef))
def ResVals (P:Program) (a:Act) (w:World):List ResultVar->List Value->Prop
 |[],vs=>vs=[]
 |r::rs,vs=>∃ v vs',vs=v::vs'/\(resSem a.tmps r).run P w=.ok v w/\ResVals P a w rs vs'
theorem resCells_sound (hr:Rel P X w g st a) {t:TypeId} {rv:ResultVar} {ts:List T} (h:resCells P st t rv=some ts):
  ∃ v cells,(resSem a.tmps rv).run P w=.ok v w/\v=(if Z4 P t then .agg cells else cells.getD 0 undef)/\cells.size=ts.length/\Zo X w g ts cells.toList:=by
 cases rv with
 |tmp i=>
  simp only[resCells] at h;split at h;case isFalse=>cases h
  rename_i hck;obtain⟨h1,h2⟩:=hck;injection h with h;have rv:=hr.ev (.tmp i);simp only[St.ev,Act.eval] at rv;refine⟨a.tmps.getD i undef,?_⟩
  cases hT:st.tm.getD i .any with
  |agg l=>
   rw[hT] at h h1 rv;simp only[ZK] at h;subst h;simp only[Zi] at rv;obtain⟨cs,hv,rs⟩:=rv;refine⟨cs.toArray,rfl,?_,by simpa using Zo.length rs,by simpa using rs⟩
   have:Z4 P t=true:=by rw[<- h1];rfl
   rw[this,hv];rfl
  |_=>
   rw[hT] at h h1 h2 rv;simp only[ZK] at h;subst h;have hg:Z4 P t=false:=by rw[<- h1];rfl
   refine⟨#[a.tmps.getD i undef],rfl,by rw[hg];rfl,rfl,?_⟩
   simp only[Zo]
   refine⟨_,[],rfl,?_,rv,rfl⟩
   first
    |rfl
    |(simp[ZK,Zbk] at h2)
 |cell x t'=>
  simp only[resCells] at h;split at h;case h_2=>cases h
  rename_i id hx;split at h;case h_2=>cases h
  rename_i og bt cells ho;split at h;case isFalse=>cases h
  rename_i hck;obtain⟨rfl,hu,h0,h1,hl⟩:=hck;injection h with h;subst h;have rv:=hr.ev (.tmp x);simp only[St.ev,Act.eval] at rv;rw[hx] at rv;simp only[Zi] at rv;obtain⟨hB,b,hh,hv⟩:=rv;obtain⟨o',ho',ro⟩:=hr.obs id hB;rw[ho] at ho';injection ho' with ho';subst ho';simp only[Zy] at ro;obtain⟨⟨b',c,e,hh',hfp,hb,rc⟩,_⟩:=ro;rw[hh] at hh';injection hh' with hh';injection hh' with hh';injection hh' with hh' _ _;subst hh';have hcl:c.toList.length=P.cellsOf t':=by rw[Zo.length rc,hl]
  have hrun:=Za8 (P:=P) hb hu c.toList hcl h0 h1 (off:=0) (λj v hv=>by simpa using hv);refine⟨_,c,?_,rfl,by simpa using Zo.length rc,rc⟩
  have e1:(resSem a.tmps (.cell x t')).run P w=(loadVar t' ⟨b,0,none⟩).run P w:=by
   show(Sem.bind (asAddr (a.tmps.getD x undef)) _).run P w=_;rw[Zz,hv];rfl
  rw[e1];have e2:(Instr.loadAt t' (.pointer (some ⟨b,0,none⟩))).run P w=(loadVar t' ⟨b,0,none⟩).run P w:=by
   show(Sem.bind (Instr.sureAddr _) _).run P w=_;rw[Zz];rfl
  rw[<- e2,hrun];congr 1;cases Z4 P t' with
  |true=>simp
  |false=>
   simp only[Bool.false_eq_true,if_false]
   rw[Array.getD_eq_getD_getElem?,<- Array.getElem?_toList];cases c.toList<;>rfl
theorem resBox_sound (hr:Rel P X w g st a) {rv:ResultVar} {ds:List D} {id:Nat} (h:resBox st rv=some (ds,id)):
  ∃ v,g.B id/\(resSem a.tmps rv).run P w=.ok v w/\∃ o,st.ob[id]? = some o/\BoxRel w g.I ds v (g.fp id):=by
 cases rv with
 |cell _ _=>simp[resBox] at h
 |tmp i=>
  simp only[resBox] at h;split at h;case h_2=>cases h
  rename_i id' hx;split at h;case h_2=>cases h
  rename_i og bt cells ho;obtain⟨ds',hds,h⟩:=Option.map_eq_some_iff.mp h;injection h with e1 e2;subst e1 e2;have rv:=hr.ev (.tmp i);simp only[St.ev,Act.eval] at rv;rw[hx] at rv;simp only[Zi] at rv;obtain⟨hB,b,hh,hv⟩:=rv;obtain⟨o',ho',ro⟩:=hr.obs id' hB;rw[ho] at ho';injection ho' with ho';subst ho';simp only[Zy] at ro;obtain⟨⟨b',c,e,hh',hfp,hb,rc⟩,_⟩:=ro;rw[hh] at hh';injection hh' with hh';injection hh' with hh';injection hh' with hh' _ _;subst hh';obtain⟨rd,hln⟩:=datTs_rd (c:=c) (p:=0) hds rc (λj u hu=>by simpa using hu);have hcl:c.size=cells.length:=by simpa using Zo.length rc
  exact⟨_,hB,rfl,_,ho,b,c,e,hv,hfp,hb,Om,rd⟩
theorem resOf_sound (hT:Zax P) (hs:Zal X w0 w):∀ {tys:List TypeId} {rvs:List ResultVar} {ra:List (List Bool)} {f:Bool} {cs:List (List C)} {g:G} {st st':St} {Z:List Nat},resOf P st ra tys rvs=some (f,cs,st')->Rel P X w g st a->ZaB g st->Took X w g Z->
  ∃ g' Fr vals,Rel P X w g' st' a/\Took X w g' (Z++Fr)/\ResVals P a w rvs vals/\ZaY P w (g'.IM X f) tys cs vals Fr/\(f=true->∀ b∈Fr,X.new b)/\(∀ b,g.I b->g'.I b)/\ZaB g' st'
 |[],[],ra,f,cs,g,st,st',Z,h,hr,hf,hz=>by
  simp only[resOf] at h;injection h with h;injection h with e1 h;injection h with e2 e3;subst e1 e2 e3;exact⟨g,[],[],hr,by simpa using hz,rfl,by simp[ZaY],by simp,λ_ h=>h,hf⟩
 |[],_::_,ra,_,_,_,_,_,_,h,_,_,_=>by simp[resOf] at h
 |_::_,[],ra,_,_,_,_,_,_,h,_,_,_=>by simp[resOf] at h
 |t::tys,rv::rvs,ra,f,cs,g,st,st',Z,h,hr,hf,hz=>by
  simp only[resOf] at h;cases hp:Zb2 P t with
  |true=>
   rw[hp] at h;simp only[cond_true] at h;split at h;case h_2=>cases h
   rename_i ds id h1;split at h;case h_2=>cases h
   rename_i f2 cs2 st3 h4;injection h with h;injection h with e1 h;injection h with e2 e3;subst e1 e2 e3;obtain⟨v,hB,hrun,o,ho,hv⟩:=resBox_sound hr h1;obtain⟨g3,Fr,vals,z1,z2,z3,z4,z5,z6,z7⟩:=resOf_sound hT hs h4 (hr.gone1 ho hB) hf.setOb (hz.take hr hB);refine⟨g3,g.fp id++Fr,v::vals,z1,by rw[<- List.append_assoc];exact z2,⟨v,vals,rfl,hrun,z3⟩,?_,by simp,z6,z7⟩
   simp only[ZaY]
   refine⟨v,vals,g.fp id,Fr,rfl,rfl,.inr ⟨hp,ds,rfl,hv.weaken λb hb=>⟨z6 b hb,by simp⟩⟩,ZaY.weaken (λb hb=>⟨hb.1,by simp⟩) z4⟩
  |false=>
  rw[hp] at h;simp only[cond_false] at h;split at h;case h_2=>cases h
  rename_i ts h1;split at h;case h_2=>cases h
  rename_i ts' st1 h2;split at h;case h_2=>cases h
  rename_i f1 c st2 h3;split at h;case h_2=>cases h
  rename_i f2 cs2 st3 h4;injection h with h;injection h with e1 h;injection h with e2 e3;subst e1 e2 e3;obtain⟨v,cells,hrun,hv,hsz,rts⟩:=resCells_sound hr h1;obtain⟨g1,q1,q2,q3,q4,q5⟩:=Zc1 hT hs h2 hr hf hz rts;obtain⟨mv,m1,m2,rfl⟩:=cellsC_mv h3;have ow:=ZG.sound q1 (c:=cells) (p:=0) m1 q2.sees q4 (λj u hu=>by simpa using hu);have hfr:=ZG.fresh q1 m1 q2.sees;have hB:=ZG.held q1 m1 q2.sees;obtain⟨g2,p1,p2,p3,p4,p5⟩:=Took.gones (mv:=mv) q1 q2 q3 m2 hB;obtain⟨g3,Fr,vals,z1,z2,z3,z4,z5,z6,z7⟩:=resOf_sound hT hs h4 p2 p3 p4;refine⟨g3,mv.flatMap g1.fp++Fr,v::vals,z1,by rw[<- List.append_assoc];exact z2,⟨v,vals,rfl,hrun,z3⟩,?_,λhff b hb=>?_,λb hb=>z6 b (p5.imp b (q5.imp b hb)),z7⟩
  ·simp only[ZaY]
   have hcl:c.length=ts.length:=by
    have a1:=Zf.length ow;have a2:=(ZG.plain m1).2;have a3:=Zo.length q4;have:cells.toList.length=ts'.length:=a3;simp at this;omega
   exact⟨v,vals,mv.flatMap g1.fp,Fr,rfl,rfl,.inl ⟨hp,cells,hv,by rw[hsz,hcl],Zf.weaken (λb hb=>IM_and (f2:=f2) ⟨z6 b (p5.imp b hb.1),hb.2⟩) ow⟩,ZaY.weaken (λb hb=>IM_and' hb) z4⟩
  ·simp only[Bool.and_eq_true] at hff;rcases List.mem_append.mp hb with q|q
   ·exact hfr hff.1 b q
   ·exact z5 hff.2 b q
end
end Go.T
namespace Go.T
section
variable {P:Program} {E:Env} {β:Type} {r:β}
theorem mapM_run {w:World} {tmps:Array Value} {a:Act} (ha:a.tmps=tmps):∀ {l:List ResultVar} {vals:List Value},ResVals P a w l vals->(l.mapM (resSem tmps)).run P w=.ok vals w
 |[],vals,h=>by
  simp only[ResVals] at h;subst h;rw[List.mapM_nil];rfl
 |x::l,vals,h=>by
  simp only[ResVals] at h;obtain⟨v,vs',rfl,h1,h2⟩:=h;rw[ha] at h1;rw[List.mapM_cons,ZT,h1];simp only[]
  rw[ZT,mapM_run ha h2];rfl
theorem results_run {w:World} {a:Act} {fn:Func} {vals:List Value} (h:ResVals P a w fn.results.toList vals):(results fn a.tmps).run P w=.ok (packV vals) w:=by
 have e:results fn a.tmps=(do let vs <- fn.results.mapM (resSem a.tmps);pure (if h:vs.size=1 then vs[0] else .tuple vs):Sem Value):=rfl;rw[e,Array.mapM_eq_mapM_toList,ZT];have:(List.toArray <$> fn.results.toList.mapM (resSem a.tmps):Sem (Array Value))=(do let l <- fn.results.toList.mapM (resSem a.tmps);pure l.toArray:Sem (Array Value)):=by
  rw[map_eq_pure_bind]
 rw[this,ZT,mapM_run rfl h];simp only[ZZ]
 congr 1
 match vals with
 |[]=>rfl
 |[v]=>rfl
 |_::_::_=>rfl
theorem flatMap_mem {ns:List Nw} {i:Nat} {x:Nw} (h:ns[i]? = some x):∀ b∈x.fp,b∈ns.flatMap (·.fp):=λb hb=>List.mem_flatMap.mpr ⟨x,List.mem_of_getElem? h,hb⟩
theorem flatMap_apart:∀ {ns:List Nw},(ns.flatMap (·.fp)).Nodup->(∀ (i:Nat) (x:Nw),ns[i]? = some x->x.fp.Nodup)/\∀ (i j:Nat) (x y:Nw),i≠j->ns[i]? = some x->ns[j]? = some y->∀ b∈x.fp,b∉y.fp
 |[],_=>by simp
 |n::ns,h=>by
  rw[List.flatMap_cons] at h;obtain⟨h1,h2,h3⟩:=List.nodup_append.mp h;obtain⟨q1,q2⟩:=flatMap_apart h2;refine⟨λi x hx=>?_,λi j x y hne hx hy b hb hb'=>?_⟩
  ·cases i with
   |zero=>simp at hx;subst hx;exact h1
   |succ i=>exact q1 i x (by simpa using hx)
  ·cases i with
   |zero=>
    simp at hx;subst hx;cases j with
    |zero=>exact hne rfl
    |succ j=>exact h3 b hb b (flatMap_mem (i:=j) (by simpa using hy) b hb') rfl
   |succ i=>
    cases j with
    |zero=>
     simp at hy;subst hy;exact h3 b hb' b (flatMap_mem (i:=i) (by simpa using hx) b hb) rfl
    |succ j=>exact q2 i j x y Om (by simpa using hx) (by simpa using hy) b hb hb'
theorem fun_sound (hmix:P.follows .mixedOrders=true) (hT:Zax P) (hE:EnvOK P E) {f:FuncId} {fn:Func} {c:Code} (hf:P.funcs[f]? = some fn) (hb:fn.body=some c) {e:Za0} {h:Hints} {k:Nat} {as:List A} {K:List (List C)->List Out->Option β}
  (hms:ZbX P e.modes (fn.params.toList++List.replicate fn.nfree 0)=true) (hrts:e.rts=fn.resultTypes.toList) (hal:e.al=h.al) (how:e.ow=h.ow) (hh:funDen P E h k fn as K=some r):
  ∀ (w:World) (I Q:Nat->Prop) (vs:List Value) (F:List Nat),ZY P w I Q as e.modes vs F->F.Nodup->(∀ b∈F,¬ I b/\b<w.heap.size)->(∀ b,I b->b<w.heap.size)->
   Calls P f vs.toArray w λex w'=>∃ rs os,K rs os=some r/\Zae as os/\CPost P e as w I Q vs F rs os ex w':=by
 intro w I Q vs F hargs hnd hFI hIlt;unfold funDen at hh;rw[hb] at hh;simp only[] at hh;split at hh;case h_1=>cases hh
 rename_i l st hinit
 let X:Fix:=⟨w.heap.size,F,avOf vs,I,λb=>h.ow=true/\Q b⟩
 have hpre:h.ow=true->∀ b,Q b->X.new b:=λq b hb=>.inr ⟨q,hb⟩
 have hav:AvOk X 0 vs:=avOf_ok rfl;obtain⟨ns,hst,hFns,hin,hrel⟩:=ZbF (X:=X) hpre hinit hargs hms hav;have hob:st.ob=ns.map (·.ob):=by rw[hst];simp
 let g0:G:=⟨I,λid=>id<ns.length,λid=>(ns.map (·.fp)).getD id [],λid=>(ns.map (·.hv)).getD id undef,λid=>(ns.map (·.sz)).getD id 0⟩
 have hat:∀ (id:Nat) (x:Nw),ns[id]? = some x->g0.fp id=x.fp/\g0.hv id=x.hv/\g0.sz id=x.sz:=by
  intro id x hx;simp[g0,List.getD,hx]
 have hget:∀ id,g0.B id->∃ x,ns[id]? = some x:=λid hid=>⟨ns[id],by simp[show id<ns.length from hid]⟩
 obtain⟨hap1,hap2⟩:=flatMap_apart (hFns.nodup_iff.mp hnd);have hN0:NwAt X (λb=>I b/\Q b) h.ow g0 0 ns:=⟨λj x hx=>⟨by simpa[g0] using(List.getElem?_eq_some_iff.mp hx).1,by simpa using(hat j x hx).2.1⟩,λb hb=>⟨hb.1,λq=>hpre q b hb.2⟩⟩
 obtain⟨hll,hlr⟩:=hrel g0 hN0 (λb hb=>⟨hb,by simp⟩);have hr0:Rel P X w g0 ⟨l++List.replicate (fn.ntmps-l.length) .undef,st.ob⟩ { tmps:=vs.toArray++Array.replicate (fn.ntmps-vs.toArray.size) undef,defers:=[] }:=by
  refine⟨⟨by simp[hll],λi t ht=>?_⟩,λid hB=>?_,⟨λid hB=>?_,λid id' hB hB' hne b hb=>?_,λid hB b hb=>?_,hIlt,λb hb=>.inl hb,λb hb=>hb⟩,rfl⟩
  ·simp only[] at ht;rcases Nat.lt_or_ge i l.length with q|q
   ·rw[List.getElem?_append_left q] at ht;obtain⟨v,hv,rv⟩:=hlr i t ht;refine⟨v,?_,rv⟩
    rw[Array.getElem?_append_left (by simp;omega)];simpa using hv
   ·rw[List.getElem?_append_right q] at ht;have hlt:=(List.getElem?_eq_some_iff.mp ht).1;simp at hlt;simp[List.getElem?_replicate] at ht;obtain⟨_,rfl⟩:=ht;refine⟨undef,?_,by simp[Zi]⟩
    rw[Array.getElem?_append_right (by simp;omega)];simp[Array.getElem?_replicate];omega
  ·obtain⟨x,hx⟩:=hget id hB;obtain⟨a1,a2,a3⟩:=hat id x hx;rcases hin x (List.mem_of_getElem? hx) with⟨m,ct,xs,q1,q2,q2',q3,q4⟩|⟨m,tt,l0,b,c,e,q1,q2,q3,q4,q5,q6⟩
   ·refine⟨x.ob,by simp only[hob];rw[List.getElem?_map,hx];rfl,?_⟩
    rw[q1];simp only[Zy]
    rw[a1,a2,a3];exact⟨⟨OwC.weaken (λb hb=>⟨hb.1,λq=>hpre q b hb.2⟩) q2,q3⟩,q2',λj hj=>q4 j hj⟩
   ·refine⟨x.ob,by simp only[hob];rw[List.getElem?_map,hx];rfl,?_⟩
    rw[q1];simp only[Zy]
    rw[a1,a2];exact⟨⟨b,c,e,q2,q3,q4,q5 g0 hN0⟩,λj hj=>by injection hj with hj;subst hj;exact q6⟩
  ·obtain⟨x,hx⟩:=hget id hB;rw[(hat id x hx).1];exact hap1 id x hx
  ·obtain⟨x,hx⟩:=hget id hB;obtain⟨y,hy⟩:=hget id' hB';rw[(hat id x hx).1] at hb;rw[(hat id' y hy).1];exact hap2 id id' x y hne hx hy b hb
  ·obtain⟨x,hx⟩:=hget id hB;rw[(hat id x hx).1] at hb;have hbF:b∈F:=hFns.mem_iff.mpr (flatMap_mem hx b hb);exact⟨(hFI b hbF).1,(hFI b hbF).2,.inr hbF⟩
 have hf0:ZaB g0 ⟨l++List.replicate (fn.ntmps-l.length) .undef,st.ob⟩:=λid hid=>by
  simp only[hob,List.length_map] at hid;exact hid
 have hs0:Zal X w w:=⟨rfl,rfl,rfl,Nat.le_refl _,Nat.le_refl _,λ_ _ _=>rfl⟩
 refine calls_of_wp hf hb (den_sound hmix hT hE X w c hh g0 _ w hr0 hf0 hs0 _ λex st' g' w' a' hk hr' hf' hs'=>?_);have key:∀ {g':G} {st':St},Rel P X w' g' st' a'->ZaB g' st'->∀ (_:(match resOf P st' h.ra fn.resultTypes.toList fn.results.toList with
  |none=>none
  |some (f,rs,st'')=>
   match Zcj P h.lo st'' 0 (fn.params.toList++List.replicate fn.nfree 0) as with
   |some (os,_)=>bif h.al||(f&&(!h.ow||freshOuts st'')) then K rs os else none
   |none=>none)=some r),a'.defers=[]/\∃ v,(results fn a'.tmps).run P w'=.ok v w'/\∃ rs os,K rs os=some r/\Zae as os/\CPost P e as w I Q vs F rs os (.returned v) w':=by
  intro g' st' hr' hf' hk;split at hk;case h_1=>cases hk
  rename_i ff rs st1 h2;split at hk;case h_2=>cases hk
  rename_i os st2 h1;cases hbf:(h.al||(ff&&(!h.ow||freshOuts st1))) with
  |false=>rw[hbf] at hk;simp at hk
  |true=>
   rw[hbf] at hk;simp only[cond_true] at hk;obtain⟨g3,Fr,vals,z1,z2,z3,z4,z5,z6,z7⟩:=resOf_sound (Z:=[]) hT hs' h2 hr' hf' ⟨by simp,by simp⟩;have hkeeps:Keeps w w' I g3.I:=⟨λb hb=>z1.sep.keep b hb,λb hb=>hs'.block b (hIlt b hb) (λq=>(hFI b q).1 hb)⟩
   obtain⟨g2,Fo,q1,q2,q3,q4,q5,q6⟩:=ZaP (Q:=Q) (Qo:=λb=>e.al=false->e.ow=true->w.heap.size<=b\/Q b) (ff:=!h.al&&h.ow) hkeeps (λb hb _ _=>.inr hb) (λb hb ha ho=>by
    rcases hb (by rw[<- hal,<- how,ha,ho];rfl) with q|q
    ·exact .inl q
    ·exact .inr q.2) (Z:=[]++Fr) h1 (λhff=>freshM_of (by
    simp only[Bool.and_eq_true,Bool.not_eq_true'] at hff;rw[hff.1,hff.2] at hbf;simp at hbf;exact hbf.2)) rfl z1 z7 z2 hargs hms hav (Zdc hinit)
   refine⟨hr'.def_,packV vals,results_run z3,rs,os,hk,q6,packV vals,vals,g3.I,Fr,Fo,rfl,rfl,hs'.size,hs'.os,hs'.tape,hs'.output,λb h1 h2=>hs'.block b h1 h2,λb hb=>z1.sep.keep b hb,λb hb=>⟨z1.sep.imm b hb,z1.sep.old b hb⟩,?_,λb hb=>?_,q5,?_,λha b hb=>?_⟩
   ·have:=q4.nodup;rwa[List.nil_append] at this
   ·obtain⟨o1,_,o3,o4⟩:=q4.off b (by rw[List.nil_append];exact hb);exact⟨by rw[<- q1];exact o1,o3,λhlt=>o4.resolve_left (Nat.not_le.mpr hlt)⟩
   ·rw[hrts];refine ZaY.weaken (λb hb=>⟨hb.1,λha=>?_⟩) z4;rw[hal] at ha;rw[ha] at hbf;rcases hb.2 (by simp at hbf;exact hbf.1) with q|q
    ·exact .inl q
    ·exact .inr ⟨how.trans q.1,q.2⟩
   ·rw[hal] at ha;rw[ha] at hbf;rcases z5 (by simp at hbf;exact hbf.1) b hb with q|q
    ·exact .inl q
    ·exact .inr ⟨how.trans q.1,q.2⟩
 cases ex with
 |exit i=>simp[finDen] at hk
 |normal=>
  obtain⟨g2,s2,h1,h2,h3⟩:=Zch hT hs' hk hr' hf';exact key h2 h3 h1
 |ret=>
  obtain⟨g2,s2,h1,h2,h3⟩:=Zch hT hs' hk hr' hf';exact key h2 h3 h1
end
end Go.T
namespace Go.T
section
variable {P:Program}
theorem entry_of (hmix:P.follows .mixedOrders=true) (hT:Zax P) {f:FuncId} {fn:Func} {c:Code} (hf:P.funcs[f]? = some fn) (hb:fn.body=some c) {e:Za0} {h:Hints} {k:Nat} {E:Env} (hE:EnvOK P E)
  (hms:ZbX P e.modes (fn.params.toList++List.replicate fn.nfree 0)=true) (hrts:e.rts=fn.resultTypes.toList) (hal:e.al=h.al) (how:e.ow=h.ow) (hent:Zbl P f=true)
  (hrun:∀ (β:Type) (as:List A) (K:List (List C)->List Out->Option β) (r:β),e.run as K=some r->∃ rs os,K rs os=some r/\∃ (σ:Type) (dec:List (List C)->List Out->Option σ) (z:σ),funDen P E h k fn as dec=some z/\
   ∀ rs' os',dec rs' os'=some z->Zae as os'->rs'=rs/\os'=os) (hlib:e.lib=none:=by rfl):Zas P f e:=by
 refine⟨hent,λβ as K r hr=>?_,λL hL=>by rw[hlib] at hL;cases hL⟩
 obtain⟨rs,os,h1,σ,dec,z,h2,h3⟩:=hrun β as K r hr;refine⟨rs,os,h1,λw I Q vs F q1 q2 q3 q4=>?_⟩
 refine Calls.mono (fun_sound hmix hT hE hf hb hms hrts hal how h2 w I Q vs F q1 q2 q3 q4) ?_;rintro ex w' ⟨rs',os',a1,a2,a3⟩;obtain⟨rfl,rfl⟩:=h3 rs' os' a1 a2;exact a3
theorem entry_zero {f:FuncId} {e:Za0} (hent:Zbl P f=true) (h:∀ (β:Type) (as:List A) (K:List (List C)->List Out->Option β) (r:β),e.run as K≠some r) (hlib:e.lib=none:=by rfl):Zas P f e:=
 ⟨hent,λβ as K r hr=>absurd hr (h β as K r),λL hL=>by rw[hlib] at hL;cases hL⟩
theorem enter_of {f : FuncId} {fn : Func} (hf : P.funcs[f]? = some fn) (h : (fn.name != "runtime.NumGoroutine" && fn.body.isSome) = true) : Zbl P f = true := by
 unfold Zbl;rw[hf];exact h
theorem env_nil:EnvOK P (λ_=>none):=λf e h=>by cases h
theorem env_cons {n:FuncId} {e:Za0} {E:Env} (h:Zas P n e) (h':EnvOK P E):EnvOK P (λg=>bif g==n then some e else E g):=by
 intro f e' he;simp only[] at he;cases hn:(f==n) with
 |true=>
  rw[hn] at he;simp only[cond_true] at he;injection he with he;have:f=n:=by simpa using hn
  rw[this,<- he];exact h
 |false=>
  rw[hn] at he;simp only[cond_false] at he;exact h' f e' he
def tyOkB (P:Program):Bool:=(List.range P.types.size).all λt=>Zs P t==0||(ZX P t).length==Zs P t
theorem elemSz_out {t:TypeId} (h:P.types.size<=t):Zs P t=0:=by
 have:Zaq P t=none:=by
  unfold Zaq;rw[if_neg (Nat.not_lt.mpr h)]
 unfold Zs;rw[this]
theorem tyOk_of (h:tyOkB P=true):Zax P:=by
 intro t ht;unfold tyOkB at h;rw[List.all_eq_true] at h;rcases Nat.lt_or_ge t P.types.size with q|q
 ·have:=h t (List.mem_range.mpr q);simp only[Bool.or_eq_true,beq_iff_eq] at this;exact this.resolve_left ht
 ·exact absurd (elemSz_out q) ht
end
end Go.T
namespace Go.T
inductive Q where
 |i (k:IntKind)|b|s|l|o
abbrev Q.n:Q:=.i .i64
abbrev Q.ty:Q->Type
 |.i _=>Int|.b=>Bool|.s=>ByteArray|.l=>List (List D)|.o=>List (List C)
def Q.c:(q:Q)->q.ty->C
 |.i k,n=>.d (.int k n)|.b,x=>.d (.bool x)|.s,x=>.d (.str x)|.l,x=>.d (.sl x)|.o,x=>.own x
def Q.dd:(q:Q)->q.ty->D
 |.i k,n=>.int k n|.b,x=>.bool x|.s,x=>.str x|.l,x=>.sl x|.o,_=>.sl []
def Q.rd:(q:Q)->D->Option q.ty
 |.i k,d=>dInt k d some|.b,d=>dBool d some|.s,d=>dStr d some|.l,d=>dSl d some|.o,_=>none
def Q.rc:(q:Q)->C->Option q.ty
 |.i k,c=>cD c λd=>dInt k d some|.b,c=>cD c λd=>dBool d some|.s,c=>cD c λd=>dStr d some|.l,c=>cD c λd=>dSl d some|.o,c=>cOwn c some
theorem Q.rd_some {q:Q} {d:D} {x:q.ty} (h:q.rd d=some x):d=q.dd x:=by
 cases q with
 |i k=>obtain⟨n,rfl,h2⟩:=dInt_some h;obtain rfl:=Option.some.inj h2;rfl
 |b=>obtain⟨n,rfl,h2⟩:=dBool_some h;obtain rfl:=Option.some.inj h2;rfl
 |s=>obtain⟨n,rfl,h2⟩:=dStr_some h;obtain rfl:=Option.some.inj h2;rfl
 |l=>obtain⟨n,rfl,h2⟩:=dSl_some h;obtain rfl:=Option.some.inj h2;rfl
 |o=>cases h
theorem Q.rc_some {q:Q} {d:C} {x:q.ty} (h:q.rc d=some x):d=q.c x:=by
 cases q with
 |i k=>obtain⟨d,rfl,h2⟩:=cD_some h;obtain⟨n,rfl,h3⟩:=dInt_some h2;obtain rfl:=Option.some.inj h3;rfl
 |b=>obtain⟨d,rfl,h2⟩:=cD_some h;obtain⟨n,rfl,h3⟩:=dBool_some h2;obtain rfl:=Option.some.inj h3;rfl
 |s=>obtain⟨d,rfl,h2⟩:=cD_some h;obtain⟨n,rfl,h3⟩:=dStr_some h2;obtain rfl:=Option.some.inj h3;rfl
 |l=>obtain⟨d,rfl,h2⟩:=cD_some h;obtain⟨n,rfl,h3⟩:=dSl_some h2;obtain rfl:=Option.some.inj h3;rfl
 |o=>obtain⟨n,rfl,h2⟩:=Zcx h;obtain rfl:=Option.some.inj h2;rfl
abbrev CurQ (r:Type):List Q->Type
 |[]=>r
 |q::l=>q.ty->CurQ r l
abbrev CurQQ (r:Type):List (List Q)->Type
 |[]=>r
 |q::l=>CurQ (CurQQ r l) q
inductive AQ where
 |d (q:Q)|agg (l:List Q)|ip (l:List Q)|own (g:Bool) (ct:TypeId) (l:List Q)|box (ct:TypeId) (l:List Q)|fn (g:Nat) (l:List (List Q))|nil
abbrev AQ.cur (r:Type):AQ->Type
 |.d q=>q.ty->r|.agg l=>CurQ r l|.ip l=>CurQ r l|.own _ _ l=>CurQ r l|.box _ l=>CurQ r l|.fn _ l=>CurQQ r l|.nil=>r
abbrev CurA (r:Type):List AQ->Type
 |[]=>r
 |a::as=>a.cur (CurA r as)
def AQ.mode:AQ->Mode×TypeId
 |.own _ ct _=>(.own,ct)|.box ct _=>(.box,ct)|.nil=>(.nil,0)|_=>(.imm,0)
section
variable {r:Type}
def prsD:(l:List Q)->List D->CurQ r l->Option r
 |[],[],F=>some F
 |q::l,d::ds,F=>
  match q.rd d with
  |some x=>prsD l ds (F x)
  |none=>none
 |_,_,_=>none
def prsC:(l:List Q)->List C->CurQ r l->Option r
 |[],[],F=>some F
 |q::l,d::ds,F=>
  match q.rc d with
  |some x=>prsC l ds (F x)
  |none=>none
 |_,_,_=>none
def prsDD:(l:List (List Q))->List (List D)->CurQQ r l->Option r
 |[],[],F=>some F
 |q::l,d::ds,F=>
  match prsD q d F with
  |some x=>prsDD l ds x
  |none=>none
 |_,_,_=>none
def AQ.prs:(a:AQ)->A->a.cur r->Option r
 |.d q,.d x,F=>
  match q.rd x with
  |some y=>some (F y)
  |none=>none
 |.agg l,.agg ds,F=>prsD l ds F
 |.ip l,.ip ds,F=>prsD l ds F
 |.own g _ l,.own g' cs,F=>bif g==g' then prsC l cs F else none
 |.box _ l,.box cs,F=>prsC l cs F
 |.fn g l,.d (.fn g' cs),F=>bif g==g' then prsDD l cs F else none
 |.nil,.nil,F=>some F
 |_,_,_=>none
def prsA:(as:List AQ)->List A->CurA r as->Option r
 |[],[],F=>some F
 |a::as,x::l,F=>
  match a.prs x F with
  |some y=>prsA as l y
  |none=>none
 |_,_,_=>none
def AllD:(l:List Q)->(List D->r->Prop)->CurQ r l->Prop
 |[],p,F=>p [] F
 |q::l,p,F=>∀ x:q.ty,AllD l (λds=>p (q.dd x::ds)) (F x)
def AllC:(l:List Q)->(List C->r->Prop)->CurQ r l->Prop
 |[],p,F=>p [] F
 |q::l,p,F=>∀ x:q.ty,AllC l (λds=>p (q.c x::ds)) (F x)
def AllDD:(l:List (List Q))->(List (List D)->r->Prop)->CurQQ r l->Prop
 |[],p,F=>p [] F
 |q::l,p,F=>AllD q (λds F'=>AllDD l (λc=>p (ds::c)) F') F
def AQ.all:(a:AQ)->(A->r->Prop)->a.cur r->Prop
 |.d q,p,F=>∀ x:q.ty,p (.d (q.dd x)) (F x)
 |.agg l,p,F=>AllD l (λds=>p (.agg ds)) F
 |.ip l,p,F=>AllD l (λds=>p (.ip ds)) F
 |.own g _ l,p,F=>AllC l (λds=>p (.own g ds)) F
 |.box _ l,p,F=>AllC l (λds=>p (.box ds)) F
 |.fn g l,p,F=>AllDD l (λc=>p (.d (.fn g c))) F
 |.nil,p,F=>p .nil F
def AllA:(as:List AQ)->(List A->r->Prop)->CurA r as->Prop
 |[],p,F=>p [] F
 |a::as,p,F=>a.all (λx F'=>AllA as (λl=>p (x::l)) F') F
end
section
theorem prsD_all {r:Type}:∀ {l:List Q} {ds:List D} {F:CurQ r l} {p:List D->r->Prop} {z:r},prsD l ds F=some z->AllD l p F->p ds z
 |[],[],F,p,z,h,g=>by injection h with h;subst h;exact g
 |[],_::_,F,p,z,h,g=>by cases h
 |_::_,[],F,p,z,h,g=>by cases h
 |q::l,d::ds,F,p,z,h,g=>by
  simp only[prsD] at h;split at h
  ·rename_i x hx;rw[Q.rd_some hx];exact prsD_all (p:=λds=>p (q.dd x::ds)) h (g x)
  ·cases h
theorem prsC_all {r:Type}:∀ {l:List Q} {ds:List C} {F:CurQ r l} {p:List C->r->Prop} {z:r},prsC l ds F=some z->AllC l p F->p ds z
 |[],[],F,p,z,h,g=>by injection h with h;subst h;exact g
 |[],_::_,F,p,z,h,g=>by cases h
 |_::_,[],F,p,z,h,g=>by cases h
 |q::l,d::ds,F,p,z,h,g=>by
  simp only[prsC] at h;split at h
  ·rename_i x hx;rw[Q.rc_some hx];exact prsC_all (p:=λds=>p (q.c x::ds)) h (g x)
  ·cases h
theorem prsDD_all {r:Type}:∀ {l:List (List Q)} {ds:List (List D)} {F:CurQQ r l} {p:List (List D)->r->Prop} {z:r},prsDD l ds F=some z->AllDD l p F->p ds z
 |[],[],F,p,z,h,g=>by injection h with h;subst h;exact g
 |[],_::_,F,p,z,h,g=>by cases h
 |_::_,[],F,p,z,h,g=>by cases h
 |q::l,d::ds,F,p,z,h,g=>by
  simp only[prsDD] at h;split at h
  ·rename_i x hx;exact prsDD_all (p:=λc=>p (d::c)) h (prsD_all (p:=λds F'=>AllDD l (λc=>p (ds::c)) F') hx g)
  ·cases h
theorem AQ.prs_all {r:Type} {a:AQ} {x:A} {F:a.cur r} {p:A->r->Prop} {z:r} (h:a.prs x F=some z) (g:a.all p F):p x z:=by
 unfold AQ.prs at h;split at h
 ·split at h
  ·rename_i y hy;injection h with h;subst h;rw[Q.rd_some hy];exact g y
  ·cases h
 ·exact prsD_all h g
 ·exact prsD_all h g
 ·rename_i g1 _ _ g2 _ _;cases hg:g1==g2 with
  |false=>rw[hg] at h;cases h
  |true=>rw[hg] at h;obtain rfl:=eq_of_beq hg;exact prsC_all h g
 ·exact prsC_all h g
 ·rename_i g1 _ g2 _ _;cases hg:g1==g2 with
  |false=>rw[hg] at h;cases h
  |true=>rw[hg] at h;obtain rfl:=eq_of_beq hg;exact prsDD_all h g
 ·injection h with h;subst h;exact g
 ·cases h
theorem prsA_all {r:Type}:∀ {as:List AQ} {l:List A} {F:CurA r as} {p:List A->r->Prop} {z:r},prsA as l F=some z->AllA as p F->p l z
 |[],[],F,p,z,h,g=>by injection h with h;subst h;exact g
 |[],_::_,F,p,z,h,g=>by cases h
 |_::_,[],F,p,z,h,g=>by cases h
 |a::as,x::l,F,p,z,h,g=>by
  simp only[prsA] at h;split at h
  ·rename_i y hy;exact prsA_all (p:=λl=>p (x::l)) h (AQ.prs_all (p:=λx F'=>AllA as (λl=>p (x::l)) F') hy g)
  ·cases h
end
abbrev Res:List Q->Type
 |[]=>Unit
 |[q]=>q.ty
 |q::q'::l=>q.ty×Res (q'::l)
def Res.cells:(R:List Q)->Res R->List C
 |[],_=>[]
 |[q],x=>[q.c x]
 |q::q'::l,x=>q.c x.1::Res.cells (q'::l) x.2
def Res.read:(R:List Q)->List C->Option (Res R)
 |[],[]=>some ()
 |[q],[c]=>q.rc c
 |q::q'::l,c::cs=>
  match q.rc c with
  |some x=>
   match Res.read (q'::l) cs with
   |some y=>some (x,y)
   |none=>none
  |none=>none
 |_,_=>none
theorem Res.read_some:∀ {R:List Q} {cs:List C} {z:Res R},Res.read R cs=some z->cs=Res.cells R z
 |[],[],z,h=>rfl
 |[],_::_,z,h=>by simp[Res.read] at h
 |[q],[],z,h=>by simp[Res.read] at h
 |[q],[c],z,h=>by simp only[Res.read] at h;rw[Q.rc_some h];rfl
 |[q],c::c'::cs,z,h=>by simp[Res.read] at h
 |q::q'::l,[],z,h=>by simp[Res.read] at h
 |q::q'::l,c::cs,z,h=>by
  simp only[Res.read] at h;split at h
  ·rename_i x hx;split at h
   ·rename_i y hy;injection h with h;subst h;rw[Q.rc_some hx,Res.read_some hy];rfl
   ·cases h
  ·cases h
def ownC:List C->List C->Option (List C)
 |[],[]=>some []
 |.own _::cs,x::xs=>
  match ownC cs xs with
  |some l=>some (x::l)
  |none=>none
 |.d _::cs,_::xs=>ownC cs xs
 |_,_=>none
def ownA (lo:Bool):List A->List Out->Option (List C)
 |[],[]=>some []
 |.own _ cs::l,os=>
  bif lo then
   match os with
   |.lost::os=>ownA lo l os
   |_=>none
  else
  match os with
  |.own xs::os=>
   match ownC cs xs with
   |some a=>
    match ownA lo l os with
    |some b=>some (a++b)
    |none=>none
   |none=>none
  |_=>none
 |.box _::l,os=>
  match os with
  |.box xs::os=>
   match ownA lo l os with
   |some b=>some (xs++b)
   |none=>none
  |_=>none
 |_::l,os=>ownA lo l os
 |[],_::_=>none
def putC:List C->List C->List C×List C
 |[],ws=>([],ws)
 |.d x::cs,ws=>(.d x::(putC cs ws).1,(putC cs ws).2)
 |.own _::cs,w::ws=>(w::(putC cs ws).1,(putC cs ws).2)
 |.own _::_,[]=>([],[])
def putO (lo:Bool):List A->List C->List Out
 |[],_=>[]
 |.own _ cs::l,ws=>bif lo then .lost::putO lo l ws else .own (putC cs ws).1::putO lo l (putC cs ws).2
 |.box cs::l,ws=>.box (ws.take cs.length)::putO lo l (ws.drop cs.length)
 |_::l,ws=>putO lo l ws
theorem putC_own:∀ {cs xs a:List C} (ws:List C),ownC cs xs=some a->(∀ (i:Nat) (x:D),cs[i]? = some (.d x)->xs[i]? = some (.d x))->putC cs (a++ws)=(xs,ws)
 |[],[],a,ws,h,_=>by obtain rfl:=Option.some.inj h;rfl
 |[],_::_,a,ws,h,_=>by simp[ownC] at h
 |.own _::cs,[],a,ws,h,_=>by simp[ownC] at h
 |.own _::cs,x::xs,a,ws,h,g=>by
  simp only[ownC] at h;split at h
  ·rename_i l hl;injection h with h;subst h;simp only[List.cons_append,putC,putC_own ws hl (λi y hy=>g (i+1) y hy)]
  ·cases h
 |.d _::cs,[],a,ws,h,_=>by simp[ownC] at h
 |.d y::cs,x::xs,a,ws,h,g=>by
  simp only[ownC] at h;have e:=g 0 y rfl;simp at e;subst e;simp only[putC,putC_own ws h (λi y hy=>g (i+1) y hy)]
theorem putO_own {lo:Bool} {l:List A}:∀ {os:List Out} {a:List C},ownA lo l os=some a->Zae l os->putO lo l a=os:=by
 induction l with
 |nil=>
  intro os a h g;simp only[Zae] at g;subst g;rfl
 |cons x l ih=>
  intro os a h g;cases x with
  |own _ cs=>
   simp only[Zae] at g;simp only[ownA] at h;cases lo with
   |true=>
    simp only[cond_true] at h;split at h
    ·rename_i os';rcases g with⟨os2,e,g⟩|⟨cs',os2,e,_⟩
     ·injection e with _ e;subst e;simp only[putO,cond_true,ih h g]
     ·cases e
    ·cases h
   |false=>
    simp only[cond_false] at h;split at h
    ·rename_i xs os';rcases g with⟨os2,e,g⟩|⟨cs',os2,e,g1,g2,g3⟩
     ·cases e
     ·injection e with e1 e2;injection e1 with e1;subst e1 e2;split at h
      ·rename_i a1 h1;split at h
       ·rename_i b hb;obtain rfl:=Option.some.inj h;simp only[putO,cond_false,putC_own b h1 g2,ih hb g3]
       ·cases h
      ·cases h
    ·cases h
  |box cs=>
   simp only[Zae] at g;obtain⟨cs',os',rfl,g1,g2⟩:=g;simp only[ownA] at h;split at h
   ·rename_i b hb;obtain rfl:=Option.some.inj h;simp only[putO,<- g1,List.take_left,List.drop_left,ih hb g2]
   ·cases h
  |_=>
   simp only[Zae] at g;simp only[ownA] at h;exact ih h g
def cutL:List Nat->List C->List (List C)×List C
 |[],cs=>([],cs)
 |n::sh,cs=>(cs.take n::(cutL sh (cs.drop n)).1,(cutL sh (cs.drop n)).2)
def lensB:List (List C)->List Nat->Bool
 |[],[]=>true
 |r::rs,n::sh=>r.length==n&&lensB rs sh
 |_,_=>false
theorem cutL_join:∀ {sh:List Nat} {rs:List (List C)} (ws:List C),lensB rs sh=true->cutL sh (rs.flatten++ws)=(rs,ws)
 |[],[],ws,_=>rfl
 |[],_::_,ws,h=>by cases h
 |_::_,[],ws,h=>by cases h
 |n::sh,r::rs,ws,h=>by
  simp only[lensB,Bool.and_eq_true,beq_iff_eq] at h;obtain⟨h1,h2⟩:=h;subst h1;simp[cutL,cutL_join ws h2]
def decA (lo:Bool) (l:List A) (sh:List Nat) (R:List Q) (rs:List (List C)) (os:List Out):Option (Res R):=
 bif lensB rs sh then
  match ownA lo l os with
  |some ws=>Res.read R (rs.flatten++ws)
  |none=>none
 else none
def encA {β:Type} (lo:Bool) (l:List A) (sh:List Nat) (R:List Q) (K:List (List C)->List Out->Option β) (z:Res R):Option β:=
 K (cutL sh (Res.cells R z)).1 (putO lo l (cutL sh (Res.cells R z)).2)
theorem decA_inj {lo:Bool} {l:List A} {sh:List Nat} {R:List Q} {rs:List (List C)} {os:List Out} {z:Res R} (h:decA lo l sh R rs os=some z) (g:Zae l os):
  rs=(cutL sh (Res.cells R z)).1/\os=putO lo l (cutL sh (Res.cells R z)).2:=by
 unfold decA at h;cases hl:lensB rs sh with
 |false=>rw[hl] at h;cases h
 |true=>
  rw[hl] at h;simp only[cond_true] at h;split at h
  ·rename_i ws hw;rw[<- Res.read_some h,cutL_join ws hl];exact⟨rfl,(putO_own hw g).symm⟩
  ·cases h
def entRun {β:Type} (lo:Bool) {as:List AQ} {sh:List Nat} {R:List Q} (t:CurA (Option (Res R)) as) (l:List A) (K:List (List C)->List Out->Option β):Option β:=
 match prsA as l t with
 |some o=>
  match o with
  |some z=>encA lo l sh R K z
  |none=>none
 |none=>none
def ent (as:List AQ) (sh:List Nat) (R:List Q) (rts:List TypeId) (al:Bool) (t:CurA (Option (Res R)) as) (lo:Bool:=false) (ow:Bool:=false):Za0:=
 { modes:=as.map AQ.mode,rts:=rts,al:=al,ow:=ow,run:=λl K=>entRun lo (sh:=sh) t l K }
def Env.of:List (Nat×Za0)->Env
 |[]=>λ_=>none
 |x::l=>λg=>bif g==x.1 then some x.2 else Env.of l g
def AllE (P:Program):List (Nat×Za0)->Prop
 |[]=>True
 |[x]=>Zas P x.1 x.2
 |x::y::l=>Zas P x.1 x.2/\AllE P (y::l)
theorem AllE.env {P:Program}:∀ {l:List (Nat×Za0)},AllE P l->EnvOK P (Env.of l)
 |[],_=>env_nil
 |[x],h=>env_cons h env_nil
 |x::y::l,h=>env_cons h.1 (AllE.env (l:=y::l) h.2)
structure Pro where
 P:Program
 E:List (Nat×Za0)
 h:Hints
 k:Nat
noncomputable def Pro.run {β:Type} (p:Pro) (fn:Func) (l:List A) (K:List (List C)->List Out->Option β):Option β:=funDen p.P (Env.of p.E) p.h p.k fn l K
noncomputable def Pro.fin (p:Pro) (fn:Func) (l:List A) (sh:List Nat) (R:List Q) (lo:Bool:=false):Ex->St->Option (Res R):=finDen p.P fn p.h l (decA lo l sh R)
noncomputable def Pro.lp {β:Type} (p:Pro) (c:Code) (rid:Nat) (path:List Nat) (K:Ex->St->Option β) (k:Nat) (s:St):Option β:=
 ZcQ (λs K=>den p.P (Env.of p.E) p.h.H p.h.J p.k (codeAt (path++[0]) c) s K) (p.h.H rid) k s (contAt p.P (Env.of p.E) p.h p.k path c K)
noncomputable def Pro.ct {β:Type} (p:Pro) (c:Code) (path:List Nat) (K:Ex->St->Option β):Ex->St->Option β:=contAt p.P (Env.of p.E) p.h p.k path c K
def LpEq {V r:Type} (F:Nat->St->Option r) (lb:(V->Option r)->V->Option r) (s:V->St):Prop:=∀ n v,F n (s v)=Za1 lb n v
noncomputable def Pro.lf (p:Pro) (fn:Func) (rid:Nat) (path:List Nat) (l:List A) (sh:List Nat) (R:List Q) (lo:Bool:=false):Nat->St->Option (Res R):=p.lp (codeOf fn) rid path (p.fin fn l sh R lo)
theorem lp_eq {V β:Type} {p:Pro} {c:Code} {rid:Nat} {path:List Nat} {K:Ex->St->Option β} {lb:(V->Option β)->V->Option β} {s:V->St}
  (h:∀ (L:St->Option β) (v:V),den p.P (Env.of p.E) p.h.H p.h.J p.k (codeAt (path++[0]) c) (s v) (backK (p.h.H rid) L (contAt p.P (Env.of p.E) p.h p.k path c K))=lb (λv=>L (s v)) v):LpEq (p.lp c rid path K) lb s:=λn v=>loop_eq s lb h n v
theorem lf_eq {V:Type} {p:Pro} {fn:Func} {rid:Nat} {path:List Nat} {l:List A} {sh:List Nat} {R:List Q} {lo:Bool} {lb:(V->Option (Res R))->V->Option (Res R)} {s:V->St}
  (h:∀ (L:St->Option (Res R)) (v:V),den p.P (Env.of p.E) p.h.H p.h.J p.k (codeAt (path++[0]) (codeOf fn)) (s v) (backK (p.h.H rid) L (contAt p.P (Env.of p.E) p.h p.k path (codeOf fn) (p.fin fn l sh R lo)))=lb (λv=>L (s v)) v):LpEq (p.lf fn rid path l sh R lo) lb s:=λn v=>loop_eq s lb h n v
def keepAt:List (Nat×Keep)->Nat->Keep
 |[],_=>⟨[],[]⟩
 |x::l,n=>bif n==x.1 then x.2 else keepAt l n
def hints (l:List (Nat×Keep)) (al:Bool) (ra:List (List Bool)) (ow:Bool:=false) (lo:Bool:=false):Hints:=⟨keepAt l,λ_=>none,al,ra,ow,lo⟩
def kp (l:List Nat) (m:List (Nat×KA):=[]) (c:List (Nat×Nat×KA):=[]):Keep:=⟨l.map (λi=>(i,.asis))++m,c⟩
def slotsAt:Nat->Nat->List (Nat×T)->List T
 |0,_,_=>[]
 |n+1,i,[]=>.any::slotsAt n (i+1) []
 |n+1,i,x::l=>bif i==x.1 then x.2::slotsAt n (i+1) l else .any::slotsAt n (i+1) (x::l)
def mkSt (n:Nat) (l:List (Nat×T)) (ob:List Obj):St:=⟨slotsAt n 0 l,ob⟩
def proOk (fn:Func) (as:List AQ) (rts:List TypeId) (al ow:Bool) (p:Pro):Bool:=
 fn.name != "runtime.NumGoroutine" && fn.body.isSome && ZbX p.P (as.map AQ.mode) (fn.params.toList ++ List.replicate fn.nfree 0) && rts == fn.resultTypes.toList && al == p.h.al && ow == p.h.ow
theorem ent_ok (p:Pro) (hmix:p.P.follows .mixedOrders=true) (hT:Zax p.P) {f:FuncId} {fn:Func} (hf:p.P.funcs[f]? = some fn) {as:List AQ} {sh:List Nat} {R:List Q} {rts:List TypeId} {al:Bool} {t:CurA (Option (Res R)) as} {lo ow:Bool}
  (hE:AllE p.P p.E) (hc:proOk fn as rts al ow p=true) (heq:AllA as (λl z=>p.run fn l (decA lo l sh R)=z) t):Zas p.P f (ent as sh R rts al t lo ow):=by
 simp only[proOk,Bool.and_eq_true,beq_iff_eq] at hc;obtain⟨⟨⟨⟨⟨h1,h2⟩,h3⟩,h4⟩,h5⟩,h6⟩:=hc;obtain⟨c,hb⟩:=Option.isSome_iff_exists.mp h2;refine entry_of hmix hT (h:=p.h) (k:=p.k) hf hb hE.env h3 h4 h5 h6 (enter_of hf (by rw[h1,h2];rfl)) (λβ l K r hr=>?_);simp only[ent,entRun] at hr;split at hr
 ·rename_i o hz;split at hr
  ·rename_i z;exact⟨_,_,hr,_,decA lo l sh R,z,prsA_all hz heq,λrs os h ho=>decA_inj h ho⟩
  ·cases hr
 ·cases hr
theorem ent_zero {P : Program} {f : FuncId} {fn : Func} (hf : P.funcs[f]? = some fn) {as : List AQ} {sh : List Nat} {R : List Q} {rts : List TypeId} {al : Bool} {t : CurA (Option (Res R)) as} {lo ow : Bool} (hc : (fn.name != "runtime.NumGoroutine" && fn.body.isSome) = true)
  (heq:AllA as (λ_ z=>z=none) t):Zas P f (ent as sh R rts al t lo ow):=by
 refine entry_zero (enter_of hf hc) λβ l K r h=>?_
 simp only[ent,entRun] at h;split at h
 ·rename_i o hz;have:=prsA_all hz heq;subst this;cases h
 ·cases h
theorem ent_run (e:Za0) {as:List AQ} {sh:List Nat} {R:List Q} {rts:List TypeId} {al:Bool} {t:CurA (Option (Res R)) as} {lo ow:Bool} (he:e=ent as sh R rts al t lo ow) {β:Type} {l:List A} {K:List (List C)->List Out->Option β} {r:Option β} {z:Res R}
  (h:prsA as l t=some (some z)) (hr:encA lo l sh R K z=r):e.run l K=r:=by
 subst he;simp only[ent,entRun,h]
 exact hr
def Q.ask {β:Type}:(q:Q)->D->(q.ty->Option β)->Option β
 |.i k,d,F=>dInt k d F
 |.b,d,F=>dBool d F
 |.s,d,F=>dStr d F
 |.l,d,F=>dSl d F
 |.o,_,_=>none
def rdQ {β:Type}:(l:List Q)->List D->CurQ (Option β) l->Option β
 |[],ds,F=>atEnd ds F
 |q::l,ds,F=>Zct ds λd r=>q.ask d λx=>rdQ l r (F x)
def Q.askC {β:Type}:(q:Q)->C->(q.ty->Option β)->Option β
 |.i k,c,F=>cD c λd=>dInt k d F
 |.b,c,F=>cD c λd=>dBool d F
 |.s,c,F=>cD c λd=>dStr d F
 |.l,c,F=>cD c λd=>dSl d F
 |.o,c,F=>cOwn c F
def rcQ {β:Type}:(l:List Q)->List C->CurQ (Option β) l->Option β
 |[],cs,F=>atEnd cs F
 |q::l,cs,F=>Zct cs λc r=>q.askC c λx=>rcQ l r (F x)
def atC {β:Type} (xs:List (List C)) (i:Nat) (l:List Q) (F:CurQ (Option β) l):Option β:=Za7 xs i λc=>rcQ l c F
def atR {β:Type} (xs:List (List D)) (i:Int) (l:List Q) (F:CurQ (Option β) l):Option β:=Zam xs i λc=>rdQ l c F
section
variable {α₁ α₂ α₃ α₄ α₅ α₆ β:Type}
def bd1 (t:Option α₁) (K:α₁->Option β):Option β:=match t with|some z=>K z|none=>none
def bd2 (t:Option (α₁×α₂)) (K:α₁->α₂->Option β):Option β:=match t with|some z=>K z.1 z.2|none=>none
def bd3 (t:Option (α₁×α₂×α₃)) (K:α₁->α₂->α₃->Option β):Option β:=match t with|some z=>K z.1 z.2.1 z.2.2|none=>none
def bd4 (t:Option (α₁×α₂×α₃×α₄)) (K:α₁->α₂->α₃->α₄->Option β):Option β:=match t with|some z=>K z.1 z.2.1 z.2.2.1 z.2.2.2|none=>none
def bd5 (t:Option (α₁×α₂×α₃×α₄×α₅)) (K:α₁->α₂->α₃->α₄->α₅->Option β):Option β:=match t with|some z=>K z.1 z.2.1 z.2.2.1 z.2.2.2.1 z.2.2.2.2|none=>none
end
def bd6 {α₁ α₂ α₃ α₄ α₅ α₆ β:Type} (t:Option (α₁×α₂×α₃×α₄×α₅×α₆)) (K:α₁->α₂->α₃->α₄->α₅->α₆->Option β):Option β:=match t with|some z=>K z.1 z.2.1 z.2.2.1 z.2.2.2.1 z.2.2.2.2.1 z.2.2.2.2.2|none=>none
def bd7 {α₁ α₂ α₃ α₄ α₅ α₆ α₇ β:Type} (t:Option (α₁×α₂×α₃×α₄×α₅×α₆×α₇)) (K:α₁->α₂->α₃->α₄->α₅->α₆->α₇->Option β):Option β:=match t with|some z=>K z.1 z.2.1 z.2.2.1 z.2.2.2.1 z.2.2.2.2.1 z.2.2.2.2.2.1 z.2.2.2.2.2.2|none=>none
def bd13 {α₁ α₂ α₃ α₄ α₅ α₆ α₇ α₈ α₉ α₁₀ α₁₁ α₁₂ α₁₃ β:Type} (t:Option (α₁×α₂×α₃×α₄×α₅×α₆×α₇×α₈×α₉×α₁₀×α₁₁×α₁₂×α₁₃)) (K:α₁->α₂->α₃->α₄->α₅->α₆->α₇->α₈->α₉->α₁₀->α₁₁->α₁₂->α₁₃->Option β):Option β:=match t with|some z=>K z.1 z.2.1 z.2.2.1 z.2.2.2.1 z.2.2.2.2.1 z.2.2.2.2.2.1 z.2.2.2.2.2.2.1 z.2.2.2.2.2.2.2.1 z.2.2.2.2.2.2.2.2.1 z.2.2.2.2.2.2.2.2.2.1 z.2.2.2.2.2.2.2.2.2.2.1 z.2.2.2.2.2.2.2.2.2.2.2.1 z.2.2.2.2.2.2.2.2.2.2.2.2|none=>none
end Go.T
