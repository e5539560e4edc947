/- Calls: freezing what is handed over,and what a call hands back. -/
import Derived.Test.YtlobhlnahhjpjaaGreatTCall2
set_option linter.unusedVariables false
set_option linter.unusedSimpArgs false
namespace Go.T
theorem St.sets_ob (st:St) (l:List (Nat×Obj)):(st.sets l).ob=ZG st.ob l:=rfl
theorem St.sets_length (st:St) (l:List (Nat×Obj)):(st.sets l).ob.length=st.ob.length:=Zx _ _
theorem Za6 {st:St} {id i:Nat} {o:Obj} (h:i≠id):(st.setOb id o).ob[i]? = st.ob[i]?:=by
 simp only[St.setOb]
 rw[List.getElem?_set_ne (λe=>h e.symm)]
theorem ZaZ {st:St} {id i:Nat} {o o':Obj} (h:(st.setOb id o).ob[i]? = some o'):i=id/\o'=o\/i≠id/\st.ob[i]? = some o':=by
 by_cases e:i=id
 ·subst e
  simp only[St.setOb] at h
  rw[List.getElem?_set] at h
  split at h
  ·split at h
   ·injection h with h;exact .inl ⟨rfl,h.symm⟩
   ·cases h
  ·rename_i q;exact absurd rfl q
 ·rw[Za6 e] at h
  exact .inr ⟨e,h⟩
theorem Frz.mem {st:St} {l:List (Nat×Obj)} (h:Frz st l):∀ p∈l,(∃ og fr ct xs,st.ob[p.1]? = some (.row og fr ct xs)/\p.2=.frz fr (C.immRows xs))\/(∃ og t cs f ds,st.ob[p.1]? = some (.box og t cs)/\p.2=.fbx f ds):=by
 induction h with
 |nil=>simp
 |row h r ih=>
  intro p hp
  rcases List.mem_cons.mp hp with rfl|hp
  ·exact .inl ⟨_,_,_,_,h,rfl⟩
  ·rcases ih p hp with⟨og,fr,ct,xs,q,e⟩|⟨og,t,cs,f,ds,q,e⟩
   ·rcases ZaZ q with⟨_,q⟩|⟨_,q⟩
    ·cases q
    ·exact .inl ⟨og,fr,ct,xs,q,e⟩
   ·rcases ZaZ q with⟨_,q⟩|⟨_,q⟩
    ·cases q
    ·exact .inr ⟨og,t,cs,f,ds,q,e⟩
 |box h hd r ih=>
  intro p hp
  rcases List.mem_cons.mp hp with rfl|hp
  ·exact .inr ⟨_,_,_,_,_,h,rfl⟩
  ·rcases ih p hp with⟨og,fr,ct,xs,q,e⟩|⟨og,t,cs,f,ds,q,e⟩
   ·rcases ZaZ q with⟨_,q⟩|⟨_,q⟩
    ·cases q
    ·exact .inl ⟨og,fr,ct,xs,q,e⟩
   ·rcases ZaZ q with⟨_,q⟩|⟨_,q⟩
    ·cases q
    ·exact .inr ⟨og,t,cs,f,ds,q,e⟩
theorem Frz.final {st:St} {l:List (Nat×Obj)} (h:Frz st l):∀ p∈l,(st.sets l).ob[p.1]? = some p.2:=by
 have key:∀ (st:St) (id:Nat) (o:Obj) (l:List (Nat×Obj)),id<st.ob.length->(∀ og f ct xs,o≠.row og f ct xs)->(∀ og t cs,o≠.box og t cs)->Frz (st.setOb id o) l->(∀ p∈l,((st.setOb id o).sets l).ob[p.1]? = some p.2)->∀ p∈(id,o)::l,(st.sets ((id,o)::l)).ob[p.1]? = some p.2:=by
  intro st id o l hl h1 h2 r ih p hp
  rw[St.sets_cons]
  rcases List.mem_cons.mp hp with rfl|hp
  ·rw[St.sets_ob,Zao]
   ·simp only[St.setOb];rw[List.getElem?_set_self hl]
   ·intro p hp e
    rcases r.mem p hp with⟨og,fr,ct,xs,q,_⟩|⟨og,t,cs,f,ds,q,_⟩
    ·rw[e] at q
     rcases ZaZ q with⟨_,q⟩|⟨q,_⟩
     ·exact h1 _ _ _ _ q.symm
     ·exact q rfl
    ·rw[e] at q
     rcases ZaZ q with⟨_,q⟩|⟨q,_⟩
     ·exact h2 _ _ _ q.symm
     ·exact q rfl
  ·exact ih p hp
 induction h with
 |nil=>simp
 |row h r ih=>exact key _ _ _ _ (List.getElem?_eq_some_iff.mp h).1 (by simp) (by simp) r ih
 |box h hd r ih=>exact key _ _ _ _ (List.getElem?_eq_some_iff.mp h).1 (by simp) (by simp) r ih
theorem Frz.under {st:St} {l:List (Nat×Obj)} (h:Frz st l) {id:Nat} {o:Obj} (ho:(st.sets l).ob[id]? = some o) (h1:∀ f xs,o≠.frz f xs) (h2:∀ f xs,o≠.fbx f xs):id∉l.map (·.1)/\st.ob[id]? = some o:=by
 have hn:id∉l.map (·.1):=by
  intro hm
  obtain⟨p,hp,rfl⟩:=List.mem_map.mp hm
  rw[h.final p hp] at ho
  injection ho with ho
  rcases h.mem p hp with⟨og,fr,ct,xs,_,e⟩|⟨og,t,cs,f,ds,_,e⟩
  ·exact h1 _ _ (ho.symm.trans e)
  ·exact h2 _ _ (ho.symm.trans e)
 refine⟨hn,?_⟩
 rw[St.sets_ob,Zao _ _ _ (λp hp e=>hn (List.mem_map.mpr ⟨p,hp,e⟩))] at ho
 exact ho
def ZaW (st:St) (L:List Nat) (st':St):Prop:=
 ∃ l,st'=st.sets l/\Frz st l/\(∀ p∈l,p.1∈L)/\∀ (id:Nat) (f:Bool) (ds:List D) (og:Option Nat) (t:TypeId) (cs:List T),(id,Obj.fbx f ds)∈l->st.ob[id]? = some (.box og t cs)->∀ j∈Zo cs,j∈L
theorem ZaW.refl (st:St) (L:List Nat):ZaW st L st:=⟨[],by rw[St.sets_nil],.nil st,by simp,by simp⟩
theorem ZaW.trans {st st1 st2:St} {L:List Nat} (h1:ZaW st L st1) (h2:ZaW st1 L st2):ZaW st L st2:=by
 obtain⟨l1,rfl,a1,a2,a3⟩:=h1
 obtain⟨l2,rfl,b1,b2,b3⟩:=h2
 refine⟨l1++l2,by rw[St.sets_append],a1.append b1,λp hp=>?_,λid f ds og t cs hm ho=>?_⟩
 ·rcases List.mem_append.mp hp with q|q
  ·exact a2 p q
  ·exact b2 p q
 ·rcases List.mem_append.mp hm with q|q
  ·exact a3 id f ds og t cs q ho
  ·rcases b1.mem _ q with⟨_,_,_,_,_,e⟩|⟨og',t',cs',f',ds',ho',e⟩
   ·cases e
   ·have:=(a1.under ho' (by simp) (by simp)).2
    simp only[] at this
    rw[ho] at this
    injection this with this
    injection this with e1 e2 e3
    subst e1 e2 e3
    exact b3 id f ds _ _ _ q ho'
theorem ZaW.mono {st st':St} {L L':List Nat} (h:ZaW st L st') (hL:∀ i∈L,i∈L'):ZaW st L' st':=by
 obtain⟨l,e,a1,a2,a3⟩:=h
 exact⟨l,e,a1,λp hp=>hL _ (a2 p hp),λid f ds og t cs hm ho j hj=>hL _ (a3 id f ds og t cs hm ho j hj)⟩
theorem ZaW.box {st st':St} {L:List Nat} (h:ZaW st L st') {id:Nat} {og:Option Nat} {t:TypeId} {cs:List T} (ho:st'.ob[id]? = some (.box og t cs)):st.ob[id]? = some (.box og t cs):=by
 obtain⟨l,rfl,a1,_,_⟩:=h
 exact(a1.under ho (by simp) (by simp)).2
theorem freezeCell_frz (st:St) (t:T):∃ l,Zbw st t=st.sets l/\Frz st l/\(∀ p∈l,p.1∈Zo [t])/\∀ p∈l,∃ f xs,p.2=.frz f xs:=by
 unfold Zbw
 split
 ·rename_i id
  split
  ·rename_i og fr ct xs ho
   exact⟨[(id,.frz fr (C.immRows xs))],by rw[St.sets_cons,St.sets_nil],.row ho (.nil _),by simp[Zo],by simp⟩
  ·exact⟨[],by rw[St.sets_nil],.nil st,by simp,by simp⟩
 ·exact⟨[],by rw[St.sets_nil],.nil st,by simp,by simp⟩
theorem Zco:∀ (ts:List T) (st:St),∃ l,Zbv st ts=st.sets l/\Frz st l/\(∀ p∈l,p.1∈Zo ts)/\∀ p∈l,∃ f xs,p.2=.frz f xs
 |[],st=>⟨[],by rw[St.sets_nil];rfl,.nil st,by simp,by simp⟩
 |t::ts,st=>by
  obtain⟨l1,e1,a1,a2,a3⟩:=freezeCell_frz st t
  obtain⟨l2,e2,b1,b2,b3⟩:=Zco ts (Zbw st t)
  rw[e1] at b1
  refine⟨l1++l2,?_,a1.append b1,λp hp=>?_,λp hp=>?_⟩
  ·show Zbv (Zbw st t) ts=_
   rw[e2,e1,St.sets_append]
  ·simp only[Zo,List.flatMap_cons,List.mem_append] at a2 b2⊢
   rcases List.mem_append.mp hp with q|q
   ·exact .inl (by simpa using a2 p q)
   ·exact .inr (b2 p q)
  ·rcases List.mem_append.mp hp with q|q
   ·exact a3 p q
   ·exact b3 p q
theorem ZaW.cells (st:St) (ts:List T):ZaW st (Zo ts) (Zbv st ts):=by
 obtain⟨l,e,a1,a2,a3⟩:=Zco ts st
 refine⟨l,e,a1,a2,λid f ds og t cs hm _=>?_⟩
 obtain⟨_,_,q⟩:=a3 _ hm
 cases q
theorem ZaW.cell (st:St) (t:T):ZaW st (Zo [t]) (Zbw st t):=ZaW.cells st [t]
theorem ZaW.cap (st:St) (t:T):ZaW st (ZaE st t) (freezeCap st t):=by
 unfold freezeCap
 split
 ·rename_i id off
  split
  ·rename_i og bt cs ho
   split
   ·rename_i f ds hd
    have hl:ZaE st (.bp id off)=id::Zo cs:=by simp only[ZaE,ho]
    rw[hl]
    obtain⟨l,e,a1,a2,a3⟩:=Zco cs st
    have hn:id∉l.map (·.1):=by
     intro hm
     obtain⟨p,hp,he⟩:=List.mem_map.mp hm
     rcases a1.mem p hp with⟨og,fr,ct,xs,q,_⟩|⟨og,t,cs,f,ds,_,q⟩
     ·rw[he,ho] at q;cases q
     ·obtain⟨_,_,q'⟩:=a3 p hp
      rw[q'] at q;cases q
    have ho':(Zbv st cs).ob[id]? = some (.box og bt cs):=by
     rw[e,St.sets_ob,Zao _ _ _ (λp hp e=>hn (List.mem_map.mpr ⟨p,hp,e⟩))];exact ho
    refine⟨l++[(id,.fbx f ds)],by rw[St.sets_append,<- e,St.sets_cons,St.sets_nil],a1.append ?_,λp hp=>?_,λid' f' ds' og' t' cs' hm hb=>?_⟩
    ·rw[<- e]
     exact .box ho' hd (.nil _)
    ·rcases List.mem_append.mp hp with q|q
     ·exact List.mem_cons_of_mem _ (a2 p q)
     ·simp at q;subst q;simp
    ·rcases List.mem_append.mp hm with q|q
     ·obtain⟨_,_,q'⟩:=a3 _ q
      cases q'
     ·simp at q
      obtain⟨rfl,_,_⟩:=q
      rw[ho] at hb
      injection hb with hb;injection hb with _ _ hb
      subst hb
      exact λj hj=>List.mem_cons_of_mem _ hj
   ·exact ZaW.refl _ _
  ·exact ZaW.refl _ _
 ·exact ZaW.refl _ _
theorem lookCap_under {st st':St} {L:List Nat} (h:ZaW st L st') (t:T):∀ i∈ZaE st' t,i∈ZaE st t:=by
 intro i hi
 unfold ZaE at hi⊢
 split at hi
 ·split at hi
  ·rename_i ho
   rw[h.box ho]
   exact hi
  ·simp at hi
   subst hi
   split<;>simp
 ·cases hi
theorem ZaW.caps {L:List Nat} {st0:St}:∀ (ts:List T) (st:St),ZaW st0 L st->(∀ t∈ts,∀ i∈ZaE st0 t,i∈L)->ZaW st0 L (ts.foldl freezeCap st)
 |[],st,h,_=>h
 |t::ts,st,h,hL=>by
  refine ZaW.caps ts (freezeCap st t) (h.trans ((ZaW.cap st t).mono λi hi=>hL t (by simp) i (lookCap_under h t i hi))) λt ht=>hL t (by simp[ht])
theorem ZaW.arg {L:List Nat} {st0 st:St} (t:T) (h:ZaW st0 L st) (hL:∀ i∈ZE st0 t,i∈L):ZaW st0 L (freezeT st t):=by
 unfold freezeT
 split
 ·exact h.trans ((ZaW.cells st _).mono hL)
 ·exact ZaW.caps _ st h λt ht i hi=>hL i (by rw[Zcv];exact List.mem_flatMap.mpr ⟨t,ht,hi⟩)
 ·rename_i id i off
  exact h.trans ((ZaW.cell st (.row id)).mono λi hi=>hL i (by simpa[Zo,ZE] using hi))
 ·refine h.trans ((ZaW.cell st t).mono λi hi=>hL i ?_)
  simp only[Zo,List.flatMap_cons,List.flatMap_nil,List.append_nil] at hi
  split at hi
  ·simpa[ZE] using hi
  ·cases hi
theorem ZaW.args {L:List Nat} {st0:St}:∀ (ms:List (Mode×TypeId)) (ts:List T) (st:St),ZaW st0 L st->(∀ t∈ts,∀ i∈ZE st0 t,i∈L)->ZaW st0 L (Zbx st ms ts)
 |[],ts,st,h,_=>by cases ts<;>simpa only[Zbx] using h
 |(m,ct)::ms,[],st,h,_=>by cases m<;>simpa only[Zbx] using h
 |(m,ct)::ms,t::ts,st,h,hL=>by
  cases m<;>simp only[Zbx]
  ·exact ZaW.args ms ts _ (h.arg t (hL t (by simp))) λt ht=>hL t (by simp[ht])
  all_goals exact ZaW.args ms ts st h λt ht=>hL t (by simp[ht])
theorem bornRes_syn {P:Program} {fr:Bool}:∀ {tys:List TypeId} {cs:List (List C)} {st st':St} {ts:List T},ZaX P fr st tys cs=some (ts,st')->∃ news,st'=⟨st.tm,st.ob++news⟩
 |t::tys,c::cs,st,st',ts,h=>by
  simp only[ZaX] at h
  cases hp:Zb5 P t with
  |true=>
   rw[hp] at h
   simp only[cond_true] at h
   split at h
   case h_2=>cases h
   split at h
   case h_2=>cases h
   rename_i h2
   injection h with h;injection h with e1 e2;subst e1 e2
   obtain⟨n2,rfl⟩:=bornRes_syn h2
   exact⟨_::n2,by simp[St.newOb];rfl⟩
  |false=>
   rw[hp] at h
   simp only[cond_false] at h
   split at h
   case h_2=>cases h
   rename_i r st1 h1
   split at h
   case h_2=>cases h
   rename_i rs st2 h2
   injection h with h;injection h with e1 e2;subst e1 e2
   obtain⟨n1,rfl⟩:=bornC_syn h1
   obtain⟨n2,rfl⟩:=bornRes_syn h2
   exact⟨n1++n2,by simp⟩
 |[],[],st,st',ts,h=>by
  simp only[ZaX] at h
  injection h with h;injection h with e1 e2;subst e1 e2
  exact⟨[],by simp⟩
 |_::_,[],_,_,_,h=>by simp[ZaX] at h
 |[],_::_,_,_,_,h=>by simp[ZaX] at h
theorem ZcW {P:Program} {X:Fix} {w:World} {I:Nat->Prop} {fr:Bool}:∀ {tys:List TypeId} {cs:List (List C)} {st st':St} {ts:List T} {vs:List Value} {F:List Nat},ZaX P fr st tys cs=some (ts,st')->ZaO P w I tys cs vs F->
  ∃ ns:List Nw,st'=⟨st.tm,st.ob++ns.map (·.ob)⟩/\F=ns.flatMap (·.fp)/\(∀ x∈ns,NwOk P w I fr x)/\∀ g:G,NwAt X I fr g st.ob.length ns->Zh X w g ts vs
 |t::tys,c::cs,st,st',ts,vs,F,h,r=>by
  simp only[ZaX] at h
  simp only[ZaO] at r
  obtain⟨v,vs',F1,F2,rfl,rfl,rv,r2⟩:=r
  rcases rv with⟨hp,cells,hv,hsz,r1⟩|⟨hp,ds,rfl,hbox⟩
  rotate_left
  ·rw[hp] at h
   simp only[cond_true,datCs_map] at h
   split at h
   case h_2=>cases h
   rename_i rs st2 h2
   injection h with h;injection h with e1 e2;subst e1 e2
   obtain⟨ns,a1,a2,a3,a4⟩:=ZcW (X:=X) h2 r2
   refine⟨⟨.box none (Zbn P t) (ds.map (.d fr)),F1,v,0⟩::ns,by rw[a1];simp[St.newOb],by simp[a2],λx hx=>?_,λg hg=>?_⟩
   ·rcases List.mem_cons.mp hx with rfl|hx
    ·exact .inr ⟨_,ds,rfl,hbox⟩
    ·exact a3 x hx
   ·obtain⟨hB,hh⟩:=hg.1 0 _ rfl
    obtain⟨b,c,e,hv,_⟩:=hbox
    simp only[Zh]
    refine⟨v,vs',rfl,rfl,?_,a4 g ⟨λi x hx=>?_,hg.2⟩⟩
    ·simp only[Zb]
     exact⟨by simpa using hB,b,by rw[<- hv];simpa using hh,hv⟩
    ·have:=hg.1 (i+1) x (by simpa using hx)
     simp only[St.newOb,List.length_append,List.length_singleton]
     rwa[show st.ob.length+1+i=st.ob.length+(i+1) from by omega]
  rw[hp] at h
  simp only[cond_false] at h
  split at h
  case h_2=>cases h
  rename_i rt st1 h1
  split at h
  case h_2=>cases h
  rename_i rs st2 h2
  injection h with h;injection h with e1 e2;subst e1 e2
  obtain⟨n1,rfl,a2,a3,a4⟩:=Zci (X:=X) h1 r1
  obtain⟨n2,b1,b2,b3,b4⟩:=ZcW (X:=X) h2 r2
  refine⟨n1++n2,by rw[b1];simp,by simp[a2,b2],λx hx=>?_,λg hg=>?_⟩
  ·rcases List.mem_append.mp hx with q|q
   ·exact .inl (a3 x q)
   ·exact b3 x q
  ·have hg1:NwAt X I fr g st.ob.length n1:=⟨λj x hx=>hg.1 j x (by rw[List.getElem?_append_left (List.getElem?_eq_some_iff.mp hx).1];exact hx),hg.2⟩
   have hg2:NwAt X I fr g (st.ob++n1.map (·.ob)).length n2:=⟨λj x hx=>by
    have:=hg.1 (n1.length+j) x (by rw[List.getElem?_append_right (by omega)];simpa using hx)
    simpa[Nat.add_assoc] using this,hg.2⟩
   obtain⟨us,c1,c2,c3⟩:=a4 g hg1
   simp only[Zh]
   refine⟨v,vs',rfl,?_,?_,b4 g hg2⟩
   ·have key:∀ (ts:List T) (us:List Value),Zh X w g ts us->Zb4 (ts.headD .any)=false:=by
     intro ts us r
     cases ts with
     |nil=>rfl
     |cons t ts=>simp only[Zh] at r;obtain⟨_,_,_,q,_⟩:=r;exact q
    unfold wrapT
    split
    ·rfl
    ·exact key rt us c1
   ·unfold wrapT
    have hus:cells.toList=us:=by
     apply List.ext_getElem?
     intro j
     rw[Array.getElem?_toList]
     cases hj:us[j]? with
     |some u=>simpa using c3 j u hj
     |none=>
      rw[List.getElem?_eq_none_iff] at hj
      simp;omega
    split at hv
    ·rename_i hg'
     rw[if_pos hg']
     simp only[Zb]
     exact⟨us,by rw[hv,<- hus],c1⟩
    ·rename_i hg'
     rw[if_neg hg']
     cases rt with
     |nil=>simp[Zb]
     |cons t0 rt=>
      simp only[Zh] at c1
      obtain⟨u,us',rfl,_,q,_⟩:=c1
      simp only[List.headD_cons]
      have:=c3 0 u (by simp)
      rw[hv]
      have h0:cells.getD 0 undef=u:=by
       rw[Array.getD_eq_getD_getElem?]
       simp at this
       simp[this]
      rw[h0];exact q
 |[],[],st,st',ts,vs,F,h,r=>by
  simp only[ZaX] at h
  injection h with h;injection h with e1 e2;subst e1 e2
  simp only[ZaO] at r
  obtain⟨rfl,rfl⟩:=r
  exact⟨[],by simp,by simp,by simp,λg hg=>by simp[Zh]⟩
 |_::_,[],_,_,_,_,_,h,_=>by simp[ZaX] at h
 |[],_::_,_,_,_,_,_,h,_=>by simp[ZaX] at h
end Go.T
