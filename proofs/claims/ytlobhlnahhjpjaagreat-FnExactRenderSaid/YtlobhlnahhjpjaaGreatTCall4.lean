/- Calls: a step that turns objects; the shape of what comes back. -/
import Derived.Test.YtlobhlnahhjpjaaGreatTCall3
set_option linter.unusedVariables false
set_option linter.unusedSimpArgs false
namespace Go.T
theorem Rel.eff {P:Program} {X:Fix} {w0 w w':World} {g g':G} {stL:St} {a:Act} {dst:Option Nat} {n:Nat} {e:Eff} {v:Value} (hr:Rel P X w g stL a) (hs:Zac X w0 w)
  (hn:∀ j,j<e.news.length->stL.ob[n+j]? = some .gone/\¬ g.B (n+j)) (hchg:∀ p∈e.chg,p.1<n)
  (hx:Turn X w w' g g' (e.U n)) (hB:∀ id,g'.B id↔g.B id\/(n<=id/\id<n+e.news.length))
  (hch:∀ id o,(∃ p∈e.chg,p.1=id)->(ZG stL.ob e.chg)[id]? = some o->g.B id->Zn P X w' g' id o)
  (hnw:∀ j ob,e.news[j]? = some ob->Zn P X w' g' (n+j) ob) (hT:Zb X w' g' e.t v):Rel P X w' g' (stL.eff dst n e) (a.put dst v):=by
 refine Rel.put ?_ dst hT
 have hlen:∀ j,j<e.news.length->n+j<stL.ob.length:=λj hj=>(List.getElem?_eq_some_iff.mp (hn j hj).1).1
 refine Rel.update (e.U n) hr hs hx rfl ⟨by simp[hr.tms.1],?_⟩ ?_ ?_
 ·intro i t ht
  rw[List.getElem?_map] at ht
  obtain⟨t0,ht0,rfl⟩:=Option.map_eq_some_iff.mp ht
  obtain⟨v0,hv0,rv0⟩:=hr.tms.2 i t0 ht0
  rcases Zbi e.chg t0 with⟨hk,hsub⟩|hk
  ·refine .inr (.inr ⟨by rw[hk];exact ht0,rfl,λid j off e' hU=>?_⟩)
   rw[hk] at e'
   subst e'
   simp only[Zb] at rv0
   rcases hU with⟨p,hp,e⟩|⟨q1,q2⟩
   ·exact hsub id j off rfl p hp e
   ·exact(hn (id-n) (by omega)).2 (by rw[show n+(id-n)=id from by omega];exact rv0.1)
  ·exact .inl ⟨hk,v0,hv0⟩
 ·intro id hU
  rw[ZbP _ _ _ _ (by
   rcases Nat.lt_or_ge id n with q|q
   ·exact .inl q
   ·exact .inr (Nat.le_of_not_lt λq2=>hU (.inr ⟨q,q2⟩)))]
  exact Zao _ _ _ λp hp e=>hU (.inl ⟨p,hp,e⟩)
 ·intro id hU hb
  by_cases hn2:n<=id/\id<n+e.news.length
  ·obtain⟨j,rfl⟩:∃ j,id=n+j:=⟨id-n,by omega⟩
   have hj:j<e.news.length:=by omega
   refine⟨e.news[j],?_,hnw j _ (by simp[hj])⟩
   rw[setNews_hit _ _ _ _ hj (by rw[Zx];exact hlen j hj)]
   simp[hj]
  ·have hc:=hU.resolve_right hn2
   have hlt:id<n:=by obtain⟨p,hp,rfl⟩:=hc;exact hchg p hp
   rw[ZbP _ _ _ _ (by omega)]
   have hb0:=((hB id).mp hb).resolve_right hn2
   obtain⟨o0,ho0,_⟩:=hr.obs id hb0
   obtain⟨o',hm,ho'⟩:=ZbJ e.chg stL.ob id hc (List.getElem?_eq_some_iff.mp ho0).1
   exact⟨o',ho',hch id o' hc ho' hb0⟩
theorem eff_split (st:St) (dst:Option Nat) (n:Nat) (t:T) (l1 l2:List (Nat×Obj)) (news:List Obj):st.eff dst n ⟨t,l1++l2,news⟩=(st.sets l1).eff dst n ⟨t,l2,news⟩:=by
 simp only[St.eff,St.sets,Zbg,List.map_map]
 have:(Zw (l1++l2))=(Zw l2∘Zw l1):=funext λt=>killAll_append l1 l2 t
 rw[this]
theorem ZaH.syn {st:St} {cts:List TypeId} {ts:List T} {cs:List C} {mv:List Nat} (h:ZaH st cts ts cs mv):∀ {β:Type} {cs':List C} {st2:St} {k:St->Option β} {r:β},ZP st st2 ts cs' k=some r->
  ∃ chg:List (Nat×Obj),chg.map (·.1)=mv/\∀ {β':Type} (k':St->Option β'),ZP st st2 ts cs' k'=k' (st2.sets chg):=by
 induction h with
 |nil=>
  intro β cs' st2 k r h
  cases cs' with
  |cons _ _=>simp[ZP] at h
  |nil=>exact⟨[],rfl,λk'=>by simp only[ZP,St.sets_nil]⟩
 |@row ct cts id og fr xs ts cs mv h r ih=>
  intro β cs' st2 k r hb
  cases cs' with
  |nil=>simp[ZP] at hb
  |cons x cs'=>
   simp only[ZP,h] at hb
   obtain⟨zs,rfl,hb⟩:=Zcx hb
   obtain⟨hg,hb⟩:=Zp hb
   obtain⟨chg,b1,b2⟩:=ih hb
   refine⟨(id,.row og false ct zs)::chg,by simp[b1],λk'=>?_⟩
   simp only[ZP,h,cOwn,Zd,hg,if_true,St.sets_cons]
   exact b2 k'
 |@none ct cts ts cs mv r ih=>
  intro β cs' st2 k r hb
  cases cs' with
  |nil=>simp[ZP] at hb
  |cons x cs'=>
   simp only[ZP] at hb
   obtain⟨chg,b1,b2⟩:=ih hb
   exact⟨chg,b1,λk'=>by simp only[ZP];exact b2 k'⟩
 |@dat ct cts f x ts cs mv r ih=>
  intro β cs' st2 k r hb
  cases cs' with
  |nil=>simp[ZP] at hb
  |cons x cs'=>
   simp only[ZP] at hb
   obtain⟨chg,b1,b2⟩:=ih hb
   exact⟨chg,b1,λk'=>by simp only[ZP];exact b2 k'⟩
theorem Lent.syn {P:Program} {fo fa:Bool} {s:Bool} {st:St} {ms:List (Mode×TypeId)} {ts:List T} {as:List A} {mv:List Nat} (h:Lent P s st ms ts as mv):∀ {β:Type} {os:List Out} {st2:St} {k:St->Option β} {r:β},st.ob.length<=st2.ob.length->Zr P fo fa st st2 ms ts os k=some r->
  ∃ (chg:List (Nat×Obj)) (news:List Obj),chg.map (·.1)=mv/\∀ {β':Type} (k':St->Option β'),Zr P fo fa st st2 ms ts os k'=k' ((st2.more news).sets chg):=by
 induction h with
 |done=>
  intro β os st2 k r hlen h
  cases os with
  |cons _ _=>simp[Zr] at h
  |nil=>exact⟨[],[],rfl,λk'=>by simp only[Zr,St.sets_nil,St.more_nil]⟩
 |imm h r ih=>
  intro β os st2 k r hlen hb
  simp only[Zr] at hb
  obtain⟨chg,news,b1,b2⟩:=ih hlen hb
  exact⟨chg,news,b1,λk'=>by simp only[Zr];exact b2 k'⟩
 |immSub hs h hc hd hy r ih=>
  intro β os st2 k r hlen hb
  simp only[Zr] at hb
  obtain⟨chg,news,b1,b2⟩:=ih hlen hb
  exact⟨chg,news,b1,λk'=>by simp only[Zr];exact b2 k'⟩
 |nil r ih=>
  intro β os st2 k r hlen hb
  simp only[Zr] at hb
  obtain⟨chg,news,b1,b2⟩:=ih hlen hb
  exact⟨chg,news,b1,λk'=>by simp only[Zr];exact b2 k'⟩
 |@row ct ms id og fr xs ts as mv h r ih=>
  intro β os st2 k r hlen hb
  cases os with
  |nil=>simp[Zr] at hb
  |cons o os=>
   cases o with
   |box _=>simp[Zr] at hb
   |lost=>
    simp only[Zr] at hb
    obtain⟨chg,news,b1,b2⟩:=ih (by simpa[St.setOb] using hlen) hb
    refine⟨(id,.gone)::chg,news,by simp[b1],λk'=>?_⟩
    simp only[Zr,St.sets_cons]
    rw[b2 k',St.setOb_more (Nat.lt_of_lt_of_le (ob_lt h) hlen)]
   |own cs'=>
    match cs',hb with
    |[],hb=>simp[Zr] at hb
    |[c'],hb=>
     simp only[Zr,h] at hb
     obtain⟨zs,rfl,hb⟩:=Zcx hb
     cases hfo:fo with
     |true=>
      rw[hfo] at hb
      simp only[cond_true] at hb
      obtain⟨hg,hb⟩:=Zp hb
      rw[hfo] at ih
      obtain⟨chg,news,b1,b2⟩:=ih (by simpa[St.setOb] using hlen) hb
      refine⟨(id,.row og true ct zs)::chg,news,by simp[b1],λk'=>?_⟩
      simp only[Zr,h,cOwn,cond_true,Zd,if_pos hg,St.sets_cons]
      rw[b2 k',St.setOb_more (Nat.lt_of_lt_of_le (ob_lt h) hlen)]
     |false=>
     rw[hfo] at hb ih
     simp only[cond_false] at hb
     cases hf:(fa&&flatTy P ct) with
     |true=>
      rw[hf] at hb
      simp only[cond_true] at hb
      obtain⟨hg,hb⟩:=Zp hb
      obtain⟨chg,news,b1,b2⟩:=ih (by simpa[St.setOb] using hlen) hb
      refine⟨(id,.row og true ct zs)::chg,news,by simp[b1],λk'=>?_⟩
      simp only[Zr,h,cOwn,hf,cond_true,cond_false,Zd,if_pos hg,St.sets_cons]
      rw[b2 k',St.setOb_more (Nat.lt_of_lt_of_le (ob_lt h) hlen)]
     |false=>
      rw[hf] at hb
      simp only[cond_false] at hb
      obtain⟨hg,hb⟩:=Zp hb
      obtain⟨chg,news,b1,b2⟩:=ih (by simpa[St.setOb] using hlen) hb
      refine⟨(id,.row og false ct zs)::chg,news,by simp[b1],λk'=>?_⟩
      simp only[Zr,h,cOwn,hf,cond_true,cond_false,Zd,if_pos hg,St.sets_cons]
      rw[b2 k',St.setOb_more (Nat.lt_of_lt_of_le (ob_lt h) hlen)]
    |_::_::_,hb=>simp[Zr] at hb
 |@agg ct ms cs c m ts as mv h r ih=>
  intro β os st2 k r hlen hb
  cases os with
  |nil=>simp[Zr] at hb
  |cons o os=>
   cases o with
   |box _=>simp[Zr] at hb
   |lost=>
    simp only[Zr] at hb
    have hm:∀ p∈m.map (·,Obj.gone),p.1<st2.ob.length:=λp hp=>by
     obtain⟨i,hi',rfl⟩:=List.mem_map.mp hp
     obtain⟨_,_,_,_,q⟩:=h.rows i hi'
     exact Nat.lt_of_lt_of_le (ob_lt q) hlen
    rw[ZcC,h.ids,St.sets_gones] at hb
    obtain⟨chg,news,b1,b2⟩:=ih (by simp only[St.sets,Zx];exact hlen) hb
    refine⟨m.map (·,Obj.gone)++chg,news,by simp[b1,Function.comp_def],λk'=>?_⟩
    simp only[Zr]
    rw[ZcC,h.ids,St.sets_gones,b2,St.sets_append,St.sets_more hm]
   |own cs'=>
    simp only[Zr] at hb
    obtain⟨chg1,a1,a2⟩:=h.syn hb
    rw[a2] at hb
    obtain⟨chg,news,b1,b2⟩:=ih (by simp only[St.sets,Zx];exact hlen) hb
    refine⟨chg1++chg,news,by simp[a1,b1],λk'=>?_⟩
    simp only[Zr]
    rw[a2,b2,St.sets_append,St.sets_more λp hp=>?_]
    have:p.1∈m:=by rw[<- a1];exact List.mem_map.mpr ⟨p,hp,rfl⟩
    obtain⟨_,_,_,_,q⟩:=h.rows _ this
    exact Nat.lt_of_lt_of_le (ob_lt q) hlen
 |@sub ct ms id i off og fr rt xs c ys ts as mv h ht hc hx r ih=>
  intro β os st2 k r hlen hb
  cases os with
  |nil=>simp[Zr] at hb
  |cons o os=>
   cases o with
   |box _=>simp[Zr] at hb
   |lost=>simp[Zr] at hb
   |own cs'=>
    match cs',hb with
    |[],hb=>simp[Zr] at hb
    |[c'],hb=>
     simp only[Zr,h] at hb
     obtain⟨chg,news,b1,b2⟩:=ih (by simpa[St.setOb] using hlen) hb
     refine⟨(id,.row og false rt (xs.modify i λr=>r.set off c'))::chg,news,by simp[b1],λk'=>?_⟩
     simp only[Zr,h,St.sets_cons]
     rw[b2 k',St.setOb_more (Nat.lt_of_lt_of_le (ob_lt h) hlen)]
    |_::_::_,hb=>simp[Zr] at hb
 |@box pt ms id og cs cc m ts as mv h hds r ih=>
  intro β os st2 k r hlen hb
  cases os with
  |nil=>simp[Zr] at hb
  |cons o os=>
   cases o with
   |own _=>simp[Zr] at hb
   |lost=>simp[Zr] at hb
   |box cs'=>
    simp only[Zr,h] at hb
    split at hb
    case h_2=>cases hb
    rename_i l0 st1 hbo
    obtain⟨hg,hb⟩:=Zp hb
    obtain⟨n1,rfl⟩:=bornC_syn hbo
    rw[ZcC,hds.ids] at hb
    have hm:∀ p∈((id,Obj.box og pt l0)::m.map (·,Obj.gone)),p.1<(st2.more n1).ob.length:=λp hp=>by
     simp only[St.more,List.length_append]
     rcases List.mem_cons.mp hp with rfl|hp
     ·have:=ob_lt h;omega
     ·obtain⟨i,hi',rfl⟩:=List.mem_map.mp hp
      obtain⟨_,_,_,_,q⟩:=hds.rows i hi'
      have:=ob_lt q;omega
    have hst:((⟨st2.tm,st2.ob++n1⟩:St).setOb id (.box og pt l0)).gones m=(st2.more n1).sets ((id,.box og pt l0)::m.map (·,.gone)):=by
     rw[St.sets_cons,<- St.sets_gones]
     rfl
    rw[hst] at hb
    obtain⟨chg,news,b1,b2⟩:=ih (by simp only[St.sets,St.more,Zx,List.length_append];omega) hb
    refine⟨((id,.box og pt l0)::m.map (·,.gone))++chg,n1++news,by simp[b1,Function.comp_def],λk'=>?_⟩
    simp only[Zr,h,hbo,Zd,if_pos hg]
    rw[ZcC,hds.ids,hst,b2 k',St.sets_more hm,St.more_more,St.sets_append]
theorem ZaH.flat {st:St} {cts:List TypeId} {ts:List T} {cs:List C} {mv:List Nat} (h:ZaH st cts ts cs mv):(datTs ts).isSome=true->mv=[]:=by
 induction h with
 |nil=>exact λ_=>rfl
 |row h r ih=>intro q;simp[datTs] at q
 |none r ih=>intro q;simp[datTs] at q
 |dat r ih=>
  intro q
  simp only[datTs] at q
  split at q
  ·rename_i hd
   exact ih (by rw[hd];rfl)
  ·cases q
theorem Lent.quiet {P:Program} {s:Bool} {st:St} {ms:List (Mode×TypeId)} {ts:List T} {as:List A} {mv:List Nat} (h:Lent P s st ms ts as mv):
  (∀ id off og t cs,T.bp id off∈ts->st.ob[id]? = some (.box og t cs)->(datTs cs).isSome=true)->(∀ m∈ms,m.1=.own->∀ t∈ts,∀ i j k,t≠.sub i j k)->∀ id∈mv,(∃ off,T.bp id off∈ts)\/((T.row id∈ts\/∃ cs,T.agg cs∈ts/\id∈rowIds cs)/\∃ m∈ms,m.1=.own):=by
 induction h with
 |done=>simp
 |imm h r ih=>
  exact λhf ho id hid=>(ih (λi o og t cs q=>hf i o og t cs (by simp[q])) (λm hm e t ht=>ho m (by simp[hm]) e t (by simp[ht])) id hid).imp (λ⟨off,q⟩=>⟨off,by simp[q]⟩) λ⟨q,m,hm,e⟩=>⟨q.imp (λq=>by simp[q]) λ⟨cs,a,b⟩=>⟨cs,by simp[a],b⟩,m,by simp[hm],e⟩
 |immSub hs h hc hd hy r ih=>
  exact λhf ho id hid=>(ih (λi o og t cs q=>hf i o og t cs (by simp[q])) (λm hm e t ht=>ho m (by simp[hm]) e t (by simp[ht])) id hid).imp (λ⟨off,q⟩=>⟨off,by simp[q]⟩) λ⟨q,m,hm,e⟩=>⟨q.imp (λq=>by simp[q]) λ⟨cs,a,b⟩=>⟨cs,by simp[a],b⟩,m,by simp[hm],e⟩
 |nil r ih=>
  exact λhf ho id hid=>(ih (λi o og t cs q=>hf i o og t cs (by simp[q])) (λm hm e t ht=>ho m (by simp[hm]) e t (by simp[ht])) id hid).imp (λ⟨off,q⟩=>⟨off,by simp[q]⟩) λ⟨q,m,hm,e⟩=>⟨q.imp (λq=>by simp[q]) λ⟨cs,a,b⟩=>⟨cs,by simp[a],b⟩,m,by simp[hm],e⟩
 |@row ct ms id0 og fr xs ts as mv h r ih=>
  intro hf ho id hid
  rcases List.mem_cons.mp hid with rfl|hid
  ·exact .inr ⟨.inl (by simp),(.own,ct),by simp,rfl⟩
  ·exact(ih (λi o og t cs q=>hf i o og t cs (by simp[q])) (λm hm e t ht=>ho m (by simp[hm]) e t (by simp[ht])) id hid).imp (λ⟨off,q⟩=>⟨off,by simp[q]⟩) λ⟨q,m,hm,e⟩=>⟨q.imp (λq=>by simp[q]) λ⟨cs,a,b⟩=>⟨cs,by simp[a],b⟩,m,by simp[hm],e⟩
 |@agg ct ms cs c m ts as mv h r ih=>
  intro hf ho id hid
  rcases List.mem_append.mp hid with hid|hid
  ·exact .inr ⟨.inr ⟨cs,by simp,by rw[h.ids];exact hid⟩,(.own,ct),by simp,rfl⟩
  ·exact(ih (λi o og t cs q=>hf i o og t cs (by simp[q])) (λm hm e t ht=>ho m (by simp[hm]) e t (by simp[ht])) id hid).imp (λ⟨off,q⟩=>⟨off,by simp[q]⟩) λ⟨q,m,hm,e⟩=>⟨q.imp (λq=>by simp[q]) λ⟨cs,a,b⟩=>⟨cs,by simp[a],b⟩,m,by simp[hm],e⟩
 |@sub ct ms id0 i off og fr rt xs c ys ts as mv h ht hc hx r ih=>
  intro hf ho
  exact absurd rfl ((ho (.own,ct) (by simp) rfl (.sub id0 i off) (by simp)) id0 i off)
 |box h hd r ih=>
  intro hf ho id hid
  have:=hd.flat (hf _ 0 _ _ _ (by simp) h)
  subst this
  rcases List.mem_cons.mp hid with rfl|hid
  ·exact .inl ⟨0,by simp⟩
  ·exact(ih (λi o og t cs q=>hf i o og t cs (by simp[q])) (λm hm e t ht=>ho m (by simp[hm]) e t (by simp[ht])) id (by simpa using hid)).imp (λ⟨off,q⟩=>⟨off,by simp[q]⟩) λ⟨q,m,hm,e⟩=>⟨q.imp (λq=>by simp[q]) λ⟨cs,a,b⟩=>⟨cs,by simp[a],b⟩,m,by simp[hm],e⟩
theorem Lent.nowide {P:Program} {s:Bool} {st:St} {ms:List (Mode×TypeId)} {ts:List T} {as:List A} {mv:List Nat} (h:Lent P s st ms ts as mv) (hm:∀ m∈ms,m.1≠.own/\m.1≠.box):mv=[]:=by
 induction h with
 |done=>rfl
 |imm h r ih=>exact ih λm q=>hm m (by simp[q])
 |immSub hs h hc hd hy r ih=>exact ih λm q=>hm m (by simp[q])
 |nil r ih=>exact ih λm q=>hm m (by simp[q])
 |row h r ih=>exact absurd rfl (hm _ (List.mem_cons_self)).1
 |agg h r ih=>exact absurd rfl (hm _ (List.mem_cons_self)).1
 |sub h ht hc hx r ih=>exact absurd rfl (hm _ (List.mem_cons_self)).1
 |box h hd r ih=>exact absurd rfl (hm _ (List.mem_cons_self)).2
theorem Lent.fresh {P:Program} {s:Bool} {st:St} {ms:List (Mode×TypeId)} {ts:List T} {as:List A} {mv:List Nat} (h:Lent P s st ms ts as mv) (hf:lentFr st ms ts=true):∀ id∈mv,∃ og ct xs,st.ob[id]? = some (.row og true ct xs):=by
 induction h with
 |done=>simp
 |imm h r ih=>simp only[lentFr] at hf;exact ih hf
 |immSub hs h hc hd hy r ih=>simp only[lentFr] at hf;exact ih hf
 |nil r ih=>simp only[lentFr] at hf;exact ih hf
 |row h r ih=>
  simp only[lentFr,h,Bool.and_eq_true] at hf
  intro id hid
  rcases List.mem_cons.mp hid with rfl|hid
  ·rw[hf.1] at h
   exact⟨_,_,_,h⟩
  ·exact ih hf.2 id hid
 |agg h r ih=>simp[lentFr] at hf
 |sub h ht hc hx r ih=>simp[lentFr] at hf
 |box h hd r ih=>simp[lentFr] at hf
mutual
theorem scal_any {P:Program} {w:World} {I I':Nat->Prop}:∀ {c:C} {ct:TypeId} {v:Value} {F:List Nat},scalC c=true->OwC P w I c ct v F->OwC P w I' c ct v F
 |.d x,ct,v,F,h,r=>by
  simp only[OwC] at r⊢
  refine⟨r.1,?_⟩
  have r2:=r.2
  cases x<;>first|(simpa only[RdD] using r2)|(simp[scalC,Zag] at h)
 |.own xs,_,_,_,h,_=>by simp[scalC] at h
end
theorem scals_any {P:Program} {w:World} {I I':Nat->Prop} {c:Array Value}:∀ {xs:List C} {cts:List TypeId} {p:Nat} {F:List Nat},(∀ x∈xs,scalC x=true)->Za P w I c xs cts p F->Za P w I' c xs cts p F
 |[],_,_,_,_,r=>by simpa only[Za] using r
 |x::xs,_,_,_,h,r=>by
  simp only[Za] at r⊢
  obtain⟨ct,cts',v,F1,F2,e1,e2,e3,r1,r2⟩:=r
  exact⟨ct,cts',v,F1,F2,e1,e2,e3,scal_any (h x (by simp)) r1,scals_any (λy hy=>h y (by simp[hy])) r2⟩
theorem flatR_any {P:Program} {w:World} {I I':Nat->Prop} {c:Array Value} {cts:List TypeId} {sz:Nat}:∀ {xs:List (List C)} {p:Nat} {F:List Nat},(∀ r∈xs,∀ x∈r,scalC x=true)->Ze P w I c cts sz xs p F->Ze P w I' c cts sz xs p F
 |[],_,_,_,r=>by simpa only[Ze] using r
 |x::xs,_,_,h,r=>by
  simp only[Ze] at r⊢
  obtain⟨F1,F2,e,r1,r2⟩:=r
  exact⟨F1,F2,e,scals_any (h x (by simp)) r1,flatR_any (λy hy=>h y (by simp[hy])) r2⟩
theorem flatC_any {P:Program} {w:World} {I I':Nat->Prop} {xs:List (List C)} {ct:TypeId} {v:Value} {F:List Nat} (h:flatC xs=true) (r:OwC P w I (.own xs) ct v F):OwC P w I' (.own xs) ct v F:=by
 have h':∀ r∈xs,∀ x∈r,scalC x=true:=by
  unfold flatC at h
  simp only[List.all_eq_true] at h
  exact h
 simp only[OwC] at r⊢
 obtain⟨a,cap,e,r⟩:=r
 refine⟨a,cap,e,?_⟩
 rcases r with r|⟨b,o,c,e',F',q1,q0,q2,q3,q4,q5,q6,q7⟩
 ·exact .inl r
 ·exact .inr ⟨b,o,c,e',F',q1,q0,q2,q3,q4,q5,q6,flatR_any h' q7⟩
theorem Lent.subs {P:Program} {s:Bool} {st:St} {ms:List (Mode×TypeId)} {ts:List T} {as:List A} {mv:List Nat} (h:Lent P s st ms ts as mv):∀ id i off,.sub id i off∈ts->∃ og fr ct xs,st.ob[id]? = some (.row og fr ct xs):=by
 induction h with
 |done=>simp
 |imm h r ih=>
  intro id i off hm
  rcases List.mem_cons.mp hm with rfl|hm
  ·simp[argD,cellD] at h
  ·exact ih id i off hm
 |immSub hs h hc hd hy r ih=>
  intro id i off hm
  rcases List.mem_cons.mp hm with e|hm
  ·injection e with e;subst e;exact⟨_,_,_,_,h⟩
  ·exact ih id i off hm
 |nil r ih=>
  intro id i off hm
  rcases List.mem_cons.mp hm with e|hm
  ·cases e
  ·exact ih id i off hm
 |row h r ih=>
  intro id i off hm
  rcases List.mem_cons.mp hm with e|hm
  ·cases e
  ·exact ih id i off hm
 |agg h r ih=>
  intro id i off hm
  rcases List.mem_cons.mp hm with e|hm
  ·cases e
  ·exact ih id i off hm
 |sub h ht hc hx r ih=>
  intro id i off hm
  rcases List.mem_cons.mp hm with e|hm
  ·injection e with e;subst e;exact⟨_,_,_,_,h⟩
  ·exact ih id i off hm
 |box h hd r ih=>
  intro id i off hm
  rcases List.mem_cons.mp hm with e|hm
  ·cases e
  ·exact ih id i off hm
theorem flatMap_perm {α:Type} (A B:α->List Nat):∀ (l:List α),(l.flatMap λx=>A x++B x).Perm (l.flatMap A++l.flatMap B)
 |[]=>by simp
 |x::l=>by
  simp only[List.flatMap_cons]
  refine(List.Perm.append_left _ (flatMap_perm A B l)).trans ?_
  rw[List.append_assoc,List.append_assoc]
  refine List.Perm.append_left _ ?_
  rw[<- List.append_assoc,<- List.append_assoc]
  exact List.Perm.append_right _ List.perm_append_comm
theorem ZbM {α:Type} {A B:α->List Nat}:∀ {l:List α},(∀ x∈l,(A x).Perm (B x))->(l.flatMap A).Perm (l.flatMap B)
 |[],_=>by simp
 |x::l,h=>by
  simp only[List.flatMap_cons]
  exact(h x (by simp)).append (ZbM λy hy=>h y (by simp[hy]))
end Go.T
