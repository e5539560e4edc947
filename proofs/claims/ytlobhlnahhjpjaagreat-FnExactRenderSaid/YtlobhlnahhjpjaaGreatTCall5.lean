/- Calls: a call of a function with a contract. -/
import Derived.Test.YtlobhlnahhjpjaaGreatTCall4
set_option linter.unusedVariables false
set_option linter.unusedSimpArgs false
namespace Go.T
theorem nodup_shift (n m:Nat):((List.range m).map λj=>n+j).Nodup:=by
 unfold List.Nodup
 rw[List.pairwise_map]
 exact List.Pairwise.imp (λh e=>h (Nat.add_left_cancel e)) List.nodup_range
theorem setObs_at:∀ {l:List (Nat×Obj)} {ob:List Obj},(l.map (·.1)).Nodup->∀ p∈l,p.1<ob.length->(ZG ob l)[p.1]? = some p.2
 |[],_,_,p,hp,_=>by cases hp
 |q::l,ob,hn,p,hp,hl=>by
  simp only[List.map_cons,List.nodup_cons] at hn
  show(ZG (ob.set q.1 q.2) l)[p.1]? = some p.2
  rcases List.mem_cons.mp hp with rfl|hp
  ·rw[Zao _ _ _ (λr hr e=>hn.1 (List.mem_map.mpr ⟨r,hr,e⟩)),List.getElem?_set_self hl]
  ·exact setObs_at hn.2 p hp (by simpa using hl)
theorem setObs_inj {l1 l2:List (Nat×Obj)} {ob:List Obj} (h:l1.map (·.1)=l2.map (·.1)) (hn:(l1.map (·.1)).Nodup) (hl:∀ p∈l1,p.1<ob.length) (he:ZG ob l1=ZG ob l2):l1=l2:=by
 have hlen:l1.length=l2.length:=by simpa using congrArg List.length h
 refine List.ext_getElem hlen λi h1 h2=>?_
 have e1:l1[i].1=l2[i].1:=by
  have:=congrArg (·[i]?) h
  simpa[h1,h2] using this
 have a1:=setObs_at hn l1[i] (List.getElem_mem h1) (hl _ (List.getElem_mem h1))
 have a2:=setObs_at (h▸hn) l2[i] (List.getElem_mem h2) (by rw[<- e1];exact hl _ (List.getElem_mem h1))
 rw[<- e1,<- he,a1] at a2
 injection a2 with a2
 exact Prod.ext e1 a2
theorem run_call {P:Program} {a:Act} {w:World} {dst:Option Nat} {ty:TypeId} {pos:String} {af:Array Edge} {gd:Option (Nat×Bool)} {c:Call} {f:Operand} (hc:c.callee=.value f) {g:FuncId} {caps:Array Value}
  (hf:a.eval f=.func (.func g) #[] caps) (he:Zbo P g=true):(execOp a.eval ⟨dst,.call c,ty,pos,af,gd⟩).run P w=.ok (.enter g (c.args.map a.eval++caps)) w:=by
 show(Sem.bind (resolve a.eval c ty) _).run P w=_
 rw[Zm]
 have:(resolve a.eval c ty).run P w=.ok { target:=.fn (.func g) caps,args:=#[]++c.args.map a.eval } w:=by
  unfold resolve
  rw[hc]
  simp only[hf,Deferred.ofValue]
  rfl
 rw[this]
 simp only[Array.empty_append]
 unfold Zbo at he
 split at he
 ·rename_i fn hfn
  simp only[Bool.and_eq_true,bne_iff_ne,ne_eq] at he
  obtain⟨h1,h2⟩:=he
  show(callFunc g (c.args.map a.eval++caps)).run P w=_
  unfold callFunc
  show(Sem.bind program _).run P w=_
  rw[Zm]
  show(match P.funcs[g]? with|none=>_|some fn=>_:Sem Next).run P w=_
  rw[hfn]
  have h3:fn.body.isNone=false:=by simpa using h2
  simp only[beq_iff_eq,h1,if_false,h3,Bool.false_eq_true]
  rfl
 ·cases he
theorem Zb.frz {X:Fix} {w:World} {g g1:G} (he:Ext w w g g1 (λ_=>False)) {t:T} {v:Value} (hsub:∀ id i off,t=.sub id i off->g1.fp id=g.fp id/\∀ b∈g.fp id,b<w.heap.size) (r:Zb X w g t v):Zb X w g1 t v:=
 Zb.mono he (λid i off e b hb=>by
  obtain⟨h1,h2⟩:=hsub id i off e
  exact⟨by rw[h1];exact hb,h2 b hb,λh=>h⟩) r
theorem Zad.imp {X:Fix} {w:World} {g g1:G} {J J1:Nat->Prop}:∀ {ts:List T} {vs:List Value},(∀ t∈ts,∀ v,ArgT X w g J t v->ArgT X w g1 J1 t v)->Zad X w g J ts vs->Zad X w g1 J1 ts vs
 |[],_,_,h=>by simp only[Zad] at h⊢;exact h
 |t::ts,vs,hi,h=>by
  simp only[Zad] at h⊢
  obtain⟨v,vs',e,h1,h2⟩:=h
  exact⟨v,vs',e,hi t (by simp) v h1,Zad.imp (λt ht=>hi t (by simp[ht])) h2⟩
theorem resT_rel {P:Program} {X:Fix} {w:World} {g:G} {t:TypeId} {n:Nat} {ts:List T} {vs:List Value} (h:isTupB P t=(n !=1)) (hl:ts.length=n) (r:Zh X w g ts vs):Zb X w g (resT P t ts) (packV vs):=by
 have hv:=Zh.length r
 cases hb:isTupB P t with
 |true=>
  have e:resT P t ts=.tup ts:=by
   unfold isTupB at hb
   unfold resT
   split at hb
   ·rename_i hu;simp[hu]
   ·cases hb
  rw[e]
  simp only[Zb]
  refine⟨vs,?_,r⟩
  rw[hb] at h
  have hne:n≠1:=by simpa using h.symm
  unfold packV
  split
  ·simp at hv;omega
  ·rfl
 |false=>
  have e:resT P t ts=ts.headD .any:=by
   unfold isTupB at hb
   unfold resT
   split
   ·rename_i hu;simp[hu] at hb
   ·rfl
  rw[e]
  rw[hb] at h
  have h1:n=1:=by simpa using h.symm
  match ts,vs,r,hv,hl with
  |[t0],[v0],r,_,_=>
   simp only[Zh] at r
   obtain⟨u,us,e1,_,q,_⟩:=r
   injection e1 with e1 _
   subst e1
   simpa[packV] using q
  |[],_,_,_,q=>simp at q;omega
  |_::_::_,_,_,_,q=>simp at q;omega
  |[t0],[],_,q,_=>simp at q
  |[t0],_::_::_,_,q,_=>simp at q
theorem ZaH.look {st0:St} {cts:List TypeId} {ts:List T} {cs:List C} {mv:List Nat} (h:ZaH st0 cts ts cs mv):∀ id∈mv,id∈Zo ts:=by
 induction h with
 |nil=>simp
 |row h r ih=>
  intro id hid
  rcases List.mem_cons.mp hid with rfl|hid
  ·simp[Zo]
  ·have:=ih id hid
   simp only[Zo,List.flatMap_cons,List.mem_append] at this⊢
   exact .inr this
 |none r ih=>
  intro id hid
  have:=ih id hid
  simp only[Zo,List.flatMap_cons,List.mem_append] at this⊢
  exact .inr this
 |dat r ih=>
  intro id hid
  have:=ih id hid
  simp only[Zo,List.flatMap_cons,List.mem_append] at this⊢
  exact .inr this
theorem Lent.look {P:Program} {s:Bool} {st0:St} {ms:List (Mode×TypeId)} {ts:List T} {as:List A} {mv:List Nat} (h:Lent P s st0 ms ts as mv):∀ id∈mv,∃ u∈ts,id∈ZaB st0 u:=by
 induction h with
 |done=>simp
 |imm h r ih=>intro id hid;obtain⟨u,hu,q⟩:=ih id hid;exact⟨u,by simp[hu],q⟩
 |immSub hs h hc hd hy r ih=>intro id hid;obtain⟨u,hu,q⟩:=ih id hid;exact⟨u,by simp[hu],q⟩
 |nil r ih=>intro id hid;obtain⟨u,hu,q⟩:=ih id hid;exact⟨u,by simp[hu],q⟩
 |row h r ih=>
  intro id hid
  rcases List.mem_cons.mp hid with rfl|hid
  ·exact⟨.row id,by simp,by simp[ZaB,ZE]⟩
  ·obtain⟨u,hu,q⟩:=ih id hid;exact⟨u,by simp[hu],q⟩
 |@agg ct ms cs c m ts as mv h r ih=>
  intro id hid
  rcases List.mem_append.mp hid with hid|hid
  ·exact⟨.agg cs,by simp,List.mem_append_left _ (by rw[lookT_agg];exact h.look id hid)⟩
  ·obtain⟨u,hu,q⟩:=ih id hid;exact⟨u,by simp[hu],q⟩
 |@sub ct ms id0 i off og fr rt xs c ys ts as mv h ht hc hx r ih=>
  intro id hid
  rcases List.mem_cons.mp hid with rfl|hid
  ·exact⟨.sub id i off,by simp,by simp[ZaB,ZE]⟩
  ·obtain⟨u,hu,q⟩:=ih id hid;exact⟨u,by simp[hu],q⟩
 |@box pt ms id0 og cs cc m ts as mv h hd r ih=>
  intro id hid
  rcases List.mem_cons.mp hid with rfl|hid
  ·exact⟨.bp id 0,by simp,by simp[ZaB,ZE]⟩
  ·rcases List.mem_append.mp hid with hid|hid
   ·refine⟨.bp id0 0,by simp,List.mem_append_right _ ?_⟩
    simp only[h]
    rw[hd.ids]
    exact hid
   ·obtain⟨u,hu,q⟩:=ih id hid;exact⟨u,by simp[hu],q⟩
section
variable {P:Program} {E:Env} {st:St} {β:Type}
theorem callSound (hT:Zar P) (hE:EnvOK P E) {o:Oper} {r:β} {f:FuncId} {ts:List T} {t:TypeId} {k:T->St->Option β} (h:callDen P E st t f ts k=some r)
  (hlk:∀ u∈ts,∀ id∈ZaB st u,id∈Za9 o st)
  (hq:∀ st',quietOp E o st st'=true->∀ e,E f=some e->∀ u∈ts,ZbZ st st' (e.modes.any λm=>m.1==.own) u=true) (hst:∀ id off,T.bp id off∈ts->id∈storeAt o st)
  (hrun:∀ (e:Zj),E f=some e->∀ (X:Fix) (stL:St) (g:G) (a:Act) (w:World),Rel P X w g stL a->(∀ x∈o.op.operands.toList,Zb X w g (st.ev x) (a.eval x))->ZW g stL st (Za9 o st)->
   ∃ vs:List Value,(execOp a.eval o).run P w=.ok (.enter f vs.toArray) w/\Zad X w g (λb=>g.I b\/(e.wide=false/\∃ id,g.B id/\b∈g.fp id)) ts vs):
  ∃ e:Eff,k e.t ⟨st.tm.map (Zw e.chg),ZG st.ob e.chg++e.news⟩=some r/\(∀ p∈e.chg,p.1<st.ob.length)/\(quietOp E o st (st.app o.dst e)=true->∀ p∈e.chg,p.1∈turned o st (st.app o.dst e))/\∀ X w0,OpOk P X w0 o st e:=by
 unfold callDen at h
 split at h
 case h_1=>cases h
 rename_i e he
 simp only[] at h
 split at h
 case isFalse=>cases h
 rename_i hres
 obtain⟨hrt,htup,how⟩:=hres
 obtain⟨l,hl0,hfrz,hlL,hlB,hlw⟩:∃ l,(bif e.wide then Zbx st e.modes ts else st)=st.sets l/\Frz st l/\(∀ p∈l,p.1∈ts.flatMap (ZaB st))/\
   (∀ (id:Nat) (f:Bool) (ds:List D) (og:Option Nat) (t:TypeId) (cs:List T),(id,Obj.fbx f ds)∈l->st.ob[id]? = some (.box og t cs)->∀ j∈Zo cs,j∈ts.flatMap (ZaB st))/\(e.wide=false->l=[]):=by
  cases hw:e.wide with
  |true=>
   obtain⟨l,a1,a2,a3,a4⟩:=ZaW.args (L:=ts.flatMap (ZaB st)) e.modes ts st (ZaW.refl _ _) (λu hu i hi=>List.mem_flatMap.mpr ⟨u,hu,List.mem_append_left _ hi⟩)
   exact⟨l,a1,a2,a3,a4,by simp⟩
  |false=>exact⟨[],by rw[St.sets_nil];rfl,.nil _,by simp,by simp,λ_=>rfl⟩
 rw[hl0] at h how
 obtain⟨as,mv,h,hlent,hnd⟩:=ZbX h
 obtain⟨hent,hok,_⟩:=hE f e he
 obtain⟨rs,os,h,hcalls⟩:=hok _ as _ r h
 split at h
 case h_1=>cases h
 rename_i rT st2 hborn
 obtain⟨newsR,rfl⟩:=bornRes_syn hborn
 have hlen2:(st.sets l).ob.length<=(⟨((st.sets l).gones mv).tm,((st.sets l).gones mv).ob++newsR⟩:St).ob.length:=by
  simp only[St.gones,Zx,List.length_append]
  omega
 obtain⟨chg,newsB,hchg,hsyn⟩:=hlent.syn hlen2 h
 simp only[St.more,List.append_assoc] at hsyn
 obtain⟨news,hnews0⟩:∃ news,news=newsR++newsB:=⟨_,rfl⟩
 rw[<- hnews0] at hsyn
 rw[hsyn] at h
 have hlen:(st.sets l).ob.length=st.ob.length:=St.sets_length _ _
 have hmvlt:∀ id∈mv,id<st.ob.length:=by
  intro id hid
  obtain⟨_,q,_⟩:=hlent.rows id hid
  have:=(List.getElem?_eq_some_iff.mp q).1
  omega
 have hchlt:∀ p∈chg,p.1<st.ob.length:=λp hp=>hmvlt p.1 (by rw[<- hchg];exact List.mem_map.mpr ⟨p,hp,rfl⟩)
 have hllt:∀ p∈l,p.1<st.ob.length:=by
  intro p hp
  rcases hfrz.mem p hp with⟨_,_,_,_,q,_⟩|⟨_,_,_,_,_,q,_⟩<;>exact(List.getElem?_eq_some_iff.mp q).1
 have hmvw:mv≠[]->e.wide=true:=by
  intro hne
  cases hw:e.wide with
  |true=>rfl
  |false=>
   refine absurd (hlent.nowide λm hm=>?_) hne
   simp only[Zj.wide,Bool.or_eq_false_iff,List.any_eq_false] at hw
   have:=hw.2 m hm
   refine⟨λhmo=>?_,λhmo=>?_⟩<;>simp[hmo] at this
 have hgl:(((st.sets l).gones mv).ob).length=st.ob.length:=by simp only[St.gones,Zx,hlen]
 refine⟨⟨resT P t rT,l++(mv.map (·,.gone)++chg),news⟩,?_,?_,?_,?_⟩
 ·have:(⟨st.tm.map (Zw (l++(mv.map (·,Obj.gone)++chg))),ZG st.ob (l++(mv.map (·,.gone)++chg))++news⟩:St)=(St.mk ((st.sets l).gones mv).tm (((st.sets l).gones mv).ob++news)).sets chg:=by
   simp only[St.sets,St.gones]
   rw[ZbO _ _ _ (by simpa[Zx] using hchlt),Zbg,Zbg]
   congr 1
   rw[List.map_map,List.map_map]
   congr 1
   funext u
   simp only[Function.comp,killAll_append]
  show k (resT P t rT) _=some r
  rw[this]
  exact h
 ·intro p hp
  rcases List.mem_append.mp hp with q|q
  ·exact hllt p q
  ·rcases List.mem_append.mp q with q|q
   ·obtain⟨id,hid,rfl⟩:=List.mem_map.mp q
    exact hmvlt id hid
   ·exact hchlt p q
 ·intro hqo p hp
  by_cases hpm:p.1∈mv
  ·have hqa:=hq _ hqo e he
   rcases hlent.quiet (λid off og t0 cs hm ho=>by
    have q:=(hfrz.under ho (by simp) (by simp)).2
    have:=hqa _ hm
    simpa only[ZbZ,flatBox,q] using this) (λm hm hmo u hu=>by
    have hown:(e.modes.any λm=>m.1==.own)=true:=List.any_eq_true.mpr ⟨m,hm,by simp[hmo]⟩
    have:=hqa u hu
    rw[hown] at this
    intro i j k hc
    subst hc
    simp[ZbZ] at this) p.1 hpm with⟨off,hb⟩|⟨hrow,m,hm,hmo⟩
   ·exact List.mem_append_left _ (hst p.1 off hb)
   ·have hown:(e.modes.any λm=>m.1==.own)=true:=List.any_eq_true.mpr ⟨m,hm,by simp[hmo]⟩
    have this:goneIn (st.app o.dst ⟨resT P t rT,l++(mv.map (·,.gone)++chg),news⟩) p.1=true:=by
     rcases hrow with hrow|⟨cs,hrow,hcs⟩
     ·have:=hqa _ hrow
      rw[hown] at this
      simpa only[ZbZ,Bool.not_true,Bool.false_or] using this
     ·have:=hqa _ hrow
      rw[hown] at this
      simp only[ZbZ,Bool.not_true,Bool.false_or,List.all_eq_true] at this
      exact this _ hcs
    unfold goneIn at this
    split at this
    case h_2=>cases this
    rename_i hgone
    obtain⟨o0,ho0,hne,hk⟩:=hlent.rows p.1 hpm
    refine List.mem_append_right _ ?_
    rcases hk with⟨og,fr,ct,xs,rfl⟩|⟨og,t0,cs,rfl⟩
    ·exact Zby (hfrz.under ho0 (by simp) (by simp)).2 hgone (by simp[tagOf])
    ·exact Zby (hfrz.under ho0 (by simp) (by simp)).2 hgone (by simp[tagOf])
  ·have hp':p∈l:=by
    rcases List.mem_append.mp hp with q|q
    ·exact q
    ·rcases List.mem_append.mp q with q|q
     ·obtain⟨id,hid,rfl⟩:=List.mem_map.mp q
      exact absurd hid hpm
     ·exact absurd (by rw[<- hchg];exact List.mem_map.mpr ⟨p,q,rfl⟩) hpm
   refine List.mem_append_right _ ?_
   have hfin:=hfrz.final p hp'
   rw[St.sets_ob] at hfin
   have hfin':(st.app o.dst ⟨resT P t rT,l++(mv.map (·,.gone)++chg),news⟩).ob[p.1]? = some p.2:=by
    simp only[St.app,put_ob]
    rw[List.getElem?_append_left (by rw[Zx];exact hllt p hp'),Zbg,Zao _ _ _ (λq hq e=>hpm ?_)]
    ·exact hfin
    ·rw[<- e]
     rcases List.mem_append.mp hq with z|z
     ·obtain⟨id,hid,rfl⟩:=List.mem_map.mp z
      exact hid
     ·rw[<- hchg];exact List.mem_map.mpr ⟨q,z,rfl⟩
   rcases hfrz.mem p hp' with⟨_,_,_,_,q,e⟩|⟨_,_,_,_,_,q,e⟩
   ·exact Zby q hfin' (by rw[e];simp[tagOf])
   ·exact Zby q hfin' (by rw[e];simp[tagOf])
 ·intro X w0 stL g a w hr hs ha hsee hn K Q hK
  have hR:=λx hx=>OpOk.args hr (ha x hx)
  obtain⟨vs,hexec,hargs⟩:=hrun e he X stL g a w hr hR hsee
  have hS0:ZW g stL st (ts.flatMap (ZaB st)):=hsee.sub λid hid=>by
   obtain⟨u,hu,hi⟩:=List.mem_flatMap.mp hid
   exact hlk u hu id hi
  -- the freezing
  obtain⟨g1,hr1,hS1,hext,hB1,hI1,hfp1,hg1⟩:∃ g1,Rel P X w g1 (stL.sets l) a/\ZW g1 (stL.sets l) (st.sets l) (ts.flatMap (ZaB st))/\Ext w w g g1 (λ_=>False)/\(∀ id,g1.B id↔g.B id)/\
    (∀ b,g1.I b->g.I b\/∃ id,g.B id/\b∈g.fp id)/\(∀ id,id∉l.map (·.1)->g1.fp id=g.fp id)/\(e.wide=false->g1=g):=by
   cases hw:e.wide with
   |true=>
    obtain⟨g1,a1,a2,a3,a4,a5,a6⟩:=Frz.sound hT hs hfrz hr hS0 hlL hlB
    exact⟨g1,a1,a2,a3,a4,a5,a6,by simp⟩
   |false=>
    have:=hlw hw
    subst this
    rw[St.sets_nil,St.sets_nil]
    exact⟨g,hr,hS0,⟨λ_ h=>h,λ_ _ _=>rfl,λ_ _ h=>h,hr.sep.imm,λ_ h=>h,λ_ _=>rfl,λ_ _=>rfl⟩,λ_=>Iff.rfl,λ_ h=>.inl h,λ_ _=>rfl,λ_=>rfl⟩
  let J:Nat->Prop:=λb=>g1.I b\/(e.wide=false/\∃ id,g1.B id/\b∈g1.fp id)
  have hJ:JOk g1 e.wide J:=⟨λb hb=>.inl hb,λhw id hB b hb=>.inr ⟨hw,id,hB,hb⟩⟩
  have hJlt:∀ b,J b->b<w.heap.size:=by
   rintro b (hb|⟨_,id,hB,hb⟩)
   ·exact hr1.sep.imm b hb
   ·exact(hr1.sep.mine id hB b hb).2.1
  have hargs1:Zad X w g1 J ts vs:=by
   refine Zad.imp (λu hu v hv=>?_) hargs
   rcases hv with hv|⟨fr,cs,rfl,b,off,c,e',f',rfl,hb,q2,q3⟩
   ·refine .inl (Zb.frz hext (λid i off eu=>?_) hv)
    subst eu
    obtain⟨_,_,_,_,q⟩:=hlent.subs id i off hu
    have hB:g.B id:=by simp only[Zb] at hv;exact hv.1
    exact⟨hfp1 id (hfrz.under q (by simp) (by simp)).1,λb hb=>(hr.sep.mine id hB b hb).2.1⟩
   ·have himp:∀ b,(g.I b\/(e.wide=false/\∃ id,g.B id/\b∈g.fp id))->J b:=by
     rintro b (hb|⟨hw,id,hB,hb⟩)
     ·exact .inl (hext.imp b hb)
     ·have:=hg1 hw
      subst this
      exact .inr ⟨hw,id,hB,hb⟩
    exact .inr ⟨fr,cs,rfl,b,off,c,e',f',rfl,himp b hb,q2,Zi.mono ⟨himp,λ_ _=>rfl⟩ q3⟩
  have hsubA:∀ u∈ts,∀ id∈ZaB (st.sets l) u,id∈ts.flatMap (ZaB st):=λu hu id hid=>by
   rcases Classical.em (l=[]) with q|q
   ·subst q
    rw[St.sets_nil] at hid
    exact List.mem_flatMap.mpr ⟨u,hu,hid⟩
   ·have hfr:ZaW st (ts.flatMap (ZaB st)) (st.sets l):=⟨l,rfl,hfrz,hlL,hlB⟩
    have:∀ i∈ZE (st.sets l) u,i∈ZE st u:=by
     intro i hi
     cases u<;>try exact hi
     rw[Zcv] at hi⊢
     obtain⟨u',hu',hi⟩:=List.mem_flatMap.mp hi
     exact List.mem_flatMap.mpr ⟨u',hu',lookCap_under hfr u' i hi⟩
    refine List.mem_flatMap.mpr ⟨u,hu,?_⟩
    rcases List.mem_append.mp hid with hid|hid
    ·exact List.mem_append_left _ (this id hid)
    ·refine List.mem_append_right _ ?_
     split at hid
     ·rename_i i off
      split at hid
      ·rename_i og bt cs ho
       simp only[hfr.box ho]
       exact hid
      ·cases hid
     ·cases hid
  let Q:Nat->Prop:=λb=>ZV (st.sets l) e.modes ts=true->X.new b
  obtain⟨Fs,f1,f2,f3,f4⟩:=hlent.sound (fo:=!e.al&&e.ow) (fa:=lentFr (st.sets l) e.modes ts) (Q:=Q) hT hr1 hJ (λb hb=>hb) (λu hu=>hS1.sub λid hid=>hsubA u hu id hid) hargs1
  have hFsB:∀ x∈Fs,g1.B x.id:=λx hx=>(f3 x hx).1
  have hFsmv:∀ x∈Fs,x.id∈mv:=λx hx=>by rw[<- f1];exact List.mem_map.mpr ⟨x,hx,rfl⟩
  have hmvB:∀ id∈mv,g1.B id:=by
   intro id hid
   rw[<- f1] at hid
   obtain⟨x,hx,rfl⟩:=List.mem_map.mp hid
   exact hFsB x hx
  have hFnd:((Fs.flatMap (·.kept))++(Fs.flatMap (·.f))).Nodup:=by
   have h1:(Fs.flatMap λx=>g1.fp x.id).Nodup:=by
    have:=Zcw hr1.sep (mv:=mv) hnd hmvB
    rw[<- f1,List.flatMap_map] at this
    exact this
   exact((ZbM (λx hx=>(f3 x hx).2)).trans (flatMap_perm (λx:Ln=>x.kept) (λx=>x.f) Fs)).nodup_iff.mp h1
  obtain⟨hnk,hnf,hdis⟩:=List.nodup_append.mp hFnd
  have hFfp:∀ b∈Fs.flatMap (·.f),∃ id∈mv,g1.B id/\b∈g1.fp id:=by
   intro b hb
   obtain⟨x,hx,hb⟩:=List.mem_flatMap.mp hb
   exact⟨x.id,hFsmv x hx,hFsB x hx,(f3 x hx).2.mem_iff.mpr (by simp[hb])⟩
  have hKfp:∀ x∈Fs,∀ b∈x.kept,b∈g1.fp x.id:=λx hx b hb=>(f3 x hx).2.mem_iff.mpr (by simp[hb])
  have hwF:∀ b∈Fs.flatMap (·.f),e.wide=true:=by
   intro b hb
   obtain⟨id,hid,_⟩:=hFfp b hb
   exact hmvw (λe=>by rw[e] at hid;cases hid)
  have hJF:∀ b∈Fs.flatMap (·.f),¬ J b/\b<w.heap.size:=by
   intro b hb
   obtain⟨id,_,hB,hb'⟩:=hFfp b hb
   obtain⟨m1,m2,_⟩:=hr1.sep.mine id hB b hb'
   refine⟨?_,m2⟩
   rintro(q|⟨q,_⟩)
   ·exact m1 q
   ·rw[hwF b hb] at q;cases q
  have hcall:=hcalls w J Q vs (Fs.flatMap (·.f)) f2 hnf hJF hJlt
  unfold Oper.wp
  rw[hexec,Oper.upon_enter]
  refine Calls.mono hcall ?_
  rintro ex w' ⟨v,vs',I',Fr,Fo,rfl,rfl,hsz,hos,htp,hou,hkeep,hII,hI',hnd',hFF,houts,hresR,hFr⟩
  simp only[]
  -- what is known behind the call
  have hIh:∀ b,g1.I b->w'.heap[b]? = w.heap[b]?:=λb hb=>hkeep b (hr1.sep.imm b hb) (λq=>(hJF b q).1 (.inl hb))
  let Qo:Nat->Prop:=λb=>e.al=false->e.ow=true->w.heap.size<=b\/Q b
  let OP:Nat->Prop:=λb=>I' b/\Qo b
  have hOP2:ZV (st.sets l) e.modes ts=false->∀ b,g1.I b->OP b:=λhla b hb=>⟨hII b (.inl hb),λ_ how'=>.inr λq=>by rw[hla] at q;cases q⟩
  have hkk:∀ x∈Fs,∀ b∈x.kept,w'.heap[b]? = w.heap[b]?:=by
   intro x hx b hb
   refine hkeep b (hr1.sep.mine _ (hFsB x hx) b (hKfp x hx b hb)).2.1 λq=>?_
   exact hdis b (List.mem_flatMap.mpr ⟨x,hx,hb⟩) b q rfl
  obtain⟨back,nsB,b1,b2,bn,b3,be,lF,b4p,b4s⟩:=f4 w' I' Qo os Fo houts hIh hOP2 hkk _ some _ hlen2 (hsyn some)
  have hbid:back.map (·.id)=mv:=by
   have:=congrArg (List.map Prod.fst) b1
   simp only[List.map_map] at this
   rw[<- f1]
   exact this
  have hbcn:ZbG back=chg/\newsR++nsB.map (·.ob)=news:=by
   have e1:(ZbG back).map (·.1)=mv:=by simp only[ZbG,List.map_map];exact hbid
   have hlt:∀ p∈ZbG back,p.1<((st.sets l).gones mv).ob.length:=λp hp=>by
    have:p.1∈mv:=by rw[<- e1];exact List.mem_map.mpr ⟨p,hp,rfl⟩
    rw[hgl]
    exact hmvlt _ this
   injection b3 with b3
   have b3:=congrArg St.ob b3
   simp only[St.more,St.sets_ob,List.append_assoc] at b3
   rw[ZbO _ _ _ hlt,ZbO _ _ _ (by rw[hgl];exact hchlt)] at b3
   obtain⟨z1,z2⟩:=List.append_inj b3 (by rw[Zx,Zx])
   exact⟨setObs_inj (e1.trans hchg.symm) (e1▸hnd) hlt z1,z2⟩
  obtain⟨hbc,hbn⟩:=hbcn
  obtain⟨nsR,n1,n2,n3,n4⟩:=ZcW (X:=X) hborn hresR
  have hnewsR:newsR=nsR.map (·.ob):=by
   have:=congrArg St.ob n1
   simpa using this
  obtain⟨ns,hns⟩:∃ ns,ns=nsR++nsB:=⟨_,rfl⟩
  have hnews:news=ns.map (·.ob):=by rw[<- hbn,hnewsR,hns,List.map_append]
  subst hnews
  obtain⟨hndr0,hndo0,hdro0⟩:=List.nodup_append.mp hnd'
  have hBN:(back.flatMap (·.fo)++nsB.flatMap (·.fp)).Nodup:=b4p.nodup_iff.mp (b4s.nodup hndo0)
  have hBNs:∀ b∈back.flatMap (·.fo)++nsB.flatMap (·.fp),b∈Fo:=λb hb=>b4s.subset (b4p.mem_iff.mpr hb)
  obtain⟨hndo,hndn,hdon⟩:=List.nodup_append.mp hBN
  obtain⟨Fr',hFr'⟩:∃ Fr',Fr'=Fr++nsB.flatMap (·.fp):=⟨_,rfl⟩
  have n2':Fr'=ns.flatMap (·.fp):=by rw[hFr',hns,List.flatMap_append,n2]
  have hFrn:∀ b∈Fr',¬ I' b/\b<w'.heap.size/\(b<w.heap.size->b∈Fs.flatMap (·.f)):=λb hb=>by
   rw[hFr'] at hb
   rcases List.mem_append.mp hb with q|q
   ·exact hFF b (List.mem_append_left _ q)
   ·exact hFF b (List.mem_append_right _ (hBNs b (List.mem_append_right _ q)))
  have hndr:Fr'.Nodup:=by
   rw[hFr']
   exact List.nodup_append.mpr ⟨hndr0,hndn,λx hx y hy e=>hdro0 x hx y (hBNs y (List.mem_append_right _ hy)) e⟩
  have hdro:∀ x∈Fr',∀ y∈back.flatMap (·.fo),x≠y:=λx hx y hy e=>by
   rw[hFr'] at hx
   rcases List.mem_append.mp hx with q|q
   ·exact hdro0 x q y (hBNs y (List.mem_append_left _ hy)) e
   ·exact hdon y hy x q e.symm
  simp only[eff_split _ _ _ _ l] at hK
  -- the table
  let Jn:Nat->Prop:=λb=>I' b/\(w.heap.size<=b\/b∈Fs.flatMap (·.f))
  let tab:List (Nat×List Nat):=back.map (λy=>(y.id,y.fp))++((List.range ns.length).map λj=>(st.ob.length+j,(ns.map (·.fp)).getD j []))
  let g2:G:=g1.tab Jn st.ob.length ns.length tab (λid=>(ns.map (·.hv)).getD (id-st.ob.length) undef) (λid=>(ns.map (·.sz)).getD (id-st.ob.length) 0)
  have htabm:tab.map (·.1)=mv++(List.range ns.length).map λj=>st.ob.length+j:=by
   simp only[tab,List.map_append,List.map_map]
   rw[<- hbid]
   rfl
  have htabn:(((List.range ns.length).map λj=>(st.ob.length+j,(ns.map (·.fp)).getD j [])).flatMap (·.2))=Fr':=by
   rw[n2',List.flatMap_map]
   have gen:∀ (ns:List Nw),((List.range ns.length).flatMap λj=>(ns.map (·.fp)).getD j [])=ns.flatMap (·.fp):=by
    intro ns
    induction ns with
    |nil=>rfl
    |cons x ns ih=>
     rw[List.length_cons,List.range_succ_eq_map,List.flatMap_cons,List.flatMap_map]
     simp only[List.map_cons,List.getD_cons_zero,List.getD_cons_succ,List.flatMap_cons]
     rw[ih]
   exact gen ns
  have hbp:(back.flatMap (·.fp)).Perm (Fs.flatMap (·.kept)++back.flatMap (·.fo)):=by
   have h1:=(ZbM (λy hy=>(b2 y hy).1)).trans (flatMap_perm (λy:Bk=>y.kept) (λy=>y.fo) back)
   have h2:back.flatMap (·.kept)=Fs.flatMap (·.kept):=by
    have:=congrArg (List.flatMap Prod.snd) b1
    rw[List.flatMap_map,List.flatMap_map] at this
    exact this
   rwa[h2] at h1
  have htabf:tab.flatMap (·.2)=back.flatMap (·.fp)++Fr':=by
   simp only[tab,List.flatMap_append,htabn]
   rw[List.flatMap_map]
  have hkI:∀ b∈Fs.flatMap (·.kept),¬ I' b/\b<w.heap.size/\b∉Fs.flatMap (·.f):=by
   intro b hb
   have hnotF:b∉Fs.flatMap (·.f):=λq=>hdis b hb b q rfl
   obtain⟨x,hx,hb'⟩:=List.mem_flatMap.mp hb
   obtain⟨m1,m2,_⟩:=hr1.sep.mine _ (hFsB x hx) b (hKfp x hx b hb')
   refine⟨λq=>?_,m2,hnotF⟩
   rcases(hI' b q).2 with q|q|q
   ·rcases q with q|⟨q,_⟩
    ·exact m1 q
    ·rw[hmvw (λe=>by have:=hFsmv x hx;rw[e] at this;cases this)] at q;cases q
   ·omega
   ·exact hnotF q
  have hFon:∀ b∈back.flatMap (·.fo),¬ I' b/\b<w'.heap.size/\(b<w.heap.size->b∈Fs.flatMap (·.f)):=λb hb=>hFF b (List.mem_append_right _ (hBNs b (List.mem_append_left _ hb)))
  have hback:∀ b∈back.flatMap (·.fp),b∈Fs.flatMap (·.kept)\/b∈back.flatMap (·.fo):=λb hb=>List.mem_append.mp (hbp.mem_iff.mp hb)
  have htabnd:(tab.flatMap (·.2)).Nodup:=by
   rw[htabf]
   refine List.nodup_append.mpr ⟨hbp.nodup_iff.mpr (List.nodup_append.mpr ⟨hnk,hndo,λx hx y hy e=>?_⟩),hndr,λx hx y hy e=>?_⟩
   ·subst e
    obtain⟨_,q2,q3⟩:=hkI x hx
    exact q3 ((hFon x hy).2.2 q2)
   ·subst e
    rcases hback x hx with q|q
    ·obtain⟨_,q2,q3⟩:=hkI x q
     exact q3 ((hFrn x hy).2.2 q2)
    ·exact hdro x hy x q rfl
  have hUiff:∀ id,Eff.U ⟨resT P t rT,mv.map (·,.gone)++chg,ns.map (·.ob)⟩ st.ob.length id↔id∈tab.map (·.1):=by
   intro id
   rw[htabm]
   simp only[Eff.U,List.mem_append,List.mem_map,List.mem_range,List.length_map]
   constructor
   ·rintro(⟨p,(⟨q,hq,rfl⟩|hp),rfl⟩|⟨h1,h2⟩)
    ·exact .inl hq
    ·exact .inl (by rw[<- hchg];exact List.mem_map.mpr ⟨p,hp,rfl⟩)
    ·exact .inr ⟨id-st.ob.length,by omega,by omega⟩
   ·rintro(h1|⟨j,h1,rfl⟩)
    ·exact .inl ⟨(id,.gone),.inl ⟨id,h1,rfl⟩,rfl⟩
    ·exact .inr ⟨by omega,by omega⟩
  have hn':∀ j,j<ns.length->(stL.sets l).ob[st.ob.length+j]? = some .gone/\¬ g1.B (st.ob.length+j):=by
   intro j hj
   obtain⟨q1,q2⟩:=hn j (by simpa using hj)
   refine⟨?_,λq=>q2 ((hB1 _).mp q)⟩
   rw[St.sets_ob,Zao _ _ _ (λp hp e=>by have:=hllt p hp;omega)]
   exact q1
  have hpoolF:∀ b∈Fs.flatMap (·.f),Pool g1 (Eff.U ⟨resT P t rT,mv.map (·,.gone)++chg,ns.map (·.ob)⟩ st.ob.length) b:=by
   intro b hb
   obtain⟨id,hid,hB,hb⟩:=hFfp b hb
   exact⟨id,(hUiff id).mpr (by rw[htabm];simp[hid]),hB,hb⟩
  have turn:Turn X w w' g1 g2 (Eff.U ⟨resT P t rT,mv.map (·,.gone)++chg,ns.map (·.ob)⟩ st.ob.length):=by
   refine Turn.tab hr1.sep hUiff (λid q1 q2=>⟨(hUiff id).mpr ?_,?_⟩) hsz hos htp hou (λb hb hp=>hkeep b hb λq=>hp (hpoolF b q)) ?_ htabnd ?_ ?_
   ·rw[htabm]
    exact List.mem_append_right _ (List.mem_map.mpr ⟨id-st.ob.length,by rw[List.mem_range];omega,by omega⟩)
   ·have:=(hn' (id-st.ob.length) (by omega)).2
    rwa[show st.ob.length+(id-st.ob.length)=id from by omega] at this
   ·rw[htabm]
    refine List.nodup_append.mpr ⟨hnd,?_,λx hx y hy e=>?_⟩
    ·exact nodup_shift _ _
    ·subst e
     obtain⟨j,_,rfl⟩:=List.mem_map.mp hy
     have:=hmvlt _ hx
     omega
   ·intro b hb
    rw[htabf] at hb
    rcases List.mem_append.mp hb with q|q
    ·rcases hback b q with q|q
     ·obtain⟨q1,q2,q3⟩:=hkI b q
      refine⟨λz=>q1 z.1,Nat.lt_of_lt_of_le q2 hsz,λ_=>?_⟩
      obtain⟨x,hx,hb'⟩:=List.mem_flatMap.mp q
      exact⟨x.id,(hUiff _).mpr (by rw[htabm];simp[hFsmv x hx]),hFsB x hx,hKfp x hx b hb'⟩
     ·obtain⟨q1,q2,q3⟩:=hFon b q
      exact⟨λz=>q1 z.1,q2,λz=>hpoolF b (q3 z)⟩
    ·obtain⟨q1,q2,q3⟩:=hFrn b q
     exact⟨λz=>q1 z.1,q2,λz=>hpoolF b (q3 z)⟩
   ·rintro b ⟨q1,q2⟩
    refine⟨(hI' b q1).1,?_⟩
    rcases q2 with q2|q2
    ·exact .inl q2
    ·exact .inr (hpoolF b q2)
  have hI2w:e.wide=true->∀ b,I' b->g2.I b:=by
   intro hw b hb
   rcases(hI' b hb).2 with q|q|q
   ·rcases q with q|⟨q,_⟩
    ·exact .inl q
    ·rw[hw] at q;cases q
   ·exact .inr ⟨hb,.inl q⟩
   ·exact .inr ⟨hb,.inr q⟩
  have hlookB:∀ y∈back,g2.fp y.id=y.fp:=by
   intro y hy
   have hkey:(tab.map (·.1)).Nodup:=by
    rw[htabm]
    refine List.nodup_append.mpr ⟨hnd,nodup_shift _ _,λx hx z hz e=>?_⟩
    subst e
    obtain⟨j,_,rfl⟩:=List.mem_map.mp hz
    have:=hmvlt _ hx
    omega
   have hm:(y.id,y.fp)∈tab:=List.mem_append_left _ (List.mem_map.mpr ⟨y,hy,rfl⟩)
   have gen:∀ (tb:List (Nat×List Nat)),(tb.map (·.1)).Nodup->∀ p∈tb,tb.lookup p.1=some p.2:=by
    intro tb
    induction tb with
    |nil=>intro _ p hp;cases hp
    |cons q tb ih=>
     intro hn p hp
     obtain⟨q1,q2⟩:=q
     simp only[List.map_cons,List.nodup_cons] at hn
     rw[List.lookup_cons]
     rcases List.mem_cons.mp hp with rfl|hp
     ·simp
     ·have hne:(p.1==q1)=false:=by
       simp only[beq_eq_false_iff_ne,ne_eq]
       intro e
       exact hn.1 (e▸List.mem_map.mpr ⟨p,hp,rfl⟩)
      rw[hne]
      exact ih hn.2 p hp
   show((tab.lookup y.id).getD (g1.fp y.id))=y.fp
   rw[gen tab hkey _ hm]
   rfl
  have hlookN:∀ (j:Nat) (x:Nw),ns[j]? = some x->g2.fp (st.ob.length+j)=x.fp/\g2.hv (st.ob.length+j)=x.hv/\g2.sz (st.ob.length+j)=x.sz/\g2.B (st.ob.length+j):=by
   intro j x hj
   have hjl:j<ns.length:=(List.getElem?_eq_some_iff.mp hj).1
   have hrange:st.ob.length<=st.ob.length+j/\st.ob.length+j<st.ob.length+ns.length:=by omega
   refine⟨?_,?_,?_,.inr hrange⟩
   ·have hl1:∀ (bk:List Bk),(∀ y∈bk,y.id<st.ob.length)->∀ (tl:List (Nat×List Nat)),(bk.map (λy=>(y.id,y.fp))++tl).lookup (st.ob.length+j)=tl.lookup (st.ob.length+j):=by
     intro bk
     induction bk with
     |nil=>intro _ tl;rfl
     |cons y bk ih=>
      intro hy tl
      simp only[List.map_cons,List.cons_append,List.lookup_cons]
      have:(st.ob.length+j==y.id)=false:=by
       have:=hy y (by simp)
       simp only[beq_eq_false_iff_ne,ne_eq]
       omega
      rw[this]
      exact ih (λz hz=>hy z (by simp[hz])) tl
    have hl2:∀ (js:List Nat) (F:Nat->List Nat),j∈js->(js.map λi=>(st.ob.length+i,F i)).lookup (st.ob.length+j)=some (F j):=by
     intro js F
     induction js with
     |nil=>intro h;cases h
     |cons i js ih=>
      intro h
      simp only[List.map_cons,List.lookup_cons]
      by_cases e:i=j
      ·subst e;simp
      ·have:(st.ob.length+j==st.ob.length+i)=false:=by
        simp only[beq_eq_false_iff_ne,ne_eq]
        omega
       rw[this]
       exact ih ((List.mem_cons.mp h).resolve_left (λq=>e q.symm))
    show((tab.lookup (st.ob.length+j)).getD _)=x.fp
    simp only[tab]
    rw[hl1 back (λy hy=>hmvlt _ (by rw[<- hbid];exact List.mem_map.mpr ⟨y,hy,rfl⟩)),hl2 _ (λi=>(ns.map (·.fp)).getD i []) (List.mem_range.mpr hjl)]
    simp[List.getD,hj]
   ·show(if _ then _ else _)=_
    rw[if_pos hrange]
    simp[List.getD,hj]
   ·show(if _ then _ else _)=_
    rw[if_pos hrange]
    simp[List.getD,hj]
  have hIal:∀ b,(I' b/\(e.al=false->w.heap.size<=b\/(e.ow=true/\Q b)))->g2.IM X (!e.al) b:=by
   rintro b ⟨q1,q2⟩
   refine⟨?_,λq=>?_⟩
   ·cases hal:e.al with
    |true=>exact hI2w (by simp[Zj.wide,hal]) b q1
    |false=>
     rcases q2 hal with z|⟨z,_⟩
     ·exact .inr ⟨q1,.inl z⟩
     ·exact hI2w (by simp[Zj.wide,z]) b q1
   ·rcases q2 (by simpa using q) with z|⟨z1,z2⟩
    ·exact .inl (Nat.le_trans hs.base (Nat.le_trans hs.size z))
    ·exact z2 (how z1)
  have hnsR:∀ (j:Nat) (x:Nw),nsR[j]? = some x->ns[j]? = some x:=λj x hj=>by
   rw[hns,List.getElem?_append_left (List.getElem?_eq_some_iff.mp hj).1]
   exact hj
  have hnsB:∀ (j:Nat) (x:Nw),nsB[j]? = some x->ns[nsR.length+j]? = some x:=λj x hj=>by
   rw[hns,List.getElem?_append_right (by omega)]
   simpa using hj
  have hnat:NwAt X (λb=>I' b/\(e.al=false->w.heap.size<=b\/(e.ow=true/\Q b))) (!e.al) g2 (((st.sets l).gones mv).ob).length nsR:=by
   refine⟨λj x hj=>?_,hIal⟩
   rw[hgl]
   exact⟨(hlookN j x (hnsR j x hj)).2.2.2,(hlookN j x (hnsR j x hj)).2.1⟩
  have hQo:(!e.al&&e.ow)=true->∀ b,Qo b->X.new b:=λhfo b hb=>by
   simp only[Bool.and_eq_true,Bool.not_eq_true'] at hfo
   rcases hb hfo.1 hfo.2 with z|z
   ·exact .inl (Nat.le_trans hs.base (Nat.le_trans hs.size z))
   ·exact z (how hfo.2)
  have hOPim:e.wide=true->∀ b,OP b->g2.IM X (!e.al&&e.ow) b:=λhw b hb=>⟨hI2w hw b hb.1,λq=>hQo q b hb.2⟩
  have hnatB:e.wide=true->NwAt X OP (!e.al&&e.ow) g2 (((st.sets l).gones mv).ob++newsR).length nsB:=λhw=>by
   refine⟨λj x hj=>?_,hOPim hw⟩
   obtain⟨_,z2,_,z4⟩:=hlookN _ x (hnsB j x hj)
   rw[List.length_append,hgl,hnewsR,List.length_map,Nat.add_assoc]
   exact⟨z4,z2⟩
  have hgen:∀ x∈ns,∃ (I'':Nat->Prop) (fr'':Bool),NwOk P w' I'' fr'' x/\(∀ b,I'' b->g2.IM X fr'' b)/\(fr''=true->∀ b∈x.fp,X.new b):=λx hx=>by
   rw[hns] at hx
   rcases List.mem_append.mp hx with q|q
   ·refine⟨_,_,n3 x q,hIal,λhal b hb=>?_⟩
    rcases hFr (by simpa using hal) b (by rw[n2];exact List.mem_flatMap.mpr ⟨x,q,hb⟩) with z|⟨z1,z2⟩
    ·exact .inl (Nat.le_trans hs.base (Nat.le_trans hs.size z))
    ·exact z2 (how z1)
   ·have hw:e.wide=true:=hmvw λem=>by
     have:back=[]:=by
      have:=hbid
      rw[em] at this
      exact List.map_eq_nil_iff.mp this
     rw[be this] at q
     cases q
    exact⟨OP,_,(bn x q).1,hOPim hw,λhfo b hb=>hQo hfo b ((bn x q).2 b hb)⟩
  have hB2:∀ id,g2.B id↔g1.B id\/(st.ob.length<=id/\id<st.ob.length+ns.length):=λid=>Iff.rfl
  refine hK g2 w' _ (Rel.eff (n:=st.ob.length) (e:=⟨resT P t rT,mv.map (·,.gone)++chg,ns.map (·.ob)⟩) hr1 hs (by simpa using hn') ?_ turn (by simpa using hB2) ?_ ?_ ?_) (turn.since hr1.sep hs) ?_
  ·intro p hp
   rcases List.mem_append.mp hp with q|q
   ·obtain⟨id,hid,rfl⟩:=List.mem_map.mp q
    exact hmvlt id hid
   ·exact hchlt p q
  ·intro id ob hm ho hB
   have hid:id∈mv:=by
    obtain⟨p,hp,rfl⟩:=hm
    rcases List.mem_append.mp hp with q|q
    ·obtain⟨id,hid,rfl⟩:=List.mem_map.mp q
     exact hid
    ·rw[<- hchg];exact List.mem_map.mpr ⟨p,q,rfl⟩
   rw[<- hbid] at hid
   obtain⟨y,hy,rfl⟩:=List.mem_map.mp hid
   have hyid:y.id∈mv:=by rw[<- hbid];exact List.mem_map.mpr ⟨y,hy,rfl⟩
   obtain⟨o0,ho0,_⟩:=hr1.obs y.id hB
   have hyl:=(List.getElem?_eq_some_iff.mp ho0).1
   rw[Zbg,<- hbc] at ho
   have:=setObs_at (l:=ZbG back) (ob:=ZG (stL.sets l).ob (mv.map (·,.gone))) (by simp only[ZbG,List.map_map];exact hbid▸hnd) (y.id,y.ob) (List.mem_map.mpr ⟨y,hy,rfl⟩) (by rw[Zx];exact hyl)
   rw[this] at ho
   injection ho with ho
   subst ho
   obtain⟨hbk0,hbk⟩:=b2 y hy
   have hw:e.wide=true:=hmvw (λe=>by rw[e] at hyid;cases hyid)
   have hnr:¬ (st.ob.length<=y.id/\y.id<st.ob.length+ns.length):=by have:=hmvlt _ hyid;omega
   have hhv:g2.hv y.id=g1.hv y.id:=if_neg hnr
   have hsz':g2.sz y.id=g1.sz y.id:=if_neg hnr
   have hin:y.id∈ts.flatMap (ZaB st)\/True:=.inr trivial
   rcases hbk with⟨og,ct,xs,fr,ys,fr',e1,efr,e2,e3⟩|⟨e1,e2,og,fr,ct,ys,e3⟩|⟨og,t0,cs0,l0,b,c0,e0,e1,e2,e3,e4,e5,e6⟩
   case inr.inl=>
    obtain⟨o1,ho1,ro1⟩:=hr1.obs y.id hB
    have hsame:(stL.sets l).ob[y.id]? = (st.sets l).ob[y.id]?:=by
     have hmem:y.id∈ts.flatMap (ZaB st):=by
      obtain⟨u,hu,q⟩:=hlent.look y.id hyid
      exact hsubA u hu _ q
     exact(hS1 y.id hmem (by rw[e3];rfl)).1
    rw[hsame,e3] at ho1
    injection ho1 with ho1
    subst ho1
    simp only[Zn] at ro1
    rw[e1]
    simp only[Zn]
    refine⟨by rw[hlookB y hy,e2],?_⟩
    rw[hhv]
    obtain⟨⟨row,_⟩,_⟩:=ro1
    obtain⟨a',cap',hv',_⟩:=OwC.row row
    rw[hv']
    rfl
   case inr.inr=>
    obtain⟨o1,ho1,ro1⟩:=hr1.obs y.id hB
    have hsame:(stL.sets l).ob[y.id]? = (st.sets l).ob[y.id]?:=by
     have hmem:y.id∈ts.flatMap (ZaB st):=by
      obtain⟨u,hu,q⟩:=hlent.look y.id hyid
      exact hsubA u hu _ q
     exact(hS1 y.id hmem (by rw[e2];rfl)).1
    rw[hsame,e2] at ho1
    injection ho1 with ho1
    subst ho1
    simp only[Zn] at ro1
    rw[e1]
    simp only[Zn]
    refine⟨⟨b,c0,e0,by rw[hhv];exact e3,by rw[hlookB y hy];exact e4,e5,e6 g2 (hnatB hw)⟩,λj hj=>?_⟩
    rw[hhv]
    exact ro1.2 j hj
   have hobj:Zn P X w g1 y.id (.row og fr ct ys):=by
    obtain⟨o1,ho1,ro1⟩:=hr1.obs y.id hB
    have hlk':=f4
    have hsame:(stL.sets l).ob[y.id]? = (st.sets l).ob[y.id]?:=by
     have hmem:y.id∈ts.flatMap (ZaB st):=by
      obtain⟨u,hu,q⟩:=hlent.look y.id hyid
      exact hsubA u hu _ q
     exact(hS1 y.id hmem (by rw[e2];rfl)).1
    rw[hsame,e2] at ho1
    injection ho1 with ho1
    subst ho1
    exact ro1
   simp only[Zn] at hobj
   obtain⟨⟨_,hszo⟩,_,horg⟩:=hobj
   rw[e1]
   simp only[Zn]
   refine⟨⟨?_,by rw[hsz'];exact hszo⟩,λhf b hb=>?_,λj hj=>by rw[hhv];exact horg j hj⟩
   ·rw[hhv,hlookB y hy]
    cases fr' with
    |false=>exact OwC.weaken (λb hb=>⟨hI2w hw b hb.1,by simp⟩) e3
    |true=>
     rcases(efr rfl).2 with⟨hfo,_⟩|hfl
     ·exact OwC.weaken (λb hb=>⟨hI2w hw b hb.1,λ_=>hQo hfo b hb.2⟩) e3
     ·exact flatC_any hfl.2 e3
   ·rw[hlookB y hy] at hb
    rcases(efr hf).2 with⟨hfo,hfb⟩|hfl
    ·have hb':=hbk0.mem_iff.mp hb
     rw[(efr hf).1,List.nil_append] at hb'
     exact hQo hfo b (hfb b hb')
    have hall:=hlent.fresh hfl.1
    have hbase:∀ z∈mv,∀ b∈g1.fp z,X.new b:=by
     intro z hz b hb
     obtain⟨og',ct',xs',ho'⟩:=hall z hz
     have hzB:=hmvB z hz
     obtain⟨o1,ho1,ro1⟩:=hr1.obs z hzB
     have hsame:(stL.sets l).ob[z]? = (st.sets l).ob[z]?:=by
      have hmem:z∈ts.flatMap (ZaB st):=by
       obtain⟨u,hu,q⟩:=hlent.look z hz
       exact hsubA u hu _ q
      exact(hS1 z hmem (by rw[ho'];rfl)).1
     rw[hsame,ho'] at ho1
     injection ho1 with ho1
     subst ho1
     simp only[Zn] at ro1
     exact ro1.2.1 trivial b hb
    have hold:∀ b∈Fs.flatMap (·.f),X.new b:=by
     intro b hb
     obtain⟨id,hid,_,hb⟩:=hFfp b hb
     exact hbase id hid b hb
    rcases hback b (List.mem_flatMap.mpr ⟨y,hy,hb⟩) with q|q
    ·obtain⟨x,hx,hb'⟩:=List.mem_flatMap.mp q
     exact hbase x.id (hFsmv x hx) b (hKfp x hx b hb')
    ·by_cases hlt:b<w.heap.size
     ·exact hold b ((hFon b q).2.2 hlt)
     ·exact .inl (by have:=hs.base;have:=hs.size;omega)
  ·intro j ob hj
   rw[List.getElem?_map] at hj
   obtain⟨x,hx,rfl⟩:=Option.map_eq_some_iff.mp hj
   obtain⟨p1,p2,p3,p4⟩:=hlookN j x hx
   obtain⟨I'',fr'',hok',hIal',hbase'⟩:=hgen x (List.mem_of_getElem? hx)
   rcases hok' with⟨ct,xs,q1,q2,q3⟩|⟨bt,ds,q1,b,c,e',z1,z2,z3,z4,z5⟩
   rotate_left
   ·rw[q1]
    simp only[Zn]
    exact⟨⟨b,c,e',by rw[p2];exact z1,by rw[p1];exact z2,z3,Zh.ofCells (c:=c) (p:=0) hIal' (by rw[Array.length_toList];exact z4) (λj v hv=>by simpa using hv) z5⟩,by simp⟩
   rw[q1]
   simp only[Zn]
   refine⟨⟨?_,by rw[p3];exact q3⟩,λhal b hb=>?_,by simp⟩
   ·rw[p1,p2]
    exact OwC.weaken hIal' q2
   ·rw[p1] at hb
    exact hbase' hal b hb
  ·have hrel:=n4 g2 hnat
   have hl:=Zh.length hrel
   have hrl:rT.length=e.rts.length:=by
    have gen:∀ (tys:List TypeId) (cs:List (List C)) (st st':St) (ts:List T),ZaX P (!e.al) st tys cs=some (ts,st')->ts.length=tys.length:=by
     intro tys
     induction tys with
     |nil=>
      intro cs st st' ts h
      cases cs<;>simp only[ZaX] at h
      ·injection h with h;injection h with e1 e2;subst e1;rfl
      ·cases h
     |cons t tys ih=>
      intro cs st st' ts h
      cases cs<;>simp only[ZaX] at h
      ·cases h
      ·cases hp:Zb5 P t with
       |true=>
        rw[hp] at h
        simp only[cond_true] at h
        split at h
        case h_2=>cases h
        split at h
        case h_2=>cases h
        rename_i h2
        injection h with h;injection h with e1 e2;subst e1
        simp[ih _ _ _ _ h2]
       |false=>
        rw[hp] at h
        simp only[cond_false] at h
        split at h
        case h_2=>cases h
        split at h
        case h_2=>cases h
        rename_i h2
        injection h with h;injection h with e1 e2;subst e1
        simp[ih _ _ _ _ h2]
    exact gen _ _ _ _ _ hborn
   exact resT_rel htup hrl hrel
  ·intro id
   rw[hB2,hB1]
   simp
end
end Go.T
