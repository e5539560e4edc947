/- Regions whose order is drawn: soundness. -/
import Derived.Test.YtlobhlnahhjpjaaGreatTReg3
set_option linter.unusedVariables false
set_option linter.unusedSimpArgs false
namespace Go.T
structure Agr (S:Nat->Prop) (O:Nat->Prop) (σ υ:St):Prop where
 len:σ.tm.length=υ.tm.length
 slot:∀ x,S x->σ.tm.getD x .any=υ.tm.getD x .any\/υ.tm.getD x .any=.any
 obj:∀ id,O id->σ.ob[id]? = υ.ob[id]?
def ZF.ids (d:ZF):List (Nat×Obj):=d.e.chg++Zcc d.s.ob.length d.e.news
theorem act_ids (d:ZF) (σ:St):(d.act σ).ob=ZG σ.ob d.ids:=act_ob d σ
theorem killAll_any (l:List (Nat×Obj)):Zw l .any=.any:=killAll_id l .any (by simp)
theorem act_slot (d:ZF) (σ:St) (x:Nat):(d.act σ).tm.getD x .any=if d.o.dst=some x/\x<σ.tm.length then d.e.t else Zw d.e.chg (σ.tm.getD x .any):=by
 have hm:(σ.tm.map (Zw d.e.chg)).getD x .any=Zw d.e.chg (σ.tm.getD x .any):=by
  simp only[List.getD_eq_getElem?_getD,List.getElem?_map]
  cases σ.tm[x]? with
  |none=>simp[killAll_any]
  |some t=>rfl
 simp only[ZF.act,eff_eq]
 cases hd:d.o.dst with
 |none=>simpa[St.put] using hm
 |some y=>
  simp only[St.put,List.getD_eq_getElem?_getD,List.getElem?_set,List.length_map,Option.some.injEq] at hm⊢
  by_cases e:y=x
  ·subst e
   by_cases hl:y<σ.tm.length
   ·simp[hl]
   ·simp only[hl,if_true,if_false,and_false]
    rw[List.getElem?_eq_none (Nat.le_of_not_lt hl)]
    simp[killAll_any]
  ·simp only[e,if_false,false_and]
   exact hm
theorem setObs_congr:∀ (l:List (Nat×Obj)) (ob ob':List Obj) (id:Nat),ob[id]? = ob'[id]?->(ZG ob l)[id]? = (ZG ob' l)[id]?
 |[],_,_,_,h=>h
 |p::l,ob,ob',id,h=>by
  refine setObs_congr l (ob.set p.1 p.2) (ob'.set p.1 p.2) id ?_
  rw[List.getElem?_set,List.getElem?_set]
  split
  ·rename_i e
   rw[e]
   have:id<ob.length↔id<ob'.length:=by
    constructor
    ·intro q
     have:(ob[id]?).isSome:=by simp[q]
     rw[h] at this
     simpa using this
    ·intro q
     have:(ob'[id]?).isSome:=by simp[q]
     rw[<- h] at this
     simpa using this
   by_cases q:id<ob.length
   ·simp[q,this.mp q]
   ·have q':¬ id<ob'.length:=λz=>q (this.mpr z)
    simp[q,q']
  ·exact h
theorem Agr.both {S O:Nat->Prop} {σ υ:St} (h:Agr S O σ υ) (d:ZF):Agr S O (d.act σ) (d.act υ):=by
 refine⟨by rw[act_tm,act_tm,h.len],λx hx=>?_,λid hid=>?_⟩
 ·rw[act_slot,act_slot,h.len]
  split
  ·exact .inl rfl
  ·rcases h.slot x hx with q|q
   ·rw[q];exact .inl rfl
   ·rw[q,killAll_any];exact .inr rfl
 ·rw[act_ob,act_ob]
  exact setObs_congr _ _ _ _ (h.obj id hid)
theorem killAll_or (l:List (Nat×Obj)) (t:T):Zw l t=t\/Zw l t=.any:=by
 rcases Zbi l t with⟨h,_⟩|h
 ·exact .inl h
 ·exact .inr h
theorem Agr.right {S O:Nat->Prop} {σ υ:St} (h:Agr S O σ υ) {d:ZF} (h1:∀ x,S x->d.o.dst≠some x) (h2:∀ p∈d.ids,¬ O p.1):Agr S O σ (d.act υ):=by
 refine⟨by rw[act_tm,h.len],λx hx=>?_,λid hid=>?_⟩
 ·rw[act_slot,if_neg (λe=>h1 x hx e.1)]
  rcases killAll_or d.e.chg (υ.tm.getD x .any) with q|q
  ·rw[q];exact h.slot x hx
  ·exact .inr q
 ·rw[act_ids,Zao _ _ _ (λp hp e=>h2 p hp (e▸hid))]
  exact h.obj id hid
theorem Agr.left {S O:Nat->Prop} {σ υ:St} (h:Agr S O σ υ) {d:ZF} (h1:∀ x,S x->d.o.dst≠some x) (h2:∀ p∈d.ids,¬ O p.1) (h3:∀ x,S x->Zw d.e.chg (υ.tm.getD x .any)=υ.tm.getD x .any):Agr S O (d.act σ) υ:=by
 refine⟨by rw[act_tm,h.len],λx hx=>?_,λid hid=>?_⟩
 ·rw[act_slot,if_neg (λe=>h1 x hx e.1)]
  rcases h.slot x hx with q|q
  ·rw[q];exact .inl (h3 x hx)
  ·exact .inr q
 ·rw[act_ids,Zao _ _ _ (λp hp e=>h2 p hp (e▸hid))]
  exact h.obj id hid
theorem Agr.phase1 {S O:Nat->Prop} {L:Nat->Bool}:∀ {l:List ZF} {m:Nat} {σ υ:St},Agr S O σ υ->(∀ k d,l[k]? = some d->L (m+k)=true\/((∀ x,S x->d.o.dst≠some x)/\∀ p∈d.ids,¬ O p.1))->Agr S O (ZR L l m σ) (ZR (λ_=>true) l m υ)
 |[],_,_,_,h,_=>h
 |d::l,m,σ,υ,h,hf=>by
  show Agr S O (ZR L l (m+1) _) (ZR _ l (m+1) (d.act υ))
  have hrest:∀ k d',l[k]? = some d'->L (m+1+k)=true\/((∀ x,S x->d'.o.dst≠some x)/\∀ p∈d'.ids,¬ O p.1):=λk d' hd=>by
   have:=hf (k+1) d' (by simpa using hd)
   rwa[show m+(k+1)=m+1+k from by omega] at this
  cases hl:L m with
  |true=>exact Agr.phase1 (h.both d) hrest
  |false=>
   rcases hf 0 d (by simp) with q|⟨q1,q2⟩
   ·rw[Nat.add_zero,hl] at q;cases q
   ·exact Agr.phase1 (h.right q1 q2) hrest
theorem Agr.phase2 {S O:Nat->Prop} {L:Nat->Bool}:∀ {l:List ZF} {m:Nat} {σ υ:St},Agr S O σ υ->(∀ k d,l[k]? = some d->L (m+k)=false\/((∀ x,S x->d.o.dst≠some x)/\(∀ p∈d.ids,¬ O p.1)/\∀ x,S x->Zw d.e.chg (υ.tm.getD x .any)=υ.tm.getD x .any))->Agr S O (ZR L l m σ) υ
 |[],_,_,_,h,_=>h
 |d::l,m,σ,υ,h,hf=>by
  show Agr S O (ZR L l (m+1) _) υ
  have hrest:∀ k d',l[k]? = some d'->L (m+1+k)=false\/((∀ x,S x->d'.o.dst≠some x)/\(∀ p∈d'.ids,¬ O p.1)/\∀ x,S x->Zw d'.e.chg (υ.tm.getD x .any)=υ.tm.getD x .any):=λk d' hd=>by
   have:=hf (k+1) d' (by simpa using hd)
   rwa[show m+(k+1)=m+1+k from by omega] at this
  cases hl:L m with
  |false=>exact Agr.phase2 h hrest
  |true=>
   rcases hf 0 d (by simp) with q|⟨q1,q2,q3⟩
   ·rw[Nat.add_zero,hl] at q;cases q
   ·exact Agr.phase2 (h.left q1 q2 q3) hrest
theorem Rel.drawn {P:Program} {X:Fix} {w w':World} {g:G} {st:St} {a:Act} (h:Rel P X w g st a) (hw:w'.heap=w.heap):Rel P X w' g st a:=by
 have ext:Ext w w' g g (λ_=>False):=⟨λ_ h=>h,λb _ _=>by rw[hw],λ_ _ h=>h,h.sep.imm,λ_ h=>h,λ_ _=>rfl,λ_ _=>rfl⟩
 refine⟨⟨h.tms.1,λi t ht=>?_⟩,λid hB=>?_,⟨h.sep.nodup,h.sep.apart,λid hB b hb=>by rw[hw];exact h.sep.mine id hB b hb,λb hb=>by rw[hw];exact h.sep.imm b hb,h.sep.old,h.sep.keep⟩,h.def_⟩
 ·obtain⟨v,hv,r⟩:=h.tms.2 i t ht
  refine⟨v,hv,Zb.mono ext (λid i off e b hb=>?_) r⟩
  subst e
  simp only[Zb] at r
  exact⟨hb,(h.sep.mine id r.1 b hb).2.1,λq=>q⟩
 ·obtain⟨o,ho,r⟩:=h.obs id hB
  exact⟨o,ho,Zn.mono ext hB rfl (λb hb=>⟨λq=>q,(h.sep.mine id hB b hb).2.1⟩) r⟩
theorem drawOk_spec {ops:Array Oper} (h:drawOk ops=true) {j:Nat} {oj:Oper} (hj:ops[j]? = some oj):
  (∀ e∈oj.after,Region.binds .any e=true->e.on<j)/\∀ i oi,i<j->ops[i]? = some oi->((Region.before ops).getD j 0).testBit i=true\/(oi.apart ops oj=true/\oj.apart ops oi=true):=by
 unfold drawOk at h
 simp only[] at h
 rw[List.all_eq_true] at h
 have:=h j (List.mem_range.mpr (Array.getElem?_eq_some_iff.mp hj).1)
 rw[hj] at this
 simp only[Bool.and_eq_true] at this
 obtain⟨⟨h1,_⟩,h2⟩:=this
 refine⟨λe he hb=>?_,λi oi hij hi=>?_⟩
 ·have:=(Array.all_eq_true_iff_forall_mem.mp h1) e he
  simpa[hb] using this
 ·rw[List.all_eq_true] at h2
  have:=h2 i (List.mem_range.mpr hij)
  rw[hi] at this
  simpa[Bool.or_eq_true,Bool.and_eq_true] using this
theorem ready_nil_all {ops:Array Oper} {listed:Array Bool} (hsz:listed.size=ops.size) (hlt:∀ (j:Nat) (o:Oper),ops[j]? = some o->∀ e∈o.after,Region.binds .any e=true->e.on<j) (h:Region.ready .any ops listed=[]):
  ∀ i,i<ops.size->listed.getD i false=true:=by
 intro i
 induction i using Nat.strongRecOn with
 |ind i ih=>
  intro hi
  cases hl:listed.getD i false with
  |true=>rfl
  |false=>
   have:i∈Region.ready .any ops listed:=by
    rw[mem_ready]
    refine⟨?_,ops[i],by simp[hi],λe he hb=>?_⟩
    ·have h1:i<listed.size:=by omega
     rw[Array.getD_eq_getD_getElem?] at hl⊢
     simp[h1] at hl⊢
     exact hl
    ·have:=hlt i ops[i] (by simp[hi]) e he hb
     exact ih e.on this (by omega)
   rw[h] at this
   cases this
section
variable {P:Program} {E:Env} {β:Type} {r:β}
theorem region_draw (hmix:P.follows .mixedOrders=true) (hT:Zar P) (hE:EnvOK P E) {ops:Array Oper} {id0:Nat} {st:St} {k:St->Option β} (hok:drawOk ops=true) (h:ZbC P E ops (Region.before ops) ops.toList 0 [] st k=some r):
  ∃ st',k st'=some r/\∀ (X:Fix) (w0:World) (g:G) (a:Act) (w:World),Rel P X w g st a->ZaC g st->Zac X w0 w->∀ (Q:Exit->Act->World->Prop),(∀ g' w' a',Rel P X w' g' st' a'->ZaC g' st'->Zac X w0 w'->Q .normal a' w')->(Code.region id0 ops true).wp P Q a w:=by
 obtain⟨ds,st',hops,hch,hk,hd,_,hpair⟩:=draw_trace hT hE h
 refine⟨st',hk,λX w0 g a w hr hf0 hs Q hQ=>wp_region_any hmix ?_⟩
 -- what is known of the steps
 have hds:∀ (i:Nat) (d:ZF),ds[i]? = some d->ops[i]? = some d.o:=by
  intro i d hi
  have:(ds.map (·.o))[i]? = some d.o:=by rw[List.getElem?_map,hi];rfl
  rw[hops] at this
  simpa using this
 have hdl:ds.length=ops.size:=by
  have:=congrArg List.length hops
  simpa using this
 have hlt:∀ (j:Nat) (o:Oper),ops[j]? = some o->∀ e∈o.after,Region.binds .any e=true->e.on<j:=λj o ho=>(drawOk_spec hok ho).1
 have hD:∀ (i:Nat) (d:ZF),ds[i]? = some d->DOk P ops (Region.before ops) ops.size i d:=λi d hi=>by simpa using hd i d hi
 have hP:∀ (i j:Nat) (d d':ZF),i<j->ds[i]? = some d->ds[j]? = some d'->d.ran=true->d'.ran=true->(((Region.before ops).getD j 0).testBit i=true\/SeqIn (Region.before ops) ops.size i j)\/SepD d d':=λi j d d' hij hi hj hr hr'=>by
  rcases hpair i j d d' hij hi hj hr hr' with q|q|q
  ·exact .inl (.inl (by simpa using q))
  ·exact .inl (.inr (by simpa using q))
  ·exact .inr q
 -- ids of a step
 have hids:∀ (i:Nat) (d:ZF),ds[i]? = some d->∀ p∈d.ids,d.ran=true/\(Zaz (Region.before ops) ops.size i=true\/p.1∈d.chg):=by
  intro i d hi p hp
  have hran:d.ran=true:=by
   cases hr:d.ran with
   |true=>rfl
   |false=>
    have:=((hD i d hi).skip hr).1
    simp[ZF.ids,this,Zcc] at hp
  refine⟨hran,?_⟩
  rcases List.mem_append.mp hp with q|q
  ·rcases(hD i d hi).seen hran with z|z
   ·exact .inl z
   ·exact .inr (z p q)
  ·refine .inr ?_
   have hm:=newsChg_mem q
   simp only[ZF.chg,hran,cond_true]
   refine List.mem_append_right _ ?_
   unfold madeIn
   rw[List.mem_range'_1,ZbE]
   omega
 have hseq:∀ i j,i<j->j<ops.size->(Zaz (Region.before ops) ops.size i=true\/Zaz (Region.before ops) ops.size j=true)->SeqIn (Region.before ops) ops.size i j:=by
  intro i j hij hj q
  rcases q with q|q
  ·exact⟨i,Nat.le_refl _,by omega,q⟩
  ·exact⟨j,by omega,Nat.le_refl _,q⟩
 let M:=st'.ob.length-st.ob.length
 have hMle:st.ob.length<=st'.ob.length:=hch.end_le
 have hB0:∀ id,g.B id->id<st.ob.length:=λid q=>by
  obtain⟨o,ho,_⟩:=hr.obs id q
  exact(List.getElem?_eq_some_iff.mp ho).1
 -- the invariant
 have main:∀ (fuel:Nat) (listed:Array Bool) (a:Act) (w:World) (g':G),listed.size=ops.size->Cl (Region.before ops) (λi=>listed.getD i false)->
   ((List.range ops.size).filter λi=>!listed.getD i false).length<=fuel->
   Rel P X w g' (ZR (λi=>listed.getD i false) ds 0 (st.pad M)) a->Zac X w0 w->
   (∀ id,g'.B id↔g.B id\/∃ (i:Nat) (d:ZF),ds[i]? = some d/\listed.getD i false=true/\d.s.ob.length<=id/\id<d.s.ob.length+d.e.news.length)->
   wpAny P .any ops Q fuel listed a w:=by
  intro fuel
  have fin:∀ (listed:Array Bool) (a:Act) (w:World) (g':G),(∀ i,i<ops.size->listed.getD i false=true)->Rel P X w g' (ZR (λi=>listed.getD i false) ds 0 (st.pad M)) a->Zac X w0 w->
    (∀ id,g'.B id↔g.B id\/∃ (i:Nat) (d:ZF),ds[i]? = some d/\listed.getD i false=true/\d.s.ob.length<=id/\id<d.s.ob.length+d.e.news.length)->Q .normal a w:=by
   intro listed a w g' hall hr hs hB
   have:ZR (λi=>listed.getD i false) ds 0 (st.pad M)=st':=by
    rw[ZbU (L':=λ_=>true) ds 0 _ (λk hk=>by rw[Nat.zero_add];exact hall k (by omega)),hch.all (λi d hi=>(hD i d hi).lt) (by omega)]
    show st'.pad (M-M)=st'
    simp[St.pad]
   rw[this] at hr
   refine hQ g' w a hr (λid hid=>?_) hs
   rw[hB]
   rcases Nat.lt_or_ge id st.ob.length with q|q
   ·exact .inl (hf0 id q)
   ·obtain⟨i,d,hi,h1,h2⟩:=hch.cover q hid
    exact .inr ⟨i,d,hi,hall i (by have:=(List.getElem?_eq_some_iff.mp hi).1;omega),h1,h2⟩
  induction fuel with
  |zero=>
   intro listed a w g' hsz hcl hcnt hr hs hB
   have hall:∀ i,i<ops.size->listed.getD i false=true:=by
    intro i hi
    cases hl:listed.getD i false with
    |true=>rfl
    |false=>
     have:i∈(List.range ops.size).filter λi=>!listed.getD i false:=by
      rw[List.mem_filter]
      exact⟨List.mem_range.mpr hi,by simp[hl]⟩
     rw[List.length_eq_zero_iff.mp (Nat.le_zero.mp hcnt)] at this
     cases this
   refine⟨?_,fin listed a w g' hall hr hs hB⟩
   cases hrd:Region.ready .any ops listed with
   |nil=>rfl
   |cons i l=>
    have:i∈Region.ready .any ops listed:=by rw[hrd];simp
    obtain⟨h0,o,ho,_⟩:=mem_ready.mp this
    have hi:=(Array.getElem?_eq_some_iff.mp ho).1
    have h1:=hall i hi
    have h2:i<listed.size:=by omega
    rw[Array.getD_eq_getD_getElem?] at h0 h1
    simp[h2] at h0 h1
    rw[h0] at h1;cases h1
  |succ fuel ih=>
   intro listed a w g' hsz hcl hcnt hr hs hB
   refine⟨λhrd=>fin listed a w g' (ready_nil_all hsz hlt hrd) hr hs hB,λi hi=>?_⟩
   obtain⟨h0,o,ho,hall⟩:=mem_ready.mp hi
   have hin:i<ops.size:=(Array.getElem?_eq_some_iff.mp ho).1
   have hil:listed.getD i false=false:=by
    have h2:i<listed.size:=by omega
    rw[Array.getD_eq_getD_getElem?] at h0⊢
    simp[h2] at h0⊢
    exact h0
   obtain⟨d,hdi⟩:∃ d,ds[i]? = some d:=⟨ds[i],by simp[hdl,hin]⟩
   have hdo:d.o=o:=by
    have:=hds i d hdi
    rw[ho] at this
    injection this with this
    exact this.symm
   subst hdo
   let L:Nat->Bool:=λi=>listed.getD i false
   -- what i waits for is listed
   have hpre:∀ j,((Region.before ops).getD i 0).testBit j=true->L j=true:=by
    intro j hj
    obtain⟨e,he,hb,q⟩:=before_bit hlt ho hj
    have hon:=hall e he hb
    rcases q with rfl|q
    ·exact hon
    ·exact hcl _ hon j q
   have hearly:∀ (j:Nat) (d':ZF),j<i->ds[j]? = some d'->L j=true\/((d'.o.apart ops d.o=true/\d.o.apart ops d'.o=true)/\(d'.ran=true->d.ran=true->SepD d' d)/\(d'.ran=true->Zaz (Region.before ops) ops.size j=false)):=by
    intro j d' hji hj
    cases hl:L j with
    |true=>exact .inl rfl
    |false=>
     have hno:¬ (((Region.before ops).getD i 0).testBit j=true\/SeqIn (Region.before ops) ops.size j i):=λq=>by
      have:=dep_in hcl hji hin hpre q
      have hl':listed.getD j false=false:=hl
      rw[hl'] at this;cases this
     refine .inr ⟨?_,λr1 r2=>?_,λ_=>?_⟩
     ·rcases(drawOk_spec hok ho).2 j d'.o hji (hds j d' hj) with q|q
      ·exact absurd (.inl q) hno
      ·exact q
     ·rcases hP j i d' d hji hj hdi r1 r2 with q|q
      ·exact absurd q hno
      ·exact q
     ·cases hq:Zaz (Region.before ops) ops.size j with
      |false=>rfl
      |true=>exact absurd (.inr (hseq j i hji hin (.inl hq))) hno
   have hlate:∀ (j:Nat) (d':ZF),i<j->ds[j]? = some d'->L j=false\/((d'.o.apart ops d.o=true/\d.o.apart ops d'.o=true)/\(d'.ran=true->d.ran=true->SepD d d')/\Zaz (Region.before ops) ops.size j=false/\Zaz (Region.before ops) ops.size i=false):=by
    intro j d' hij hj
    have hjn:j<ops.size:=by have:=(List.getElem?_eq_some_iff.mp hj).1;omega
    cases hl:L j with
    |false=>exact .inl rfl
    |true=>
     have hno:¬ (((Region.before ops).getD j 0).testBit i=true\/SeqIn (Region.before ops) ops.size i j):=λq=>by
      have:listed.getD i false=true:=dep_in hcl hij hjn (λx hx=>hcl j hl x hx) q
      rw[hil] at this;cases this
     refine .inr ⟨?_,λr1 r2=>?_,?_,?_⟩
     ·rcases(drawOk_spec hok (hds j d' hj)).2 i d.o hij ho with q|q
      ·exact absurd (.inl q) hno
      ·exact⟨q.2,q.1⟩
     ·rcases hP i j d d' hij hdi hj r2 r1 with q|q
      ·exact absurd q hno
      ·exact q
     ·cases hq:Zaz (Region.before ops) ops.size j with
      |false=>rfl
      |true=>exact absurd (.inr (hseq i j hij hjn (.inr hq))) hno
     ·cases hq:Zaz (Region.before ops) ops.size i with
      |false=>rfl
      |true=>exact absurd (.inr (hseq i j hij hjn (.inl hq))) hno
   -- the agreement
   let S:Nat->Prop:=λx=>(d.ran=true/\.tmp x∈d.o.op.operands.toList)\/∃ j want,d.o.guard=some (j,want)/\(ops[j]?).bind (·.dst)=some x
   let O:Nat->Prop:=λid=>d.ran=true/\(id∈Za9 d.o d.s\/(d.s.ob.length<=id/\id<d.s.ob.length+d.e.news.length))
   have hSl:∀ x,S x->x∈d.o.looksAt ops:=by
    rintro x (⟨_,q⟩|⟨j,want,q1,q2⟩)
    ·exact List.mem_append_left _ (List.mem_filterMap.mpr ⟨.tmp x,q,rfl⟩)
    ·refine List.mem_append_right _ ?_
     rw[q1]
     simp[q2]
   have hOt:∀ id,O id->id∈d.tch\/id∈d.chg:=by
    rintro id ⟨hran,q|q⟩
    ·left
     simp only[ZF.tch,hran,cond_true]
     exact List.mem_append_left _ q
    ·right
     simp only[ZF.chg,hran,cond_true]
     refine List.mem_append_right _ ?_
     unfold madeIn
     rw[List.mem_range'_1,ZbE]
     omega
   have hgslot:∀ x j want,d.o.guard=some (j,want)->(ops[j]?).bind (·.dst)=some x->(∃ f b,d.s.tm.getD x .any=.d f (.bool b))\/d.s.tm.getD x .any=.undef:=by
    intro x j want q1 q2
    cases hran:d.ran with
    |true=>
     rcases((hD i d hdi).run hran).2 with q|⟨j',want',dd,f,z1,z2,z3⟩
     ·rw[q1] at q;cases q
     ·rw[q1] at z1;injection z1 with z1;injection z1 with z1 z1'
      subst z1 z1'
      rw[q2] at z2;injection z2 with z2;subst z2
      exact .inl ⟨f,_,z3⟩
    |false=>
     obtain⟨_,j',want',dd,z1,z2,z3⟩:=(hD i d hdi).skip hran
     rw[q1] at z1;injection z1 with z1;injection z1 with z1 z1'
     subst z1 z1'
     rw[q2] at z2;injection z2 with z2;subst z2
     rcases z3 with⟨f,z3⟩|z3
     ·exact .inl ⟨f,_,z3⟩
     ·exact .inr z3
   have hcs:=hch.get hdi
   have hagr:Agr S O (ZR L ds 0 (st.pad M)) (d.s.pad (M-(d.s.ob.length-st.ob.length))):=by
    have hl:i<ds.length:=by omega
    have hsp:ds=ds.take i++d::ds.drop (i+1):=by
     have:=(List.getElem?_eq_some_iff.mp hdi).2
     rw[<- this,<- List.drop_eq_getElem_cons hl,List.take_append_drop]
    have htl:(ds.take i).length=i:=by simp;omega
    have key:ZR L ds 0 (st.pad M)=ZR L (ds.drop (i+1)) (i+1) (ZR L (ds.take i) 0 (st.pad M)):=by
     conv=>lhs;rw[hsp]
     rw[foldL_append,htl,Nat.zero_add]
     show ZR L (ds.drop (i+1)) (i+1) (bif L i then _ else _)=_
     have:L i=false:=hil
     rw[this]
     rfl
    rw[key]
    have p1:Agr S O (ZR L (ds.take i) 0 (st.pad M)) (d.s.pad (M-(d.s.ob.length-st.ob.length))):=by
     rw[<- (hch.split hdi).all (m:=0) (λj d' hj p hp=>(hD j d' (by rw[List.getElem?_take] at hj;split at hj;exact hj;cases hj)).lt p hp) (by omega)]
     refine Agr.phase1 ⟨rfl,λ_ _=>.inl rfl,λ_ _=>rfl⟩ λj d' hj=>?_
     rw[List.getElem?_take] at hj
     split at hj
     case isFalse=>cases hj
     rename_i hji
     rw[Nat.zero_add]
     rcases hearly j d' hji hj with q|⟨⟨q1,q1'⟩,q2,q3⟩
     ·exact .inl q
     ·refine .inr ⟨λx hx e=>?_,λp hp hO=>?_⟩
      ·exact(Oper.apart_spec q1).1 x e (hSl x hx)
      ·obtain⟨hran',hc⟩:=hids j d' hj p hp
       rcases hc with hc|hc
       ·rw[q3 hran'] at hc;cases hc
       ·obtain⟨s1,s2,s3⟩:=q2 hran' hO.1
        rcases hOt _ hO with z|z
        ·exact s2 _ z hc
        ·exact s3 _ z hc
    refine Agr.phase2 p1 λj d' hj=>?_
    rw[List.getElem?_drop] at hj
    rcases hlate (i+1+j) d' (by omega) hj with q|⟨⟨q1,q1'⟩,q2,q3,q4⟩
    ·exact .inl q
    ·refine .inr ⟨λx hx e=>?_,λp hp hO=>?_,λx hx=>?_⟩
     ·exact(Oper.apart_spec q1).1 x e (hSl x hx)
     ·obtain⟨hran',hc⟩:=hids _ d' hj p hp
      rcases hc with hc|hc
      ·rw[q3] at hc;cases hc
      ·obtain⟨s1,s2,s3⟩:=q2 hran' hO.1
       rcases hOt _ hO with z|z
       ·exact s1 _ hc z
       ·exact s3 _ hc z
     ·refine killAll_id _ _ λid jj off e p hp hpe=>?_
      have hx':d.s.tm.getD x .any=.sub id jj off:=e
      rcases hx with⟨hran,hx⟩|⟨j',want,z1,z2⟩
      ·obtain⟨hran',hc⟩:=hids _ d' hj p (List.mem_append_left _ hp)
       rcases hc with hc|hc
       ·rw[q3] at hc;cases hc
       ·obtain⟨s1,s2,s3⟩:=q2 hran' hran
        refine s1 _ hc ?_
        simp only[ZF.tch,hran,cond_true]
        rw[hpe]
        exact List.mem_append_left _ (looks_sub hx hx')
      ·rcases hgslot x j' want z1 z2 with⟨f,b,z⟩|z
       ·rw[hx'] at z;cases z
       ·rw[hx'] at z;cases z
   -- the next state
   have hnext:ZR (λj=>(listed.setIfInBounds i true).getD j false) ds 0 (st.pad M)=d.act (ZR L ds 0 (st.pad M)):=by
    have e1:ZR (λj=>(listed.setIfInBounds i true).getD j false) ds 0 (st.pad M)=ZR (λj=>j==i||L j) ds 0 (st.pad M):=by
     refine ZbU ds 0 _ λj hj=>?_
     rw[Nat.zero_add]
     by_cases e:j=i
     ·subst e
      have h2:j<listed.size:=by omega
      simp[h2]
     ·rw[getD_set_ne false (Ne.symm e)]
      simp[e,L]
    rw[e1]
    refine foldL_add hdi hil (N:=st.tm.length) rfl λj d' hj hij hlj=>?_
    rcases hlate j d' hij hj with q|⟨⟨q1,q1'⟩,q2,q3,q4⟩
    ·rw[hlj] at q;cases q
    ·refine⟨λx e=>(Oper.apart_spec q1').2.1 x e,λp hp q hq e=>?_,λx hx hxl id jj off et p hp hpe=>?_,λx hx hxl id jj off et p hp hpe=>?_⟩
     ·obtain⟨r1,c1⟩:=hids i d hdi p hp
      obtain⟨r2,c2⟩:=hids j d' hj q hq
      rw[q4] at c1;rw[q3] at c2
      have c1:=c1.resolve_left (by simp)
      have c2:=c2.resolve_left (by simp)
      exact(q2 r2 r1).2.2 _ c2 (e▸c1)
     ·have r1:d.ran=true:=by
       cases hr:d.ran with
       |true=>rfl
       |false=>have:=((hD i d hdi).skip hr).1;rw[this] at et;cases et
      obtain⟨r2,c2⟩:=hids j d' hj p (List.mem_append_left _ hp)
      rw[q3] at c2
      have c2:=c2.resolve_left (by simp)
      refine(q2 r2 r1).1 _ c2 ?_
      simp only[ZF.tch,r1,cond_true]
      refine List.mem_append_right _ ?_
      rw[hx]
      unfold subOf
      have hget:d.next.tm.getD x .any=.sub id jj off:=by
       simp only[ZF.next,St.app,hx,St.put,List.getD_eq_getElem?_getD]
       rw[List.getElem?_set_self (by rw[List.length_map,(hch.get hdi).2.2];exact hxl)]
       simpa using et
      simp only[hget]
      rw[hpe]
      simp
     ·have r2:d'.ran=true:=by
       cases hr:d'.ran with
       |true=>rfl
       |false=>have:=((hD j d' hj).skip hr).1;rw[this] at et;cases et
      obtain⟨r1,c1⟩:=hids i d hdi p (List.mem_append_left _ hp)
      rw[q4] at c1
      have c1:=c1.resolve_left (by simp)
      refine(q2 r2 r1).2.1 _ ?_ c1
      simp only[ZF.tch,r2,cond_true]
      refine List.mem_append_right _ ?_
      rw[hx]
      unfold subOf
      have hget:d'.next.tm.getD x .any=.sub id jj off:=by
       simp only[ZF.next,St.app,hx,St.put,List.getD_eq_getElem?_getD]
       rw[List.getElem?_set_self (by rw[List.length_map,(hch.get hj).2.2];exact hxl)]
       simpa using et
      simp only[hget]
      rw[hpe]
      simp
   -- going on
   have goon:∀ (g2:G) (w2:World) (a2:Act),Rel P X w2 g2 (d.act (ZR L ds 0 (st.pad M))) a2->Zac X w0 w2->(∀ id,g2.B id↔g'.B id\/(d.s.ob.length<=id/\id<d.s.ob.length+d.e.news.length))->
     wpAny P .any ops Q fuel (listed.setIfInBounds i true) a2 w2:=by
    intro g2 w2 a2 hr2 hs2 hB2
    have hset:∀ j,(listed.setIfInBounds i true).getD j false=true↔(j=i\/listed.getD j false=true):=by
     intro j
     by_cases e:j=i
     ·subst e
      have h2:j<listed.size:=by omega
      simp[h2]
     ·rw[getD_set_ne false (Ne.symm e)]
      simp[e]
    refine ih (listed.setIfInBounds i true) a2 w2 g2 (by simpa using hsz) (λx hx y hy=>?_) ?_ (by rw[hnext];exact hr2) hs2 (λid=>?_)
    ·simp only[] at hx⊢
     rw[hset] at hx⊢
     rcases hx with rfl|hx
     ·exact .inr (hpre y hy)
     ·exact .inr (hcl x hx y hy)
    ·have hsub:((List.range ops.size).filter λj=>!(listed.setIfInBounds i true).getD j false)=(((List.range ops.size).filter λj=>!listed.getD j false).filter λj=>j !=i):=by
      rw[List.filter_filter]
      refine List.filter_congr λj hj=>?_
      by_cases e:j=i
      ·subst e
       have:=(hset j).mpr (.inl rfl)
       simp[this]
      ·rw[getD_set_ne false (Ne.symm e)]
       simp[e]
     rw[hsub]
     have hm:i∈(List.range ops.size).filter λj=>!listed.getD j false:=by
      rw[List.mem_filter]
      exact⟨List.mem_range.mpr hin,by simp[hil]⟩
     have:=List.length_filter_lt_length_iff_exists (p:=λj=>j !=i) (l:=(List.range ops.size).filter λj=>!listed.getD j false) |>.mpr ⟨i,hm,by simp⟩
     omega
    ·rw[hB2,hB]
     constructor
     ·rintro((q|⟨j,d',q1,q2,q3⟩)|q)
      ·exact .inl q
      ·exact .inr ⟨j,d',q1,(hset j).mpr (.inr q2),q3⟩
      ·exact .inr ⟨i,d,hdi,(hset i).mpr (.inl rfl),q⟩
     ·rintro(q|⟨j,d',q1,q2,q3⟩)
      ·exact .inl (.inl q)
      ·rcases(hset j).mp q2 with rfl|q2
       ·rw[hdi] at q1;injection q1 with q1;subst q1
        exact .inr q3
       ·exact .inl (.inr ⟨j,d',q1,q2,q3⟩)
   have hslot:∀ x,S x->(ZR L ds 0 (st.pad M)).tm.getD x .any=d.s.tm.getD x .any\/d.s.tm.getD x .any=.any:=λx hx=>hagr.slot x hx
   unfold wpOp
   rw[ho]
   simp only[]
   cases hran:d.ran with
   |false=>
    obtain⟨he,j,want,dd,z1,z2,z3⟩:=(hD i d hdi).skip hran
    have hsl:=hslot dd (.inr ⟨j,want,z1,z2⟩)
    have hw:Region.wanted d.o (yielded ops a.tmps)=false:=by
     rcases z3 with⟨f,z3⟩|z3
     ·have:(ZR L ds 0 (st.pad M)).tm.getD dd .any=.d f (.bool !want):=by
       rcases hsl with q|q
       ·rw[q,z3]
       ·rw[z3] at q;cases q
      rw[ZbN hr z1 z2 this]
      cases want<;>rfl
     ·have:(ZR L ds 0 (st.pad M)).tm.getD dd .any=.undef:=by
       rcases hsl with q|q
       ·rw[q,z3]
       ·rw[z3] at q;cases q
      exact wanted_undef hr z1 z2 this
    rw[hw]
    simp only[Bool.false_eq_true,if_false]
    refine goon g' w _ ?_ hs (λid=>by rw[he];simp;omega)
    have:d.act (ZR L ds 0 (st.pad M))=(ZR L ds 0 (st.pad M)).put d.o.dst .undef:=by
     simp only[ZF.act,he,eff_pure]
    rw[this]
    exact hr.put _ (by simp[Zb])
   |true=>
    obtain⟨hop,hgd⟩:=(hD i d hdi).run hran
    have hw:Region.wanted d.o (yielded ops a.tmps)=true:=by
     rcases hgd with q|⟨j,want,dd,f,z1,z2,z3⟩
     ·exact wanted_none q
     ·have:(ZR L ds 0 (st.pad M)).tm.getD dd .any=.d f (.bool want):=by
       rcases hslot dd (.inr ⟨j,want,z1,z2⟩) with q|q
       ·rw[q,z3]
       ·rw[z3] at q;cases q
      rw[ZbN hr z1 z2 this]
      cases want<;>rfl
    rw[hw]
    simp only[if_true]
    left
    have hev:∀ x∈d.o.op.operands.toList,(ZR L ds 0 (st.pad M)).ev x=d.s.ev x\/d.s.ev x=.any:=by
     intro x hx
     cases x with
     |tmp t=>exact hslot t (.inl ⟨hran,hx⟩)
     |_=>exact .inl rfl
    have hpadob:∀ id:Nat,(d.s.ob[id]?).isSome->(d.s.pad (M-(d.s.ob.length-st.ob.length))).ob[id]? = d.s.ob[id]?:=by
     intro id hid
     obtain⟨o,ho⟩:=Option.isSome_iff_exists.mp hid
     simp only[St.pad]
     rw[List.getElem?_append_left (List.getElem?_eq_some_iff.mp ho).1]
    refine hop X w0 (ZR L ds 0 (st.pad M)) g' a w hr hs hev (λid hid hsome=>?_) (λjj hjj=>⟨?_,λhBn=>?_⟩) _ Q (λg2 w2 a2 hr2 hs2 hB2=>goon g2 w2 a2 hr2 hs2 hB2)
    ·have hag:∀ id∈Za9 d.o d.s,(d.s.ob[id]?).isSome->(ZR L ds 0 (st.pad M)).ob[id]? = d.s.ob[id]?:=λid hid hsome=>by
      rw[hagr.obj id ⟨hran,.inl hid⟩,hpadob id hsome]
     refine⟨hag id hid hsome,?_⟩
     obtain⟨x,hx,hid'⟩:=List.mem_flatMap.mp hid
     cases hm:isMove d.o.op with
     |false=>
      rw[hm] at hid'
      rw[cond_false] at hid'
      cases hc:isCall d.o.op with
      |false=>
       rw[hc] at hid'
       exact look_born hr (OpOk.args hr (hev x hx)) (λy hy=>hag y (List.mem_flatMap.mpr ⟨x,hx,by rw[hm,hc];exact hy⟩)) id hid'
      |true=>
       rw[hc] at hid'
       exact lookA_born hr (OpOk.args hr (hev x hx)) (λy hy=>hag y (List.mem_flatMap.mpr ⟨x,hx,by rw[hm,hc];exact hy⟩)) id hid'
     |true=>
      rw[hm] at hid'
      have rv:=OpOk.args hr (hev x hx)
      generalize d.s.ev x=u at hid' rv
      cases u with
      |sub i' j off=>
       simp[lookSub] at hid'
       subst hid'
       simp only[Zb] at rv
       exact rv.1
      |_=>simp[lookSub] at hid'
    ·rw[hagr.obj _ ⟨hran,.inr ⟨by omega,by omega⟩⟩]
     simp only[St.pad]
     rw[List.getElem?_append_right (by omega)]
     have h1:=hcs.2.1
     have h2:=hcs.1
     rw[List.getElem?_replicate]
     rw[if_pos (by omega)]
    ·rcases(hB _).mp hBn with q|⟨j,d',q1,q2,q3,q4⟩
     ·have:=hB0 _ q
      omega
     ·rcases Nat.lt_trichotomy i j with e|e|e
      ·have:=hch.mono e hdi q1
       omega
      ·subst e
       rw[hil] at q2;cases q2
      ·have:=hch.mono e q1 hdi
       omega
 have hr0:Rel P X { w with drawn:=w.drawn+1 } g (st.pad M) a:=(hr.drawn (w':={ w with drawn:=w.drawn+1 }) rfl).pad M
 refine main ops.size (Array.replicate ops.size false) a _ g (by simp) (λi hi=>?_) ?_ ?_ ⟨hs.os,hs.tape,hs.output,hs.size,hs.base,hs.block⟩ (λid=>?_)
 ·exfalso
  simp only[Array.getD_eq_getD_getElem?,Array.getElem?_replicate] at hi
  split at hi<;>simp at hi
 ·refine Nat.le_trans (List.length_filter_le _ _) (by simp)
 ·have:ZR (λi=>(Array.replicate ops.size false).getD i false) ds 0 (st.pad M)=st.pad M:=by
   rw[ZbU (L':=λ_=>false) ds 0 _ (λk _=>by simp only[Array.getD_eq_getD_getElem?,Array.getElem?_replicate];split<;>rfl),foldL_none]
  rw[this]
  exact hr0
 ·constructor
  ·exact .inl
  ·rintro(q|⟨i,d,_,q,_⟩)
   ·exact q
   ·exfalso
    simp only[Array.getD_eq_getD_getElem?,Array.getElem?_replicate] at q
    split at q<;>simp at q
end
end Go.T
