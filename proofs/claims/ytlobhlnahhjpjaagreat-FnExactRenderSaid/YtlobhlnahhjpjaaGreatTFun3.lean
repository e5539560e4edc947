/- Functions: a function that is read by the evaluator has a contract. -/
import Derived.Test.YtlobhlnahhjpjaaGreatTFun2
set_option linter.unusedVariables false
set_option linter.unusedSimpArgs false
namespace Go.T
section
variable {P:Program} {E:Env} {β:Type} {r:β}
theorem mapM_run {w:World} {tmps:Array Value} {a:Act} (ha:a.tmps=tmps):∀ {l:List ResultVar} {vals:List Value},ResVals P a w l vals->(l.mapM (resSem tmps)).run P w=.ok vals w
 |[],vals,h=>by
  simp only[ResVals] at h
  subst h
  rw[List.mapM_nil]
  rfl
 |x::l,vals,h=>by
  simp only[ResVals] at h
  obtain⟨v,vs',rfl,h1,h2⟩:=h
  rw[ha] at h1
  rw[List.mapM_cons,ZT,h1]
  simp only[]
  rw[ZT,mapM_run ha h2]
  rfl
theorem results_run {w:World} {a:Act} {fn:Func} {vals:List Value} (h:ResVals P a w fn.results.toList vals):(results fn a.tmps).run P w=.ok (packV vals) w:=by
 have e:results fn a.tmps=(do let vs <- fn.results.mapM (resSem a.tmps);pure (if h:vs.size=1 then vs[0] else .tuple vs):Sem Value):=rfl
 rw[e,Array.mapM_eq_mapM_toList,ZT]
 have:(List.toArray <$> fn.results.toList.mapM (resSem a.tmps):Sem (Array Value))=(do let l <- fn.results.toList.mapM (resSem a.tmps);pure l.toArray:Sem (Array Value)):=by
  rw[map_eq_pure_bind]
 rw[this,ZT,mapM_run rfl h]
 simp only[ZM]
 congr 1
 match vals with
 |[]=>rfl
 |[v]=>rfl
 |_::_::_=>rfl
theorem flatMap_mem {ns:List Nw} {i:Nat} {x:Nw} (h:ns[i]? = some x):∀ b∈x.fp,b∈ns.flatMap (·.fp):=λb hb=>List.mem_flatMap.mpr ⟨x,List.mem_of_getElem? h,hb⟩
theorem flatMap_apart:∀ {ns:List Nw},(ns.flatMap (·.fp)).Nodup->(∀ (i:Nat) (x:Nw),ns[i]? = some x->x.fp.Nodup)/\∀ (i j:Nat) (x y:Nw),i≠j->ns[i]? = some x->ns[j]? = some y->∀ b∈x.fp,b∉y.fp
 |[],_=>by simp
 |n::ns,h=>by
  rw[List.flatMap_cons] at h
  obtain⟨h1,h2,h3⟩:=List.nodup_append.mp h
  obtain⟨q1,q2⟩:=flatMap_apart h2
  refine⟨λi x hx=>?_,λi j x y hne hx hy b hb hb'=>?_⟩
  ·cases i with
   |zero=>simp at hx;subst hx;exact h1
   |succ i=>exact q1 i x (by simpa using hx)
  ·cases i with
   |zero=>
    simp at hx;subst hx
    cases j with
    |zero=>exact hne rfl
    |succ j=>exact h3 b hb b (flatMap_mem (i:=j) (by simpa using hy) b hb') rfl
   |succ i=>
    cases j with
    |zero=>
     simp at hy;subst hy
     exact h3 b hb' b (flatMap_mem (i:=i) (by simpa using hx) b hb) rfl
    |succ j=>exact q2 i j x y (by omega) (by simpa using hx) (by simpa using hy) b hb hb'
theorem fun_sound (hmix:P.follows .mixedOrders=true) (hT:Zar P) (hE:EnvOK P E) {f:FuncId} {fn:Func} {c:Code} (hf:P.funcs[f]? = some fn) (hb:fn.body=some c) {e:Zj} {h:Hints} {k:Nat} {as:List A} {K:List (List C)->List Out->Option β}
  (hms:ZbH P e.modes (fn.params.toList++List.replicate fn.nfree 0)=true) (hrts:e.rts=fn.resultTypes.toList) (hal:e.al=h.al) (how:e.ow=h.ow) (hh:funDen P E h k fn as K=some r):
  ∀ (w:World) (I Q:Nat->Prop) (vs:List Value) (F:List Nat),ZO P w I Q as e.modes vs F->F.Nodup->(∀ b∈F,¬ I b/\b<w.heap.size)->(∀ b,I b->b<w.heap.size)->
   Calls P f vs.toArray w λex w'=>∃ rs os,K rs os=some r/\Z2 as os/\CPost P e as w I Q vs F rs os ex w':=by
 intro w I Q vs F hargs hnd hFI hIlt
 unfold funDen at hh
 rw[hb] at hh
 simp only[] at hh
 split at hh
 case h_1=>cases hh
 rename_i l st hinit
 let X:Fix:=⟨w.heap.size,F,avOf vs,I,λb=>h.ow=true/\Q b⟩
 have hpre:h.ow=true->∀ b,Q b->X.new b:=λq b hb=>.inr ⟨q,hb⟩
 have hav:AvOk X 0 vs:=avOf_ok rfl
 obtain⟨ns,hst,hFns,hin,hrel⟩:=Zbu (X:=X) hpre hinit hargs hms hav
 have hob:st.ob=ns.map (·.ob):=by rw[hst];simp
 let g0:G:=⟨I,λid=>id<ns.length,λid=>(ns.map (·.fp)).getD id [],λid=>(ns.map (·.hv)).getD id undef,λid=>(ns.map (·.sz)).getD id 0⟩
 have hat:∀ (id:Nat) (x:Nw),ns[id]? = some x->g0.fp id=x.fp/\g0.hv id=x.hv/\g0.sz id=x.sz:=by
  intro id x hx
  simp[g0,List.getD,hx]
 have hget:∀ id,g0.B id->∃ x,ns[id]? = some x:=λid hid=>⟨ns[id],by simp[show id<ns.length from hid]⟩
 obtain⟨hap1,hap2⟩:=flatMap_apart (hFns.nodup_iff.mp hnd)
 have hN0:NwAt X (λb=>I b/\Q b) h.ow g0 0 ns:=⟨λj x hx=>⟨by simpa[g0] using(List.getElem?_eq_some_iff.mp hx).1,by simpa using(hat j x hx).2.1⟩,λb hb=>⟨hb.1,λq=>hpre q b hb.2⟩⟩
 obtain⟨hll,hlr⟩:=hrel g0 hN0 (λb hb=>⟨hb,by simp⟩)
 have hr0:Rel P X w g0 ⟨l++List.replicate (fn.ntmps-l.length) .undef,st.ob⟩ { tmps:=vs.toArray++Array.replicate (fn.ntmps-vs.toArray.size) undef,defers:=[] }:=by
  refine⟨⟨by simp[hll],λi t ht=>?_⟩,λid hB=>?_,⟨λid hB=>?_,λid id' hB hB' hne b hb=>?_,λid hB b hb=>?_,hIlt,λb hb=>.inl hb,λb hb=>hb⟩,rfl⟩
  ·simp only[] at ht
   rcases Nat.lt_or_ge i l.length with q|q
   ·rw[List.getElem?_append_left q] at ht
    obtain⟨v,hv,rv⟩:=hlr i t ht
    refine⟨v,?_,rv⟩
    rw[Array.getElem?_append_left (by simp;omega)]
    simpa using hv
   ·rw[List.getElem?_append_right q] at ht
    have hlt:=(List.getElem?_eq_some_iff.mp ht).1
    simp at hlt
    simp[List.getElem?_replicate] at ht
    obtain⟨_,rfl⟩:=ht
    refine⟨undef,?_,by simp[Zb]⟩
    rw[Array.getElem?_append_right (by simp;omega)]
    simp[Array.getElem?_replicate]
    omega
  ·obtain⟨x,hx⟩:=hget id hB
   obtain⟨a1,a2,a3⟩:=hat id x hx
   rcases hin x (List.mem_of_getElem? hx) with⟨m,ct,xs,q1,q2,q2',q3,q4⟩|⟨m,tt,l0,b,c,e,q1,q2,q3,q4,q5,q6⟩
   ·refine⟨x.ob,by simp only[hob];rw[List.getElem?_map,hx];rfl,?_⟩
    rw[q1]
    simp only[Zn]
    rw[a1,a2,a3]
    exact⟨⟨OwC.weaken (λb hb=>⟨hb.1,λq=>hpre q b hb.2⟩) q2,q3⟩,q2',λj hj=>q4 j hj⟩
   ·refine⟨x.ob,by simp only[hob];rw[List.getElem?_map,hx];rfl,?_⟩
    rw[q1]
    simp only[Zn]
    rw[a1,a2]
    exact⟨⟨b,c,e,q2,q3,q4,q5 g0 hN0⟩,λj hj=>by injection hj with hj;subst hj;exact q6⟩
  ·obtain⟨x,hx⟩:=hget id hB
   rw[(hat id x hx).1];exact hap1 id x hx
  ·obtain⟨x,hx⟩:=hget id hB
   obtain⟨y,hy⟩:=hget id' hB'
   rw[(hat id x hx).1] at hb
   rw[(hat id' y hy).1]
   exact hap2 id id' x y hne hx hy b hb
  ·obtain⟨x,hx⟩:=hget id hB
   rw[(hat id x hx).1] at hb
   have hbF:b∈F:=hFns.mem_iff.mpr (flatMap_mem hx b hb)
   exact⟨(hFI b hbF).1,(hFI b hbF).2,.inr hbF⟩
 have hf0:ZaC g0 ⟨l++List.replicate (fn.ntmps-l.length) .undef,st.ob⟩:=λid hid=>by
  simp only[hob,List.length_map] at hid
  exact hid
 have hs0:Zac X w w:=⟨rfl,rfl,rfl,Nat.le_refl _,Nat.le_refl _,λ_ _ _=>rfl⟩
 refine calls_of_wp hf hb (den_sound hmix hT hE X w c hh g0 _ w hr0 hf0 hs0 _ λex st' g' w' a' hk hr' hf' hs'=>?_)
 have key:∀ {g':G} {st':St},Rel P X w' g' st' a'->ZaC g' st'->∀ (_:(match resOf P st' h.ra fn.resultTypes.toList fn.results.toList with
  |none=>none
  |some (f,rs,st'')=>
   match Zb0 P h.lo st'' 0 (fn.params.toList++List.replicate fn.nfree 0) as with
   |some (os,_)=>bif h.al||(f&&(!h.ow||freshOuts st'')) then K rs os else none
   |none=>none)=some r),a'.defers=[]/\∃ v,(results fn a'.tmps).run P w'=.ok v w'/\∃ rs os,K rs os=some r/\Z2 as os/\CPost P e as w I Q vs F rs os (.returned v) w':=by
  intro g' st' hr' hf' hk
  split at hk
  case h_1=>cases hk
  rename_i ff rs st1 h2
  split at hk
  case h_2=>cases hk
  rename_i os st2 h1
  cases hbf:(h.al||(ff&&(!h.ow||freshOuts st1))) with
  |false=>rw[hbf] at hk;simp at hk
  |true=>
   rw[hbf] at hk
   simp only[cond_true] at hk
   obtain⟨g3,Fr,vals,z1,z2,z3,z4,z5,z6,z7⟩:=resOf_sound (Z:=[]) hT hs' h2 hr' hf' ⟨by simp,by simp⟩
   have hkeeps:Keeps w w' I g3.I:=⟨λb hb=>z1.sep.keep b hb,λb hb=>hs'.block b (hIlt b hb) (λq=>(hFI b q).1 hb)⟩
   obtain⟨g2,Fo,q1,q2,q3,q4,q5,q6⟩:=ZaD (Q:=Q) (Qo:=λb=>e.al=false->e.ow=true->w.heap.size<=b\/Q b) (ff:=!h.al&&h.ow) hkeeps (λb hb _ _=>.inr hb) (λb hb ha ho=>by
    rcases hb (by rw[<- hal,<- how,ha,ho];rfl) with q|q
    ·exact .inl q
    ·exact .inr q.2) (Z:=[]++Fr) h1 (λhff=>freshM_of (by
    simp only[Bool.and_eq_true,Bool.not_eq_true'] at hff
    rw[hff.1,hff.2] at hbf
    simp at hbf
    exact hbf.2)) rfl z1 z7 z2 hargs hms hav (ZcQ hinit)
   refine⟨hr'.def_,packV vals,results_run z3,rs,os,hk,q6,packV vals,vals,g3.I,Fr,Fo,rfl,rfl,hs'.size,hs'.os,hs'.tape,hs'.output,λb h1 h2=>hs'.block b h1 h2,λb hb=>z1.sep.keep b hb,λb hb=>⟨z1.sep.imm b hb,z1.sep.old b hb⟩,?_,λb hb=>?_,q5,?_,λha b hb=>?_⟩
   ·have:=q4.nodup
    rwa[List.nil_append] at this
   ·obtain⟨o1,_,o3,o4⟩:=q4.off b (by rw[List.nil_append];exact hb)
    exact⟨by rw[<- q1];exact o1,o3,λhlt=>o4.resolve_left (Nat.not_le.mpr hlt)⟩
   ·rw[hrts]
    refine ZaO.weaken (λb hb=>⟨hb.1,λha=>?_⟩) z4
    rw[hal] at ha
    rw[ha] at hbf
    rcases hb.2 (by simp at hbf;exact hbf.1) with q|q
    ·exact .inl q
    ·exact .inr ⟨how.trans q.1,q.2⟩
   ·rw[hal] at ha
    rw[ha] at hbf
    rcases z5 (by simp at hbf;exact hbf.1) b hb with q|q
    ·exact .inl q
    ·exact .inr ⟨how.trans q.1,q.2⟩
 cases ex with
 |exit i=>simp[finDen] at hk
 |normal=>
  obtain⟨g2,s2,h1,h2,h3⟩:=subRes_sound hT hs' hk hr' hf'
  exact key h2 h3 h1
 |ret=>
  obtain⟨g2,s2,h1,h2,h3⟩:=subRes_sound hT hs' hk hr' hf'
  exact key h2 h3 h1
end
end Go.T
