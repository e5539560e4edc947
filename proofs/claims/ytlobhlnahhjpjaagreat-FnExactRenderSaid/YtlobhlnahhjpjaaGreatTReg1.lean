/- Regions in the text's order. -/
import Derived.Test.YtlobhlnahhjpjaaGreatTCall6
set_option linter.unusedVariables false
set_option linter.unusedSimpArgs false
namespace Go.T
theorem Rel.pad {P:Program} {X:Fix} {w:World} {g:G} {st:St} {a:Act} (h:Rel P X w g st a) (m:Nat):Rel P X w g (st.pad m) a:=by
 refine⟨h.tms,λid hB=>?_,h.sep,h.def_⟩
 obtain⟨o,ho,r⟩:=h.obs id hB
 refine⟨o,?_,r⟩
 simp only[St.pad]
 rw[List.getElem?_append_left (List.getElem?_eq_some_iff.mp ho).1]
 exact ho
theorem setNews_pad:∀ (news ob:List Obj) (m:Nat),news.length<=m->Zbm (ob++List.replicate m Obj.gone) ob.length news=ob++news++List.replicate (m-news.length) Obj.gone
 |[],ob,m,_=>by simp[Zbm]
 |o::os,ob,0,h=>by simp at h
 |o::os,ob,m+1,h=>by
  show Zbm ((ob++List.replicate (m+1) Obj.gone).set ob.length o) (ob.length+1) os=_
  have e:(ob++List.replicate (m+1) Obj.gone).set ob.length o=(ob++[o])++List.replicate m Obj.gone:=by
   rw[List.set_append_right _ _ (Nat.le_refl _)]
   simp[List.replicate_succ]
  rw[e]
  have:=setNews_pad os (ob++[o]) m (by simpa using h)
  rw[List.length_append,List.length_singleton] at this
  rw[this]
  simp
theorem put_pad (st:St) (dst:Option Nat) (t:T) (m:Nat):(st.put dst t).pad m=(st.pad m).put dst t:=by cases dst<;>rfl
theorem eff_pad {st:St} {dst:Option Nat} {e:Eff} {m:Nat} (hc:∀ p∈e.chg,p.1<st.ob.length) (hm:e.news.length<=m):(st.pad m).eff dst st.ob.length e=(st.app dst e).pad (m-e.news.length):=by
 simp only[St.eff,St.app]
 rw[put_pad]
 congr 1
 simp only[St.pad]
 congr 1
 rw[ZbO _ _ _ hc]
 have:=setNews_pad e.news (ZG st.ob e.chg) m hm
 rw[Zx] at this
 exact this
theorem Zh.born {X:Fix} {w:World} {g:G}:∀ {ts:List T} {vs:List Value},Zh X w g ts vs->∀ id∈Zo ts,g.B id
 |[],_,_,id,h=>by simp[Zo] at h
 |t::ts,vs,r,id,h=>by
  simp only[Zh] at r
  obtain⟨v,vs',rfl,_,r1,r2⟩:=r
  simp only[Zo,List.flatMap_cons,List.mem_append] at h
  rcases h with h|h
  ·split at h
   ·simp at h;subst h
    simp only[Zb] at r1
    exact r1.1
   ·cases h
  ·exact Zh.born r2 id h
theorem look_born {P:Program} {X:Fix} {w:World} {g:G} {stL st:St} {a:Act} (hr:Rel P X w g stL a) {t:T} {v:Value} (r:Zb X w g t v) (hag:∀ id∈ZE st t,(st.ob[id]?).isSome->stL.ob[id]? = st.ob[id]?):
  ∀ id∈ZE st t,g.B id:=by
 intro id hid
 cases t with
 |row i=>simp[ZE] at hid;subst hid;simp only[Zb] at r;exact r.1
 |ep i j off=>simp[ZE] at hid;subst hid;simp only[Zb] at r;exact r.1
 |sub i j off=>simp[ZE] at hid;subst hid;simp only[Zb] at r;exact r.1
 |bp i off=>simp[ZE] at hid;subst hid;simp only[Zb] at r;exact r.1
 |agg ts=>
  rw[lookT_agg] at hid
  simp only[Zb] at r
  obtain⟨cs,_,rs⟩:=r
  exact rs.born id hid
 |clo f ts=>
  rw[Zcv] at hid hag
  simp only[Zb] at r
  obtain⟨vs,_,rs⟩:=r
  obtain⟨t,ht,hid⟩:=List.mem_flatMap.mp hid
  obtain⟨j,hj,rfl⟩:=List.mem_iff_getElem.mp ht
  obtain⟨_,u,_,ru⟩:=Zh.get rs (i:=j) (t:=ts[j]) (by simp[hj])
  unfold ZaE at hid
  split at hid
  ·rename_i i off he
   rw[he] at ru
   simp only[Zb] at ru
   have hag':∀ i∈ZaE st ts[j],(st.ob[i]?).isSome->stL.ob[i]? = st.ob[i]?:=λi hi=>hag i (List.mem_flatMap.mpr ⟨ts[j],ht,hi⟩)
   rw[he] at hag'
   split at hid
   ·rename_i og bt cs ho
    rcases List.mem_cons.mp hid with rfl|hid
    ·exact ru.1
    ·have hL:=hag' i (by simp[ZaE,ho]) (by rw[ho];rfl)
     obtain⟨o,ho',ro⟩:=hr.obs i ru.1
     rw[hL,ho] at ho'
     injection ho' with ho'
     subst ho'
     simp only[Zn] at ro
     obtain⟨⟨b,c,e,_,_,_,rc⟩,_⟩:=ro
     exact rc.born id hid
   ·simp at hid;subst hid;exact ru.1
  ·cases hid
 |_=>simp[ZE] at hid
theorem put_same {st:St} {d:Nat} {t:T} (h:st.tm.getD d .any=t) (hn:t≠.any):st.put (some d) t=st:=by
 have hl:d<st.tm.length:=by
  rcases Nat.lt_or_ge d st.tm.length with q|q
  ·exact q
  ·exfalso
   apply hn
   rw[<- h]
   simp[List.getD,q]
 have:st.tm[d]=t:=by simpa[List.getD,hl] using h
 obtain⟨tm,ob⟩:=st
 show St.mk (tm.set d t) ob=_
 congr 1
 rw[<- this]
 exact List.set_getElem_self hl
theorem ZbN {P:Program} {X:Fix} {w:World} {g:G} {st:St} {a:Act} {ops:Array Oper} {o:Oper} {j d:Nat} {want f b:Bool} (hr:Rel P X w g st a) (hg:o.guard=some (j,want)) (hd:(ops[j]?).bind (·.dst)=some d)
  (ht:st.tm.getD d .any=.d f (.bool b)):Region.wanted o (yielded ops a.tmps)=(b==want):=by
 have hs:st.tm[d]? = some (.d f (.bool b)):=by
  rw[List.getD_eq_getElem?_getD] at ht
  cases h:st.tm[d]? with
  |none=>rw[h] at ht;simp at ht
  |some t=>rw[h] at ht;simpa using ht
 obtain⟨v,hv,rv⟩:=hr.tms.2 d _ hs
 have:=Zb.scal_eq (d:=.bool b) rfl rv
 subst this
 have hy:yielded ops a.tmps j=some b:=by
  unfold yielded
  rw[hd]
  simp[hv,Zav]
 unfold Region.wanted
 rw[hg]
 simp[hy]
theorem wanted_undef {P:Program} {X:Fix} {w:World} {g:G} {st:St} {a:Act} {ops:Array Oper} {o:Oper} {j d:Nat} {want:Bool} (hr:Rel P X w g st a) (hg:o.guard=some (j,want)) (hd:(ops[j]?).bind (·.dst)=some d)
  (ht:st.tm.getD d .any=.undef):Region.wanted o (yielded ops a.tmps)=false:=by
 have hs:st.tm[d]? = some .undef:=by
  rw[List.getD_eq_getElem?_getD] at ht
  cases h:st.tm[d]? with
  |none=>rw[h] at ht;simp at ht
  |some t=>rw[h] at ht;simpa using ht
 obtain⟨v,hv,rv⟩:=hr.tms.2 d _ hs
 simp only[Zb] at rv
 subst rv
 have hy:yielded ops a.tmps j=none:=by
  unfold yielded
  rw[hd]
  simp[hv,Go.undef]
 unfold Region.wanted
 rw[hg]
 simp[hy]
theorem wanted_none {o:Oper} {y:Nat->Option Bool} (hg:o.guard=none):Region.wanted o y=true:=by
 unfold Region.wanted;rw[hg]
def ZaC (g:G) (st:St):Prop:=∀ id,id<st.ob.length->g.B id
theorem app_len (st:St) (dst:Option Nat) (e:Eff):(st.app dst e).ob.length=st.ob.length+e.news.length:=by
 simp only[St.app,put_ob,List.length_append,Zx]
theorem ZaC.put {g:G} {st:St} (h:ZaC g st) (dst:Option Nat) (t:T):ZaC g (st.put dst t):=by
 intro id hid
 rw[put_ob] at hid
 exact h id hid
section
variable {P:Program} {E:Env} {β:Type} {r:β}
theorem lookA_born {P:Program} {X:Fix} {w:World} {g:G} {stL st:St} {a:Act} (hr:Rel P X w g stL a) {t:T} {v:Value} (r:Zb X w g t v) (hag:∀ id∈ZaB st t,(st.ob[id]?).isSome->stL.ob[id]? = st.ob[id]?):
  ∀ id∈ZaB st t,g.B id:=by
 intro id hid
 have hag':∀ i∈ZE st t,(st.ob[i]?).isSome->stL.ob[i]? = st.ob[i]?:=λi hi=>hag i (List.mem_append_left _ hi)
 unfold ZaB at hid
 rcases List.mem_append.mp hid with hid|hid
 ·exact look_born hr r hag' id hid
 ·split at hid
  ·rename_i i off hx
   split at hid
   ·rename_i og bt cs ho
    simp only[Zb] at r
    obtain⟨o,ho',ro⟩:=hr.obs i r.1
    rw[hag' i (by simp[ZE]) (by rw[ho];rfl),ho] at ho'
    injection ho' with ho'
    subst ho'
    simp only[Zn] at ro
    obtain⟨⟨b,c,e,_,_,_,rc⟩,_⟩:=ro
    exact rc.born id (by rw[rowsOf_ids];exact hid)
   ·cases hid
  ·cases hid
theorem seq_step {o:Oper} {st:St} {k:St->Option β} (h:ZD P E o st k r):∃ st',k st'=some r/\∀ (X:Fix) (w0:World) (g:G) (a:Act) (w:World),Rel P X w g st a->ZaC g st->Zac X w0 w->
  ∀ (K:Act->World->Prop) (Q:Exit->Act->World->Prop),(∀ g' w' a',Rel P X w' g' st' a'->ZaC g' st'->Zac X w0 w'->K a' w')->o.wp P a w K Q:=by
 obtain⟨e,hk,hc,_,hok⟩:=h
 refine⟨st.app o.dst e,hk,λX w0 g a w hr hf hs K Q hK=>?_⟩
 have hag:∀ id:Nat,(st.ob[id]?).isSome->(st.pad e.news.length).ob[id]? = st.ob[id]?:=by
  intro id hid
  obtain⟨o,ho⟩:=Option.isSome_iff_exists.mp hid
  simp only[St.pad]
  rw[List.getElem?_append_left (List.getElem?_eq_some_iff.mp ho).1]
 have hrp:=hr.pad e.news.length
 refine hok X w0 (st.pad e.news.length) g a w hrp hs (λx hx=>.inl rfl) (λid hid hsome=>⟨hag id hsome,?_⟩) (λj hj=>⟨?_,λhB=>?_⟩) K Q (λg' w' a' hr' hs' hB'=>?_)
 ·obtain⟨x,hx,hid⟩:=List.mem_flatMap.mp hid
  exact lookA_born hrp (hr.ev x) (λi _ hi=>hag i hi) id (lookB_sub hid)
 ·simp only[St.pad]
  rw[List.getElem?_append_right (by omega)]
  simp[hj]
 ·obtain⟨o,ho,_⟩:=hr.obs _ hB
  have:=(List.getElem?_eq_some_iff.mp ho).1
  omega
 ·rw[eff_pad hc (Nat.le_refl _)] at hr'
  simp only[Nat.sub_self,St.pad,List.replicate_zero,List.append_nil] at hr'
  refine hK g' w' a' hr' (λid hid=>?_) hs'
  rw[app_len] at hid
  rw[hB']
  rcases Nat.lt_or_ge id st.ob.length with q|q
  ·exact .inl (hf id q)
  ·exact .inr ⟨q,hid⟩
theorem ops_sound (hT:Zar P) (hE:EnvOK P E) {ops:Array Oper}:∀ {l:List Oper} {st:St} {k:St->Option β},Zb9 P E ops l st k=some r->
  ∃ st',k st'=some r/\∀ (X:Fix) (w0:World) (g:G) (a:Act) (w:World),Rel P X w g st a->ZaC g st->Zac X w0 w->∀ (Q:Exit->Act->World->Prop),(∀ g' w' a',Rel P X w' g' st' a'->ZaC g' st'->Zac X w0 w'->Q .normal a' w')->wpList P ops Q l a w
 |[],st,k,h=>by
  simp only[Zb9] at h
  exact⟨st,h,λX w0 g a w hr hf hs Q hQ=>hQ g w a hr hf hs⟩
 |o::l,st,k,h=>by
  have run:∀ (_:ZL P E o st (λst'=>Zb9 P E ops l st' k)=some r) (hw:∀ (X:Fix) (w:World) (g:G) (a:Act),Rel P X w g st a->Region.wanted o (yielded ops a.tmps)=true),
    ∃ st',k st'=some r/\∀ (X:Fix) (w0:World) (g:G) (a:Act) (w:World),Rel P X w g st a->ZaC g st->Zac X w0 w->∀ (Q:Exit->Act->World->Prop),(∀ g' w' a',Rel P X w' g' st' a'->ZaC g' st'->Zac X w0 w'->Q .normal a' w')->wpList P ops Q (o::l) a w:=by
   intro h hw
   obtain⟨st1,h1,s1⟩:=seq_step (op_sound hT hE h)
   obtain⟨st2,h2,s2⟩:=ops_sound hT hE h1
   refine⟨st2,h2,λX w0 g a w hr hf hs Q hQ=>wpList_step λK hK=>?_⟩
   rw[if_pos (hw X w g a hr)]
   exact s1 X w0 g a w hr hf hs K Q λg' w' a' hr' hf' hs'=>hK _ _ (s2 X w0 g' a' w' hr' hf' hs' Q hQ)
  have skip:∀ (_:Zb9 P E ops l (st.put o.dst .undef) k=some r) (hw:∀ (X:Fix) (w:World) (g:G) (a:Act),Rel P X w g st a->Region.wanted o (yielded ops a.tmps)=false),
    ∃ st',k st'=some r/\∀ (X:Fix) (w0:World) (g:G) (a:Act) (w:World),Rel P X w g st a->ZaC g st->Zac X w0 w->∀ (Q:Exit->Act->World->Prop),(∀ g' w' a',Rel P X w' g' st' a'->ZaC g' st'->Zac X w0 w'->Q .normal a' w')->wpList P ops Q (o::l) a w:=by
   intro h hw
   obtain⟨st2,h2,s2⟩:=ops_sound hT hE h
   refine⟨st2,h2,λX w0 g a w hr hf hs Q hQ=>wpList_step λK hK=>?_⟩
   rw[if_neg (by rw[hw X w g a hr];simp)]
   exact hK _ _ (s2 X w0 g _ w (hr.put o.dst (by simp[Zb])) (hf.put _ _) hs Q hQ)
  simp only[Zb9] at h
  split at h
  ·rename_i hg
   exact run h λX w g a hr=>wanted_none hg
  ·rename_i j want hg
   split at h
   case h_1=>cases h
   rename_i d hd
   split at h
   ·rename_i f b ht
    cases b with
    |true=>
     rw[put_same ht (by simp)] at h
     cases want with
     |true=>exact run h λX w g a hr=>by rw[ZbN hr hg hd ht];rfl
     |false=>exact skip h λX w g a hr=>by rw[ZbN hr hg hd ht];rfl
    |false=>
     rw[put_same ht (by simp)] at h
     cases want with
     |true=>exact skip h λX w g a hr=>by rw[ZbN hr hg hd ht];rfl
     |false=>exact run h λX w g a hr=>by rw[ZbN hr hg hd ht];rfl
   ·rename_i ht
    exact skip h λX w g a hr=>wanted_undef hr hg hd ht
   ·cases h
theorem region_seq (hT:Zar P) (hE:EnvOK P E) {ops:Array Oper} {id:Nat} {st:St} {k:St->Option β} (h:Zb9 P E ops ops.toList st k=some r):
  ∃ st',k st'=some r/\∀ (X:Fix) (w0:World) (g:G) (a:Act) (w:World),Rel P X w g st a->ZaC g st->Zac X w0 w->∀ (Q:Exit->Act->World->Prop),(∀ g' w' a',Rel P X w' g' st' a'->ZaC g' st'->Zac X w0 w'->Q .normal a' w')->(Code.region id ops false).wp P Q a w:=by
 obtain⟨st',h1,s1⟩:=ops_sound hT hE h
 exact⟨st',h1,λX w0 g a w hr hf hs Q hQ=>wp_region_list (s1 X w0 g a w hr hf hs Q hQ)⟩
end
end Go.T
