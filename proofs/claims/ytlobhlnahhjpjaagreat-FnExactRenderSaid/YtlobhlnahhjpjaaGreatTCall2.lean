/- Calls: what is lent,in memory,and what comes back. -/
import Derived.Test.YtlobhlnahhjpjaaGreatTCall1
set_option linter.unusedVariables false
set_option linter.unusedSimpArgs false
namespace Go.T
theorem Zh.ofCells {X:Fix} {w:World} {g:G} {I:Nat->Prop} {fr:Bool} (hI:∀ b,I b->g.IM X fr b):∀ {xs:List D} {cs:List Value} {c:Array Value} {p:Nat},cs.length=xs.length->(∀ (j:Nat) (v:Value),cs[j]? = some v->c[p+j]? = some v)->Zi w I c p xs->Zh X w g (xs.map (.d fr)) cs
 |[],[],c,p,_,_,_=>by simp[Zh]
 |[],_::_,_,_,h,_,_=>by simp at h
 |_::_,[],_,_,h,_,_=>by simp at h
 |x::xs,v::cs,c,p,hl,hc,r=>by
  simp only[Zi] at r
  obtain⟨⟨u,hu,ru⟩,r2⟩:=r
  have:=hc 0 v (by simp)
  rw[Nat.add_zero,hu] at this
  injection this with this
  subst this
  simp only[List.map_cons,Zh]
  refine⟨u,cs,rfl,rfl,by simp only[Zb];exact RdD.weaken hI ru,Zh.ofCells hI (c:=c) (p:=p+1) (by simpa using hl) (λj z hz=>?_) r2⟩
  have:=hc (j+1) z (by simpa using hz)
  rwa[show p+(j+1)=p+1+j from by omega] at this
structure Nw where
 ob:Obj
 fp:List Nat
 hv:Value
 sz:Nat
def NwRow (P:Program) (w:World) (I:Nat->Prop) (fr:Bool) (n:Nw):Prop:=∃ ct xs,n.ob=.row none fr ct xs/\OwC P w I (.own xs) ct n.hv n.fp/\n.sz=Zl P ct
def NwOk (P:Program) (w:World) (I:Nat->Prop) (fr:Bool) (n:Nw):Prop:=NwRow P w I fr n\/∃ t ds,n.ob=.box none t (ds.map (.d fr))/\BoxRel w I ds n.hv n.fp
def NwAt (X:Fix) (I:Nat->Prop) (fr:Bool) (g:G) (n:Nat) (ns:List Nw):Prop:=(∀ (j:Nat) (x:Nw),ns[j]? = some x->g.B (n+j)/\g.hv (n+j)=x.hv)/\∀ b,I b->g.IM X fr b
theorem bornC_syn {P:Program} {fr:Bool}:∀ {cts:List TypeId} {cs:List C} {st st':St} {ts:List T},bornC P fr st cts cs=some (ts,st')->∃ news,st'=⟨st.tm,st.ob++news⟩
 |ct::cts,.d x::cs,st,st',ts,h=>by
  simp only[bornC] at h
  split at h
  case h_2=>cases h
  rename_i ts1 st1 h1
  injection h with h;injection h with e1 e2;subst e1 e2
  exact bornC_syn h1
 |ct::cts,.own xs::cs,st,st',ts,h=>by
  simp only[bornC] at h
  split at h
  case h_2=>cases h
  rename_i ts1 st1 h1
  injection h with h;injection h with e1 e2;subst e1 e2
  obtain⟨news,rfl⟩:=bornC_syn h1
  exact⟨_::news,by simp[St.newOb];rfl⟩
 |[],[],st,st',ts,h=>by
  simp only[bornC] at h
  injection h with h;injection h with e1 e2;subst e1 e2
  exact⟨[],by simp⟩
 |_::_,[],_,_,_,h=>by simp[bornC] at h
 |[],_::_,_,_,_,h=>by simp[bornC] at h
theorem Zci {P:Program} {X:Fix} {w:World} {I:Nat->Prop} {fr:Bool} {c:Array Value}:∀ {cts:List TypeId} {cs:List C} {st st':St} {ts:List T} {p:Nat} {F:List Nat},bornC P fr st cts cs=some (ts,st')->Za P w I c cs cts p F->
  ∃ ns:List Nw,st'=⟨st.tm,st.ob++ns.map (·.ob)⟩/\F=ns.flatMap (·.fp)/\(∀ x∈ns,NwRow P w I fr x)/\∀ g:G,NwAt X I fr g st.ob.length ns->∃ vs,Zh X w g ts vs/\vs.length=cs.length/\∀ (j:Nat) (v:Value),vs[j]? = some v->c[p+j]? = some v
 |ct::cts,.d x::cs,st,st',ts,p,F,h,r=>by
  simp only[bornC] at h
  split at h
  case h_2=>cases h
  rename_i ts1 st1 h1
  injection h with h;injection h with e1 e2;subst e1 e2
  simp only[Za] at r
  obtain⟨ct',cts',v,F1,F2,e,rfl,hv,r1,r2⟩:=r
  injection e with e1 e2;subst e1 e2
  simp only[OwC] at r1
  obtain⟨rfl,r1⟩:=r1
  obtain⟨ns,a1,a2,a3,a4⟩:=Zci h1 r2
  refine⟨ns,a1,by simpa using a2,a3,λg hg=>?_⟩
  obtain⟨vs,b1,b2,b3⟩:=a4 g hg
  refine⟨v::vs,?_,by simp[b2],λj u hu=>?_⟩
  ·simp only[Zh]
   exact⟨v,vs,rfl,rfl,by simp only[Zb];exact RdD.weaken hg.2 r1,b1⟩
  ·cases j with
   |zero=>simp at hu;subst hu;simpa using hv
   |succ j=>
    have:=b3 j u (by simpa using hu)
    rwa[show p+(j+1)=p+1+j from by omega]
 |ct::cts,.own xs::cs,st,st',ts,p,F,h,r=>by
  simp only[bornC] at h
  split at h
  case h_2=>cases h
  rename_i ts1 st1 h1
  injection h with h;injection h with e1 e2;subst e1 e2
  simp only[Za] at r
  obtain⟨ct',cts',v,F1,F2,e,rfl,hv,r1,r2⟩:=r
  injection e with e1 e2;subst e1 e2
  obtain⟨ns,a1,a2,a3,a4⟩:=Zci h1 r2
  refine⟨⟨.row none fr ct xs,F1,v,Zl P ct⟩::ns,by rw[a1];simp[St.newOb],by simp[a2],λx hx=>?_,λg hg=>?_⟩
  ·rcases List.mem_cons.mp hx with rfl|hx
   ·exact⟨ct,xs,rfl,r1,rfl⟩
   ·exact a3 x hx
  ·obtain⟨vs,b1,b2,b3⟩:=a4 g ⟨λj x hx=>by
    have:=hg.1 (j+1) x (by simpa using hx)
    simp only[St.newOb,List.length_append,List.length_singleton]
    rwa[show st.ob.length+1+j=st.ob.length+(j+1) from by omega],hg.2⟩
   obtain⟨hB,hh⟩:=hg.1 0 _ rfl
   refine⟨v::vs,?_,by simp[b2],λj u hu=>?_⟩
   ·simp only[Zh]
    exact⟨v,vs,rfl,rfl,by simp only[Zb];exact⟨by simpa using hB,by simpa using hh.symm⟩,b1⟩
   ·cases j with
    |zero=>simp at hu;subst hu;simpa using hv
    |succ j=>
     have:=b3 j u (by simpa using hu)
     rwa[show p+(j+1)=p+1+j from by omega]
 |[],[],st,st',ts,p,F,h,r=>by
  simp only[bornC] at h
  injection h with h;injection h with e1 e2;subst e1 e2
  simp only[Za] at r
  obtain⟨rfl,_⟩:=r
  exact⟨[],by simp,by simp,by simp,λg hg=>⟨[],by simp[Zh],rfl,by simp⟩⟩
 |_::_,[],_,_,_,_,_,h,_=>by simp[bornC] at h
 |[],_::_,_,_,_,_,_,h,_=>by simp[bornC] at h
def St.more (st:St) (news:List Obj):St:=⟨st.tm,st.ob++news⟩
theorem Zbg (ob:List Obj) (l1 l2:List (Nat×Obj)):ZG ob (l1++l2)=ZG (ZG ob l1) l2:=by
 simp[ZG,List.foldl_append]
theorem killAll_append (l1 l2:List (Nat×Obj)) (t:T):Zw (l1++l2) t=Zw l2 (Zw l1 t):=by
 simp[Zw,List.foldl_append]
theorem ZbO:∀ (l:List (Nat×Obj)) (ob news:List Obj),(∀ p∈l,p.1<ob.length)->ZG (ob++news) l=ZG ob l++news
 |[],_,_,_=>rfl
 |p::l,ob,news,h=>by
  show ZG ((ob++news).set p.1 p.2) l=ZG (ob.set p.1 p.2) l++news
  rw[List.set_append_left _ _ (h p (by simp))]
  exact ZbO l _ news (λq hq=>by simpa using h q (by simp[hq]))
theorem ZcC:∀ (mv:List Nat) (st:St),goneAll mv st=st.gones mv
 |[],st=>by rw[St.gones_nil];rfl
 |id::mv,st=>by rw[St.gones_cons];exact ZcC mv _
theorem St.more_nil (st:St):st.more []=st:=by simp[St.more]
theorem St.more_more (st:St) (a b:List Obj):(st.more a).more b=st.more (a++b):=by simp[St.more]
theorem St.sets_more {st:St} {l:List (Nat×Obj)} {news:List Obj} (h:∀ p∈l,p.1<st.ob.length):(st.sets l).more news=(st.more news).sets l:=by
 simp only[St.more,St.sets,ZbO _ _ _ h]
theorem St.setOb_more {st:St} {id:Nat} {o:Obj} {news:List Obj} (h:id<st.ob.length):(st.setOb id o).more news=(st.more news).setOb id o:=by
 simp only[St.more,St.setOb,List.set_append_left _ _ h]
theorem ob_lt {st:St} {id:Nat} {o:Obj} (h:st.ob[id]? = some o):id<st.ob.length:=(List.getElem?_eq_some_iff.mp h).1
theorem rowsOf_ids:∀ ts:List T,Zo ts=rowIds ts
 |[]=>rfl
 |t::ts=>by
  have ih:=rowsOf_ids ts
  simp only[Zo] at ih
  cases t<;>simp[Zo,rowIds,ih]
structure Ln where
 id:Nat
 kept:List Nat
 f:List Nat
structure Bk where
 id:Nat
 ob:Obj
 fp:List Nat
 kept:List Nat
 fo:List Nat
def BkOk (P:Program) (X:Fix) (fo fa:Bool) (st:St) (g:G) (w':World) (I' Q':Nat->Prop) (n:Nat) (nw:List Nw) (y:Bk):Prop:=
 y.fp.Perm (y.kept++y.fo)/\((∃ og ct xs fr ys fr',y.ob=.row og fr' ct xs/\(fr'=true->y.kept=[]/\(fo=true/\(∀ b∈y.fo,Q' b)\/fa=true/\flatC xs=true))/\st.ob[y.id]? = some (.row og fr ct ys)/\OwC P w' (λb=>I' b/\Q' b) (.own xs) ct (g.hv y.id) y.fp)\/
  (y.ob=.gone/\y.fp=[]/\∃ og fr ct ys,st.ob[y.id]? = some (.row og fr ct ys))\/
  ∃ og t cs l b c e,y.ob=.box og t l/\st.ob[y.id]? = some (.box og t cs)/\g.hv y.id=.pointer (some ⟨b,0,none⟩)/\y.fp=[b]/\w'.heap[b]? = some (.cells c e (0,0))/\∀ g2:G,NwAt X (λb=>I' b/\Q' b) fo g2 n nw->Zh X w' g2 l c.toList)
theorem NwAt.left {X:Fix} {I:Nat->Prop} {fr:Bool} {g:G} {n:Nat} {n1 n2:List Nw} (h:NwAt X I fr g n (n1++n2)):NwAt X I fr g n n1:=⟨λj x hx=>h.1 j x (by rw[List.getElem?_append_left (List.getElem?_eq_some_iff.mp hx).1];exact hx),h.2⟩
theorem NwAt.right {X:Fix} {I:Nat->Prop} {fr:Bool} {g:G} {n m:Nat} {n1 n2:List Nw} (hm:m=n+n1.length) (h:NwAt X I fr g n (n1++n2)):NwAt X I fr g m n2:=⟨λj x hx=>by
 have:=h.1 (n1.length+j) x (by rw[List.getElem?_append_right (by omega)];simpa using hx)
 rwa[show n+(n1.length+j)=m+j from by omega] at this,h.2⟩
theorem BkOk.shift {P:Program} {X:Fix} {fo fa:Bool} {st:St} {g:G} {w':World} {I' Q':Nat->Prop} {n m:Nat} {n1 n2:List Nw} {y:Bk} (hm:m=n+n1.length) (h:BkOk P X fo fa st g w' I' Q' m n2 y):BkOk P X fo fa st g w' I' Q' n (n1++n2) y:=by
 obtain⟨h1,h2⟩:=h
 refine⟨h1,?_⟩
 rcases h2 with h2|h2|⟨og,t,cs,l,b,c,e,q1,q2,q3,q4,q5,q6⟩
 ·exact .inl h2
 ·exact .inr (.inl h2)
 ·exact .inr (.inr ⟨og,t,cs,l,b,c,e,q1,q2,q3,q4,q5,λg2 hg=>q6 g2 (hg.right hm)⟩)
def ZbG (l:List Bk):List (Nat×Obj):=l.map λy=>(y.id,y.ob)
def ArgT (X:Fix) (w:World) (g:G) (J:Nat->Prop) (t:T) (v:Value):Prop:=Zb X w g t v\/∃ fr cs,t=.ip fr cs/\PtrRd w J cs v
def Zad (X:Fix) (w:World) (g:G) (J:Nat->Prop):List T->List Value->Prop
 |[],vs=>vs=[]
 |t::ts,vs=>∃ v vs',vs=v::vs'/\ArgT X w g J t v/\Zad X w g J ts vs'
section
variable {P:Program} {X:Fix} {w:World} {g:G} {stL st:St} {a:Act} {s:Bool} {J:Nat->Prop}
theorem ZaT {t:T} {ts:List T} (h:ZW g stL st (Zo (t::ts))):ZW g stL st (Zo [t])/\ZW g stL st (Zo ts):=
 ⟨h.sub λid hid=>by
   simp only[Zo,List.flatMap_cons,List.mem_append] at hid⊢
   exact .inl (by simpa using hid),
  h.sub λid hid=>by
   simp only[Zo,List.flatMap_cons,List.mem_append] at hid⊢
   exact .inr hid⟩
theorem ZaH.sound (hr:Rel P X w g stL a) {c:Array Value} {cts:List TypeId} {ts:List T} {cs:List C} {mv:List Nat} (h:ZaH st cts ts cs mv):∀ {vs:List Value} {p:Nat},ZW g stL st (Zo ts)->Zh X w g ts vs->(∀ (j:Nat) (v:Value),vs[j]? = some v->c[p+j]? = some v)->
  Za P w g.I c cs cts p (mv.flatMap g.fp)/\(∀ id∈mv,g.B id)/\cs.length=ts.length:=by
 induction h with
 |nil=>intro vs p hs r hc;simp[Za]
 |@row ct cts id og fr xs ts cs mv h r ih=>
  intro vs p hs rs hc
  simp only[Zh] at rs
  obtain⟨v,vs',rfl,_,r1,r2⟩:=rs
  obtain⟨hs1,hs2⟩:=ZaT hs
  obtain⟨_,hB,⟨row,_⟩,_⟩:=hs1.obj hr (by simp[Zo]) h
  obtain⟨i1,i2,i3⟩:=ih (p:=p+1) hs2 r2 (λj u hu=>by
   have:=hc (j+1) u (by simpa using hu)
   rwa[show p+1+j=p+(j+1) from by omega])
  simp only[Zb] at r1
  refine⟨?_,λi hi=>?_,by simp[i3]⟩
  ·simp only[Za]
   exact⟨ct,cts,v,g.fp id,mv.flatMap g.fp,rfl,by simp,by simpa using hc 0 v (by simp),by rw[r1.2];exact OwC.weaken (λb hb=>hb.1) row,i1⟩
  ·rcases List.mem_cons.mp hi with rfl|hi
   ·exact hB
   ·exact i2 i hi
 |@none ct cts ts cs mv r ih=>
  intro vs p hs rs hc
  simp only[Zh] at rs
  obtain⟨v,vs',rfl,_,r1,r2⟩:=rs
  obtain⟨hs1,hs2⟩:=ZaT hs
  obtain⟨i1,i2,i3⟩:=ih (p:=p+1) hs2 r2 (λj u hu=>by
   have:=hc (j+1) u (by simpa using hu)
   rwa[show p+1+j=p+(j+1) from by omega])
  simp only[Zb] at r1
  obtain⟨ad,rfl⟩:=r1
  refine⟨?_,i2,by simp[i3]⟩
  simp only[Za]
  exact⟨ct,cts,.slice ad 0 0,[],mv.flatMap g.fp,rfl,by simp,by simpa using hc 0 (.slice ad 0 0) (by simp),by simp[OwC],i1⟩
 |@dat ct cts f x ts cs mv r ih=>
  intro vs p hs rs hc
  simp only[Zh] at rs
  obtain⟨v,vs',rfl,_,r1,r2⟩:=rs
  obtain⟨hs1,hs2⟩:=ZaT hs
  obtain⟨i1,i2,i3⟩:=ih (p:=p+1) hs2 r2 (λj u hu=>by
   have:=hc (j+1) u (by simpa using hu)
   rwa[show p+1+j=p+(j+1) from by omega])
  simp only[Zb] at r1
  refine⟨?_,i2,by simp[i3]⟩
  simp only[Za]
  exact⟨ct,cts,v,[],mv.flatMap g.fp,rfl,by simp,by simpa using hc 0 _ (by simp),by simp only[OwC];exact⟨trivial,RdD.weaken (λb hb=>hb.1) r1⟩,i1⟩
theorem ZaH.soundF (hr:Rel P X w g stL a) {c:Array Value} {cts:List TypeId} {ts:List T} {cs:List C} {mv:List Nat} (h:ZaH st cts ts cs mv):∀ {vs:List Value} {p:Nat},Zas st ts=true->ZW g stL st (Zo ts)->Zh X w g ts vs->(∀ (j:Nat) (v:Value),vs[j]? = some v->c[p+j]? = some v)->
  Za P w (g.IM X true) c cs cts p (mv.flatMap g.fp)/\∀ id∈mv,∀ b∈g.fp id,X.new b:=by
 induction h with
 |nil=>intro vs p _ hs r hc;simp[Za]
 |@row ct cts id og fr xs ts cs mv h r ih=>
  intro vs p hf hs rs hc
  simp only[Zas,h,Bool.and_eq_true] at hf
  obtain⟨rfl,hf⟩:=hf
  simp only[Zh] at rs
  obtain⟨v,vs',rfl,_,r1,r2⟩:=rs
  obtain⟨hs1,hs2⟩:=ZaT hs
  obtain⟨_,hB,⟨row,_⟩,hnew,_⟩:=hs1.obj hr (by simp[Zo]) h
  obtain⟨i1,i2⟩:=ih (p:=p+1) hf hs2 r2 (λj u hu=>by
   have:=hc (j+1) u (by simpa using hu)
   rwa[show p+1+j=p+(j+1) from by omega])
  simp only[Zb] at r1
  refine⟨?_,λi hi=>?_⟩
  ·simp only[Za]
   exact⟨ct,cts,v,g.fp id,mv.flatMap g.fp,rfl,by simp,by simpa using hc 0 v (by simp),by rw[r1.2];exact row,i1⟩
  ·rcases List.mem_cons.mp hi with rfl|hi
   ·exact hnew rfl
   ·exact i2 i hi
 |@none ct cts ts cs mv r ih=>
  intro vs p hf hs rs hc
  simp only[Zas] at hf
  simp only[Zh] at rs
  obtain⟨v,vs',rfl,_,r1,r2⟩:=rs
  obtain⟨hs1,hs2⟩:=ZaT hs
  obtain⟨i1,i2⟩:=ih (p:=p+1) hf hs2 r2 (λj u hu=>by
   have:=hc (j+1) u (by simpa using hu)
   rwa[show p+1+j=p+(j+1) from by omega])
  simp only[Zb] at r1
  obtain⟨ad,rfl⟩:=r1
  refine⟨?_,i2⟩
  simp only[Za]
  exact⟨ct,cts,.slice ad 0 0,[],mv.flatMap g.fp,rfl,by simp,by simpa using hc 0 (.slice ad 0 0) (by simp),by simp[OwC],i1⟩
 |@dat ct cts f x ts cs mv r ih=>
  intro vs p hf hs rs hc
  simp only[Zas,Bool.and_eq_true,Bool.or_eq_true] at hf
  obtain⟨hf0,hf⟩:=hf
  simp only[Zh] at rs
  obtain⟨v,vs',rfl,_,r1,r2⟩:=rs
  obtain⟨hs1,hs2⟩:=ZaT hs
  obtain⟨i1,i2⟩:=ih (p:=p+1) hf hs2 r2 (λj u hu=>by
   have:=hc (j+1) u (by simpa using hu)
   rwa[show p+1+j=p+(j+1) from by omega])
  refine⟨?_,i2⟩
  simp only[Za]
  refine⟨ct,cts,v,[],mv.flatMap g.fp,rfl,by simp,by simpa using hc 0 _ (by simp),?_,i1⟩
  simp only[OwC]
  refine⟨trivial,?_⟩
  rcases hf0 with rfl|hsc
  ·simpa only[Zb] using r1
  ·have hv:=Zb.scal_eq (X:=X) (w:=w) (g:=g) (fr:=f) (v:=v) hsc r1
   subst hv
   exact RdD.scal hsc
theorem lent_cells {Q:Nat->Prop} (hr:Rel P X w g stL a) (hJ:JOk g s J) {c:Array Value} {cts:List TypeId} {ts:List T} {cs:List C} {mv:List Nat} (h:ZaH st cts ts cs mv) (hQ:∀ b,(Zas st ts=true->X.new b)->Q b) {vs:List Value} {p:Nat}
  (r0:Za P w g.I c cs cts p (mv.flatMap g.fp)) (hs:ZW g stL st (Zo ts)) (rs:Zh X w g ts vs) (hc:∀ (j:Nat) (v:Value),vs[j]? = some v->c[p+j]? = some v):Za P w (λb=>J b/\Q b) c cs cts p (mv.flatMap g.fp)/\∀ b∈mv.flatMap g.fp,Q b:=by
 cases hf:Zas st ts with
 |false=>exact⟨Za.weaken (λb hb=>⟨hJ.imp b hb,hQ b λq=>by rw[hf] at q;cases q⟩) r0,λb _=>hQ b λq=>by rw[hf] at q;cases q⟩
 |true=>
  obtain⟨z1,z2⟩:=h.soundF hr hf hs rs hc
  refine⟨Za.weaken (λb hb=>⟨hJ.imp b hb.1,hQ b λ_=>hb.2 rfl⟩) z1,λb hb=>?_⟩
  obtain⟨id,hid,hb⟩:=List.mem_flatMap.mp hb
  exact hQ b λ_=>z2 id hid b hb
theorem ZaH.outs {fo fa:Bool} {β:Type} (hr:Rel P X w g stL a) {c:Array Value} {w':World} {I' Q':Nat->Prop} {r:β} {k:St->Option β} {cts:List TypeId} {ts:List T} {cs:List C} {mv:List Nat} (h:ZaH st cts ts cs mv):∀ {vs:List Value} {p:Nat} {cs':List C} {Fo:List Nat} {st2:St},ZW g stL st (Zo ts)->Zh X w g ts vs->(∀ (j:Nat) (v:Value),vs[j]? = some v->c[p+j]? = some v)->
  Za P w' (λb=>I' b/\Q' b) c cs' cts p Fo->ZP st st2 ts cs' k=some r->
  ∃ back:List Bk,back.map (·.id)=mv/\(∀ y∈back,y.kept=[]/\∀ (n:Nat) (nw:List Nw),BkOk P X fo fa st g w' I' Q' n nw y)/\k (st2.sets (ZbG back))=some r/\(back.flatMap (·.fo)).Sublist Fo:=by
 induction h with
 |nil=>
  intro vs p cs' Fo st2 hs rs hc ho h
  cases cs' with
  |cons _ _=>simp[ZP] at h
  |nil=>
   simp only[ZP] at h
   exact⟨[],rfl,by simp,by simpa[ZbG,St.sets_nil] using h,by simp⟩
 |@row ct cts id og fr xs ts cs mv h r ih=>
  intro vs p cs' Fo st2 hs rs hc ho hb
  cases cs' with
  |nil=>simp[ZP] at hb
  |cons x cs'=>
   simp only[Zh] at rs
   obtain⟨v,vs',rfl,_,r1,r2⟩:=rs
   obtain⟨hs1,hs2⟩:=ZaT hs
   simp only[ZP,h] at hb
   obtain⟨zs,rfl,hb⟩:=Zcx hb
   obtain⟨_,hb⟩:=Zp hb
   simp only[Za] at ho
   obtain⟨ct',cts',v',F1,F2,e1,rfl,hv',o1,o2⟩:=ho
   injection e1 with e1 e2
   subst e1 e2
   have hv:=hc 0 v (by simp)
   rw[Nat.add_zero,hv'] at hv
   injection hv with hv
   subst hv
   simp only[Zb] at r1
   obtain⟨back,b1,b2,b3,b4⟩:=ih (p:=p+1) hs2 r2 (λj u hu=>by
    have:=hc (j+1) u (by simpa using hu)
    rwa[show p+1+j=p+(j+1) from by omega]) o2 hb
   refine⟨⟨id,.row og false ct zs,F1,[],F1⟩::back,by simp[b1],λy hy=>?_,by simpa[ZbG,St.sets_cons] using b3,by simpa using b4⟩
   rcases List.mem_cons.mp hy with rfl|hy
   ·exact⟨rfl,λ_ _=>⟨List.Perm.refl _,.inl ⟨og,ct,zs,fr,xs,false,rfl,by simp,h,by rw[<- r1.2];exact o1⟩⟩⟩
   ·exact b2 y hy
 |@none ct cts ts cs mv r ih=>
  intro vs p cs' Fo st2 hs rs hc ho hb
  cases cs' with
  |nil=>simp[ZP] at hb
  |cons x cs'=>
   simp only[Zh] at rs
   obtain⟨v,vs',rfl,_,r1,r2⟩:=rs
   obtain⟨hs1,hs2⟩:=ZaT hs
   simp only[ZP] at hb
   simp only[Za] at ho
   obtain⟨ct',cts',v',F1,F2,e1,rfl,hv',o1,o2⟩:=ho
   injection e1 with e1 e2
   subst e1 e2
   obtain⟨back,b1,b2,b3,b4⟩:=ih (p:=p+1) hs2 r2 (λj u hu=>by
    have:=hc (j+1) u (by simpa using hu)
    rwa[show p+1+j=p+(j+1) from by omega]) o2 hb
   exact⟨back,b1,b2,b3,b4.trans (List.sublist_append_right _ _)⟩
 |@dat ct cts f x ts cs mv r ih=>
  intro vs p cs' Fo st2 hs rs hc ho hb
  cases cs' with
  |nil=>simp[ZP] at hb
  |cons x cs'=>
   simp only[Zh] at rs
   obtain⟨v,vs',rfl,_,r1,r2⟩:=rs
   obtain⟨hs1,hs2⟩:=ZaT hs
   simp only[ZP] at hb
   simp only[Za] at ho
   obtain⟨ct',cts',v',F1,F2,e1,rfl,hv',o1,o2⟩:=ho
   injection e1 with e1 e2
   subst e1 e2
   obtain⟨back,b1,b2,b3,b4⟩:=ih (p:=p+1) hs2 r2 (λj u hu=>by
    have:=hc (j+1) u (by simpa using hu)
    rwa[show p+1+j=p+(j+1) from by omega]) o2 hb
   exact⟨back,b1,b2,b3,b4.trans (List.sublist_append_right _ _)⟩
def Backs (P:Program) (X:Fix) (fo fa:Bool) (st:St) (g:G) (w w':World) (I' Q':Nat->Prop) (Fs:List Ln) (as:List A) (ms:List (Mode×TypeId)) (ts:List T) (vs:List Value):Prop:=
 ∀ (os:List Out) (Fo:List Nat),Z0 P w' I' Q' as ms vs os Fo->(∀ b,g.I b->w'.heap[b]? = w.heap[b]?)->(ZV st ms ts=false->∀ b,g.I b->I' b/\Q' b)->(∀ x∈Fs,∀ b∈x.kept,w'.heap[b]? = w.heap[b]?)->
  ∀ {β:Type} (st2:St) (k:St->Option β) (r:β),st.ob.length<=st2.ob.length->Zr P fo fa st st2 ms ts os k=some r->
   ∃ (back:List Bk) (nw:List Nw),back.map (λy=>(y.id,y.kept))=Fs.map (λx=>(x.id,x.kept))/\(∀ y∈back,BkOk P X fo fa st g w' I' Q' st2.ob.length nw y)/\(∀ x∈nw,NwOk P w' (λb=>I' b/\Q' b) fo x/\∀ b∈x.fp,Q' b)/\
    k ((st2.more (nw.map (·.ob))).sets (ZbG back))=some r/\(back=[]->nw=[])/\∃ l:List Nat,l.Perm (back.flatMap (·.fo)++nw.flatMap (·.fp))/\l.Sublist Fo
theorem ArgT.rel {t:T} {v:Value} (h:ArgT X w g J t v) (hn:∀ fr cs,t≠.ip fr cs):Zb X w g t v:=by
 rcases h with h|⟨fr,cs,h,_⟩
 ·exact h
 ·exact absurd h (hn fr cs)
theorem datCs_map:∀ ds:List D,datCs (ds.map .d)=some ds
 |[]=>rfl
 |x::ds=>by simp only[List.map_cons,datCs,datCs_map ds]
theorem datTs_rd {c:Array Value}:∀ {ts:List T} {ds:List D} {vs:List Value} {p:Nat},datTs ts=some ds->Zh X w g ts vs->(∀ (j:Nat) (v:Value),vs[j]? = some v->c[p+j]? = some v)->Zi w g.I c p ds/\ds.length=ts.length
 |[],ds,vs,p,h,r,hc=>by
  simp only[datTs] at h
  injection h with h;subst h
  exact⟨by simp only[Zi],rfl⟩
 |t::ts,ds,vs,p,h,r,hc=>by
  cases t<;>simp only[datTs] at h<;>try (cases h;done)
  rename_i fr x
  split at h
  case h_2=>cases h
  rename_i ds' hd
  injection h with h;subst h
  simp only[Zh] at r
  obtain⟨v,vs',rfl,_,r1,r2⟩:=r
  obtain⟨i1,i2⟩:=datTs_rd (p:=p+1) hd r2 (λj u hu=>by
   have:=hc (j+1) u (by simpa using hu)
   rwa[show p+1+j=p+(j+1) from by omega])
  simp only[Zb] at r1
  refine⟨?_,by simp[i2]⟩
  simp only[Zi]
  exact⟨⟨v,by simpa using hc 0 v (by simp),RdD.weaken (λb hb=>hb.1) r1⟩,i1⟩
theorem Lent.sound {fo fa:Bool} {Q:Nat->Prop} (hT:Zar P) (hr:Rel P X w g stL a) (hJ:JOk g s J) {ms:List (Mode×TypeId)} {ts:List T} {as:List A} {mv:List Nat} (h:Lent P s st ms ts as mv):∀ {vs:List Value},(∀ b,(ZV st ms ts=true->X.new b)->Q b)->(∀ t∈ts,ZW g stL st (ZaB st t))->Zad X w g J ts vs->
  ∃ Fs:List Ln,Fs.map (·.id)=mv/\ZO P w J Q as ms vs (Fs.flatMap (·.f))/\(∀ x∈Fs,g.B x.id/\(g.fp x.id).Perm (x.kept++x.f))/\∀ (w':World) (I' Q':Nat->Prop),Backs P X fo fa st g w w' I' Q' Fs as ms ts vs:=by
 induction h with
 |done=>
  intro vs hQ hs r
  simp only[Zad] at r
  subst r
  refine⟨[],rfl,by simp[ZO],by simp,λw' I' Q' os Fo ho hi hi2 hk β st2 k r hlen h=>?_⟩
  simp only[Z0] at ho
  obtain⟨rfl,rfl⟩:=ho
  simp only[Zr] at h
  exact⟨[],[],rfl,by simp,by simp,by simpa[ZbG,St.sets_nil,St.more_nil] using h,by simp,[],by simp,by simp⟩
 |@imm ct ms t ts x as mv h r ih=>
  intro vs hQ hs rs
  simp only[Zad] at rs
  obtain⟨v,vs',rfl,r1,r2⟩:=rs
  obtain⟨Fs,a1,a2,a3,a4⟩:=ih (λb hb=>hQ b λq=>hb (by simpa only[ZV] using q)) (λt ht=>hs t (by simp[ht])) r2
  have hx:ZJ P w J Q x (.imm,ct) v []:=by
   rcases r1 with r1|⟨fr,cs,rfl,b,off,c,e,f,rfl,q1,q2,q3⟩
   ·exact argD_J hT hr hJ h ((hs t (by simp)).sub λi hi=>List.mem_append_left _ hi) r1
   ·simp only[argD] at h
    injection h with h;subst h
    simp only[ZJ]
    exact⟨trivial,b,off,c,e,f,rfl,q1,q2,q3⟩
  refine⟨Fs,a1,?_,a3,λw' I' Q' os Fo ho hi hi2 hk β st2 k r hlen h=>?_⟩
  ·simp only[ZO]
   exact⟨v,vs',[],_,rfl,by simp,hx,a2⟩
  ·have ho':Z0 P w' I' Q' as ms vs' os Fo:=by
    cases x with
    |own g' cs'=>simp only[ZJ] at hx
    |box cs'=>simp only[ZJ] at hx
    |_=>simpa only[Z0] using ho
   have h':Zr P fo fa st st2 ms ts os k=some r:=by simpa only[Zr] using h
   exact a4 w' I' Q' os Fo ho' hi (λq=>hi2 (by simpa only[ZV] using q)) hk st2 k r hlen h'
 |@immSub ct ms id i off og fr rt xs c x rest ys ts as mv hsf h hc hd hy r ih=>
  intro vs hQ hs rs
  simp only[Zad] at rs
  obtain⟨v,vs',rfl,r1,r2⟩:=rs
  obtain⟨Fs,a1,a2,a3,a4⟩:=ih (λb hb=>hQ b λq=>hb (by simpa only[ZV] using q)) (λt ht=>hs t (by simp[ht])) r2
  have r1:=r1.rel (by simp)
  have hS:ZW g stL st [id]:=(hs (.sub id i off) (by simp)).sub (by simp[ZaB,ZE])
  have hB:g.B id:=(hS id (by simp) (by rw[h];rfl)).2
  obtain⟨ct',F',ow,_,hF⟩:=sub_cell hr hS h hc hd r1
  have hx:ZJ P w J Q (.d (.sl ys)) (.imm,ct) v []:=by
   simp only[ZJ]
   refine⟨trivial,?_⟩
   have:=OwC.imm (J:=J) (λb hb=>hJ.imp b hb.1) (λb hb=>hJ.all hsf id hB b (hF b hb)) hT ow
   rwa[hy] at this
  refine⟨Fs,a1,?_,a3,λw' I' Q' os Fo ho hi hi2 hk β st2 k r hlen h=>?_⟩
  ·simp only[ZO]
   exact⟨v,vs',[],_,rfl,by simp,hx,a2⟩
  ·have ho':Z0 P w' I' Q' as ms vs' os Fo:=by simpa only[Z0] using ho
   have h':Zr P fo fa st st2 ms ts os k=some r:=by simpa only[Zr] using h
   exact a4 w' I' Q' os Fo ho' hi (λq=>hi2 (by simpa only[ZV] using q)) hk st2 k r hlen h'
 |@nil ct ms ts as mv r ih=>
  intro vs hQ hs rs
  simp only[Zad] at rs
  obtain⟨v,vs',rfl,r1,r2⟩:=rs
  obtain⟨Fs,a1,a2,a3,a4⟩:=ih (λb hb=>hQ b λq=>hb (by simpa only[ZV] using q)) (λt ht=>hs t (by simp[ht])) r2
  have r1:=r1.rel (by simp)
  simp only[Zb] at r1
  refine⟨Fs,a1,?_,a3,λw' I' Q' os Fo ho hi hi2 hk β st2 k r hlen h=>?_⟩
  ·simp only[ZO]
   exact⟨v,vs',[],_,rfl,by simp,by simp only[ZJ];exact⟨trivial,r1⟩,a2⟩
  ·have ho':Z0 P w' I' Q' as ms vs' os Fo:=by simpa only[Z0] using ho
   have h':Zr P fo fa st st2 ms ts os k=some r:=by simpa only[Zr] using h
   exact a4 w' I' Q' os Fo ho' hi (λq=>hi2 (by simpa only[ZV] using q)) hk st2 k r hlen h'
 |@row ct ms id og fr xs ts as mv h r ih=>
  intro vs hQ hs rs
  simp only[Zad] at rs
  obtain⟨v,vs',rfl,r1,r2⟩:=rs
  obtain⟨Fs,a1,a2,a3,a4⟩:=ih (λb hb=>hQ b λq=>hb (by simp[ZV,h] at q;exact q.2)) (λt ht=>hs t (by simp[ht])) r2
  have r1:=r1.rel (by simp)
  have hS:ZW g stL st [id]:=(hs (.row id) (by simp)).sub (by simp[ZaB,ZE])
  obtain⟨_,hB,⟨row,_⟩,hnew,_⟩:=hS.obj hr (by simp) h
  simp only[Zb] at r1
  have hfr:ZV st ((.own,ct)::ms) (.row id::ts)=true->fr=true:=λq=>by simp[ZV,h] at q;exact q.1
  refine⟨⟨id,[],g.fp id⟩::Fs,by simp[a1],?_,λx hx=>?_,λw' I' Q' os Fo ho hi hi2 hk β st2 k r hlen hd=>?_⟩
  ·simp only[ZO]
   refine⟨v,vs',g.fp id,_,rfl,by simp,?_,a2⟩
   simp only[ZJ,Za]
   exact⟨⟨ct,[],v,g.fp id,[],rfl,by simp,by simp,by rw[r1.2];exact OwC.weaken (λb hb=>⟨hJ.imp b hb.1,hQ b λq=>hb.2 (hfr q)⟩) row,by simp⟩,λb hb=>hQ b λq=>hnew (hfr q) b hb⟩
  ·rcases List.mem_cons.mp hx with rfl|hx
   ·exact⟨hB,List.Perm.refl _⟩
   ·exact a3 x hx
  ·simp only[Z0] at ho
   rcases ho with⟨os',rfl,o2⟩|⟨cs',os',F1,F2,rfl,rfl,hl,o1,o2⟩
   ·simp only[Zr] at hd
    obtain⟨back,nw,b1,b2,bn,b3,be,l,b4,b5⟩:=a4 w' I' Q' os' Fo o2 hi (λq=>hi2 (by simp[ZV,h,q])) (λx hx=>hk x (by simp[hx])) _ k _ (by simpa[St.setOb] using hlen) hd
    rw[St.setOb_more (Nat.lt_of_lt_of_le (ob_lt h) hlen)] at b3
    simp only[St.setOb,List.length_set] at b2
    refine⟨⟨id,.gone,[],[],[]⟩::back,nw,by simp[b1],λy hy=>?_,bn,by simpa[ZbG,St.sets_cons] using b3,by simp,l,by simpa using b4,b5⟩
    rcases List.mem_cons.mp hy with rfl|hy
    ·exact⟨List.Perm.refl _,.inr (.inl ⟨rfl,rfl,og,fr,ct,xs,h⟩)⟩
    ·exact b2 y hy
   obtain⟨z,rfl⟩:∃ z,cs'=[z]:=by
    match cs',hl with
    |[z],_=>exact⟨z,rfl⟩
   simp only[Zr,h] at hd
   obtain⟨zs,rfl,hd⟩:=Zcx hd
   simp only[ZJ,Za] at o1
   obtain⟨⟨ct',cts',v',G1,G2,e1,rfl,hv',ow,rfl,rfl⟩,hqb⟩:=o1
   injection e1 with e1 e2
   subst e1
   simp at hv'
   subst hv'
   obtain⟨fr',hfr',hd⟩:∃ fr':Bool,(fr'=true->fo=true\/fa=true/\flatC zs=true)/\Zr P fo fa st (st2.setOb id (.row og fr' ct zs)) ms ts os' k=some r:=by
    cases hfo:fo with
    |true=>
     rw[hfo] at hd
     simp only[cond_true] at hd
     obtain⟨_,hd⟩:=Zp hd
     exact⟨true,λ_=>.inl rfl,hd⟩
    |false=>
    rw[hfo] at hd
    simp only[cond_false] at hd
    cases hf:(fa&&flatTy P ct) with
    |true=>
     rw[hf] at hd
     simp only[cond_true] at hd
     obtain⟨⟨_,q⟩,hd⟩:=Zp hd
     simp only[Bool.and_eq_true] at hf
     exact⟨true,λ_=>.inr ⟨hf.1,q⟩,hd⟩
    |false=>
     rw[hf] at hd
     simp only[cond_false] at hd
     obtain⟨_,hd⟩:=Zp hd
     exact⟨false,by simp,hd⟩
   obtain⟨back,nw,b1,b2,bn,b3,be,l,b4,b5⟩:=a4 w' I' Q' os' F2 o2 hi (λq=>hi2 (by simp[ZV,h,q])) (λx hx=>hk x (by simp[hx])) _ k _ (by simpa[St.setOb] using hlen) hd
   rw[St.setOb_more (Nat.lt_of_lt_of_le (ob_lt h) hlen)] at b3
   simp only[St.setOb,List.length_set] at b2
   refine⟨⟨id,.row og fr' ct zs,G1,[],G1⟩::back,nw,by simp[b1],λy hy=>?_,bn,by simpa[ZbG,St.sets_cons] using b3,by simp,G1++l,by simpa using List.Perm.append_left G1 b4,by simpa using b5⟩
   rcases List.mem_cons.mp hy with rfl|hy
   ·exact⟨List.Perm.refl _,.inl ⟨og,ct,zs,fr,xs,fr',rfl,λq=>⟨rfl,(hfr' q).imp (λz=>⟨z,λb hb=>hqb b (by simpa using hb)⟩) λz=>z⟩,h,by rw[<- r1.2];exact ow⟩⟩
   ·exact b2 y hy
 |@agg ct ms cs c m ts as mv h r ih=>
  intro vs hQ hs rs
  simp only[Zad] at rs
  obtain⟨v,vs',rfl,r1,r2⟩:=rs
  obtain⟨Fs,a1,a2,a3,a4⟩:=ih (λb hb=>hQ b λq=>hb (by simp[ZV] at q;exact q.2)) (λt ht=>hs t (by simp[ht])) r2
  have r1:=r1.rel (by simp)
  have hS:ZW g stL st (Zo cs):=(hs (.agg cs) (by simp)).sub λi hi=>List.mem_append_left _ hi
  simp only[Zb] at r1
  obtain⟨vals,rfl,rv⟩:=r1
  have hget:∀ (j:Nat) (u:Value),vals[j]? = some u->vals.toArray[0+j]? = some u:=λj u hu=>by simpa using hu
  obtain⟨c1,c2,c3⟩:=h.sound hr (c:=vals.toArray) hS rv hget
  refine⟨m.map (λid=>⟨id,[],g.fp id⟩)++Fs,by simp[a1,Function.comp_def],?_,λx hx=>?_,λw' I' Q' os Fo ho hi hi2 hk β st2 k r hlen hd=>?_⟩
  ·simp only[ZO]
   refine⟨_,vs',m.flatMap g.fp,_,rfl,by simp[List.flatMap_map],?_,a2⟩
   simp only[ZJ]
   exact⟨vals,rfl,by rw[Zh.length rv,c3],lent_cells hr hJ h (λb hb=>hQ b λq=>hb (by simp[ZV] at q;exact q.1)) c1 hS rv hget⟩
  ·rcases List.mem_append.mp hx with hx|hx
   ·obtain⟨id,hid,rfl⟩:=List.mem_map.mp hx
    exact⟨c2 id hid,List.Perm.refl _⟩
   ·exact a3 x hx
  ·simp only[Z0] at ho
   rcases ho with⟨os',rfl,o2⟩|⟨cs',os',F1,F2,rfl,rfl,hl,o1,o2⟩
   ·simp only[Zr] at hd
    rw[ZcC,h.ids] at hd
    have hm:∀ p∈m.map (·,Obj.gone),p.1<st2.ob.length:=λp hp=>by
     obtain⟨i,hi',rfl⟩:=List.mem_map.mp hp
     obtain⟨_,_,_,_,q⟩:=h.rows i hi'
     exact Nat.lt_of_lt_of_le (ob_lt q) hlen
    rw[St.sets_gones] at hd
    obtain⟨back,nw,b1,b2,bn,b3,be,l,b4,b5⟩:=a4 w' I' Q' os' Fo o2 hi (λq=>hi2 (by simp[ZV,q])) (λx hx=>hk x (by simp[hx])) _ k _ (by simp only[St.sets,Zx];exact hlen) hd
    rw[St.sets_more hm] at b3
    simp only[St.sets,Zx] at b2
    have hg0:(m.map (λi=>(⟨i,.gone,[],[],[]⟩:Bk))).flatMap (·.fo)=[]:=by simp[List.flatMap_map]
    refine⟨m.map (λi=>⟨i,.gone,[],[],[]⟩)++back,nw,by simp[b1,Function.comp_def],λy hy=>?_,bn,?_,λq=>be (List.append_eq_nil_iff.mp q).2,l,by rw[List.flatMap_append,hg0,List.nil_append];exact b4,b5⟩
    ·rcases List.mem_append.mp hy with hy|hy
     ·obtain⟨i,hi',rfl⟩:=List.mem_map.mp hy
      obtain⟨og',fr',ct',xs',q⟩:=h.rows i hi'
      exact⟨List.Perm.refl _,.inr (.inl ⟨rfl,rfl,og',fr',ct',xs',q⟩)⟩
     ·exact b2 y hy
    ·have:ZbG (m.map (λi=>⟨i,.gone,[],[],[]⟩)++back)=m.map (·,Obj.gone)++ZbG back:=by simp[ZbG,Function.comp_def]
     rw[this,St.sets_append]
     exact b3
   simp only[Zr] at hd
   simp only[ZJ] at o1
   obtain⟨vals',e,_,ow,_⟩:=o1
   injection e with e
   have e:vals=vals':=by simpa using e
   subst e
   obtain⟨back1,d1,d2,d3,d4⟩:=h.outs (fa:=fa) hr (c:=vals.toArray) hS rv hget ow hd
   obtain⟨back,nw,b1,b2,bn,b3,be,l,b4,b5⟩:=a4 w' I' Q' os' F2 o2 hi (λq=>hi2 (by simp[ZV,q])) (λx hx=>hk x (by simp[hx])) _ k _ (by simp only[St.sets,Zx];exact hlen) d3
   rw[St.sets_more (λp hp=>by
    obtain⟨y,hy,rfl⟩:=List.mem_map.mp hp
    have:y.id∈m:=by rw[<- d1];exact List.mem_map.mpr ⟨y,hy,rfl⟩
    obtain⟨_,_,_,_,q⟩:=h.rows _ this
    exact Nat.lt_of_lt_of_le (ob_lt q) hlen)] at b3
   simp only[St.sets,Zx] at b2
   refine⟨back1++back,nw,?_,λy hy=>?_,bn,?_,λq=>be (List.append_eq_nil_iff.mp q).2,back1.flatMap (·.fo)++l,?_,?_⟩
   ·rw[List.map_append,List.map_append,b1,List.map_map,<- d1,List.map_map]
    congr 1
    refine List.map_congr_left λy hy=>?_
    simp only[Function.comp]
    rw[(d2 y hy).1]
   ·rcases List.mem_append.mp hy with hy|hy
    ·exact(d2 y hy).2 _ _
    ·exact b2 y hy
   ·have:ZbG (back1++back)=ZbG back1++ZbG back:=by simp[ZbG]
    rw[this,St.sets_append]
    exact b3
   ·rw[List.flatMap_append,List.append_assoc]
    exact List.Perm.append_left _ b4
   ·exact d4.append b5
 |@sub ct ms id i off og fr rt xs c ys ts as mv h ht hc hx r ih=>
  intro vs hQ hs rs
  simp only[Zad] at rs
  obtain⟨v,vs',rfl,r1,r2⟩:=rs
  obtain⟨Fs,a1,a2,a3,a4⟩:=ih (λb hb=>hQ b λq=>by simp[ZV] at q) (λt ht=>hs t (by simp[ht])) r2
  have r1:=r1.rel (by simp)
  have hS:ZW g stL st [id]:=(hs (.sub id i off) (by simp)).sub (by simp[ZaB,ZE])
  obtain⟨_,hB,⟨row,hgs⟩,_⟩:=hS.obj hr (by simp) h
  simp only[Zb] at r1
  obtain⟨_,b,o0,len,cap,cc,e,f,hh,hfp,hb,hv⟩:=r1
  obtain⟨a',cap',hv',hrow⟩:=OwC.row row
  rw[hh] at hv'
  injection hv' with e1 e2 e3
  subst e1 e2 e3
  rcases hrow with⟨rfl,_,_⟩|⟨b',o1,c',e',F',ea,ho0,hF,hb',hz,hcs,hle,rows⟩
  ·simp at hc
  injection ea with ea;injection ea with ea eo _
  subst ea eo
  have hb2:=hb'
  rw[hb] at hb'
  injection hb' with hb';injection hb' with hb' hb3 hb4
  subst hb' hb3 hb4
  obtain⟨ct',v',A,R,B,t1,hFc,t3,t4,t5⟩:=Ze.cut rows hc hx
  rw[t1] at ht
  injection ht with ht
  subst ht
  rw[hgs] at hv
  rw[show o0+i*Zl P rt+off=o0+(i*Zl P rt+off) from by omega,hv] at t3
  injection t3 with t3
  subst t3
  have hperm:∀ Z:List Nat,(b::(A++Z++B)).Perm ((b::(A++B))++Z):=by
   intro Z
   simp only[List.cons_append]
   refine List.Perm.cons b ?_
   rw[List.append_assoc,List.append_assoc]
   exact List.Perm.append_left A List.perm_append_comm
  refine⟨⟨id,b::(A++B),R⟩::Fs,by simp[a1],?_,λx hx=>?_,λw' I' Q' os Fo ho hi hi2 hk β st2 k r hlen hd=>?_⟩
  ·simp only[ZO]
   refine⟨v,vs',R,_,rfl,by simp,?_,a2⟩
   simp only[ZJ,Za]
   exact⟨⟨ct',[],v,R,[],rfl,by simp,by simp,OwC.weaken (λb hb=>⟨hJ.imp b hb.1,hQ b λq=>by simp[ZV] at q⟩) t4,by simp⟩,λb _=>hQ b λq=>by simp[ZV] at q⟩
  ·rcases List.mem_cons.mp hx with rfl|hx
   ·refine⟨hB,?_⟩
    rw[hF,hFc]
    exact hperm R
   ·exact a3 x hx
  ·simp only[Z0] at ho
   rcases ho with⟨os',rfl,_⟩|⟨cs',os',F1,F2,rfl,rfl,hl,o1,o2⟩
   ·simp[Zr] at hd
   obtain⟨z,rfl⟩:∃ z,cs'=[z]:=by
    match cs',hl with
    |[z],_=>exact⟨z,rfl⟩
   simp only[Zr,h] at hd
   simp only[ZJ,Za] at o1
   obtain⟨⟨ct'',cts',v',G1,G2,e1,rfl,hv',ow,rfl,rfl⟩,hqb⟩:=o1
   injection e1 with e1 e2
   subst e1
   simp at hv'
   subst hv'
   obtain⟨back,nw,b1,b2,bn,b3,be,l,b4,b5⟩:=a4 w' I' Q' os' F2 o2 hi (λq=>hi2 (by simp[ZV])) (λx hx=>hk x (by simp[hx])) _ k _ (by simpa[St.setOb] using hlen) hd
   rw[St.setOb_more (Nat.lt_of_lt_of_le (ob_lt h) hlen)] at b3
   simp only[St.setOb,List.length_set] at b2
   have hkeep:=hk _ (List.mem_cons_self)
   simp only[] at hkeep
   refine⟨⟨id,.row og false rt (xs.modify i λr=>r.set off z),b::(A++G1++B),b::(A++B),G1⟩::back,nw,by simp[b1],λy hy=>?_,bn,by simpa[ZbG,St.sets_cons] using b3,by simp,G1++l,by simpa using List.Perm.append_left G1 b4,by simpa using b5⟩
   rcases List.mem_cons.mp hy with rfl|hy
   ·refine⟨hperm G1,.inl ⟨og,rt,_,fr,xs,false,rfl,by simp,h,?_⟩⟩
    simp only[OwC]
    refine⟨_,_,by rw[hh,List.length_modify],.inr ⟨b,o0,cc,e,_,rfl,ho0,rfl,by rw[hkeep b (by simp)];exact hb,hz,hcs,by rw[List.length_modify];exact hle,t5 ⟨⟨λb hb=>hi2 (by simp[ZV]) b hb.1,λb hb=>hi b hb.1⟩,λq hq=>hkeep q (List.mem_cons_of_mem _ hq)⟩ ow⟩⟩
   ·exact b2 y hy
 |@box pt ms id og cs cc m ts as mv h hds r ih=>
  intro vs hQ hs rs
  simp only[Zad] at rs
  obtain⟨v,vs',rfl,r1,r2⟩:=rs
  obtain⟨Fs,a1,a2,a3,a4⟩:=ih (λb hb=>hQ b λq=>hb (by simp[ZV,h] at q;exact q.2)) (λt ht=>hs t (by simp[ht])) r2
  have r1:=r1.rel (by simp)
  have hS:ZW g stL st [id]:=(hs (.bp id 0) (by simp)).sub (by simp[ZaB,ZE])
  obtain⟨_,hB,⟨⟨b,c,e,hh,hfp,hb,rc⟩,_⟩⟩:=hS.obj hr (by simp) h
  have hSr:ZW g stL st (Zo cs):=(hs (.bp id 0) (by simp)).sub (by rw[rowsOf_ids];intro i hi;refine List.mem_append_right _ ?_;simp only[h];exact hi)
  simp only[Zb] at r1
  obtain⟨c1,c2,c3⟩:=hds.sound hr (c:=c) (p:=0) hSr rc (λj u hu=>by simpa using hu)
  have hsz:c.size=cc.length:=by rw[c3,<- Zh.length rc];simp
  obtain⟨_,bb,hbb,rfl⟩:=r1
  rw[hh] at hbb
  injection hbb with hbb;injection hbb with hbb;injection hbb with hbb
  subst hbb
  refine⟨⟨id,[],g.fp id⟩::(m.map (λi=>⟨i,[],g.fp i⟩)++Fs),by simp[a1,Function.comp_def],?_,λx hx=>?_,λw' I' Q' os Fo ho hi hi2 hk β st2 k r hlen hd=>?_⟩
  ·simp only[ZO]
   refine⟨_,vs',g.fp id++m.flatMap g.fp,_,rfl,by simp[List.flatMap_map],?_,a2⟩
   simp only[ZJ]
   exact⟨b,c,e,m.flatMap g.fp,rfl,by rw[hfp];rfl,hb,hsz,lent_cells hr hJ hds (λb hb=>hQ b λq=>hb (by simp[ZV,h] at q;exact q.1)) c1 hSr rc (λj u hu=>by simpa using hu)⟩
  ·rcases List.mem_cons.mp hx with rfl|hx
   ·exact⟨hB,List.Perm.refl _⟩
   ·rcases List.mem_append.mp hx with hx|hx
    ·obtain⟨i,hid,rfl⟩:=List.mem_map.mp hx
     exact⟨c2 i hid,List.Perm.refl _⟩
    ·exact a3 x hx
  ·simp only[Z0] at ho
   obtain⟨cs',os',F1,F2,rfl,rfl,hl,o1,o2⟩:=ho
   simp only[ZJ] at o1
   obtain⟨b',c',e',F',hv',rfl,hb',hsz',ow,hqb⟩:=o1
   injection hv' with hv';injection hv' with hv';injection hv' with hv'
   subst hv'
   simp only[Zr,h] at hd
   split at hd
   case h_2=>cases hd
   rename_i l0 st1 hbo
   obtain⟨_,hd⟩:=Zp hd
   obtain⟨n1,rfl,f1,f2,f3⟩:=Zci (X:=X) hbo ow
   subst f1
   rw[ZcC,hds.ids] at hd
   have hm:∀ p∈((id,Obj.box og pt l0)::m.map (·,Obj.gone)),p.1<st2.ob.length:=λp hp=>by
    rcases List.mem_cons.mp hp with rfl|hp
    ·exact Nat.lt_of_lt_of_le (ob_lt h) hlen
    ·obtain⟨i,hi',rfl⟩:=List.mem_map.mp hp
     obtain⟨_,_,_,_,q⟩:=hds.rows i hi'
     exact Nat.lt_of_lt_of_le (ob_lt q) hlen
   have hst:((⟨st2.tm,st2.ob++n1.map (·.ob)⟩:St).setOb id (.box og pt l0)).gones m=(st2.more (n1.map (·.ob))).sets ((id,.box og pt l0)::m.map (·,.gone)):=by
    rw[St.sets_cons,<- St.sets_gones]
    rfl
   rw[hst] at hd
   have hln:((st2.more (n1.map (·.ob))).sets ((id,.box og pt l0)::m.map (·,.gone))).ob.length=st2.ob.length+n1.length:=by simp[St.sets,St.more,Zx]
   obtain⟨back,nw,b1,b2,bn,b3,be,l,b4,b5⟩:=a4 w' I' Q' os' F2 o2 hi (λq=>hi2 (by simp[ZV,h,q])) (λx hx=>hk x (by simp[hx])) _ k _ (by omega) hd
   rw[St.sets_more (λp hp=>by have:=hm p hp;simp only[St.more,List.length_append];omega),St.more_more] at b3
   rw[hln] at b2
   refine⟨⟨id,.box og pt l0,[b],[],[b]⟩::(m.map (λi=>⟨i,.gone,[],[],[]⟩)++back),n1++nw,by simp[b1,Function.comp_def],λy hy=>?_,λx hx=>?_,?_,by simp,b::(n1.flatMap (·.fp)++l),?_,?_⟩
   ·rcases List.mem_cons.mp hy with rfl|hy
    ·refine⟨List.Perm.refl _,.inr (.inr ⟨og,pt,cs,l0,b,c',e',rfl,h,hh,rfl,hb',λg2 hg=>?_⟩)⟩
     obtain⟨us,u1,u2,u3⟩:=f3 g2 hg.left
     have:us=c'.toList:=by
      apply List.ext_getElem?
      intro j
      have e:c'.toList[j]? = c'[j]?:=by simp
      rw[e]
      cases hj:us[j]? with
      |some u=>
       have:=u3 j u hj
       rw[Nat.zero_add] at this
       exact this.symm
      |none=>
       rw[List.getElem?_eq_none_iff] at hj
       exact(Array.getElem?_eq_none_iff.mpr (by omega)).symm
     rw[<- this]
     exact u1
    ·rcases List.mem_append.mp hy with hy|hy
     ·obtain⟨i,hi',rfl⟩:=List.mem_map.mp hy
      obtain⟨og',fr',ct',xs',q⟩:=hds.rows i hi'
      exact⟨List.Perm.refl _,.inr (.inl ⟨rfl,rfl,og',fr',ct',xs',q⟩)⟩
     ·exact(b2 y hy).shift rfl
   ·rcases List.mem_append.mp hx with q|q
    ·exact⟨.inl (f2 x q),λb hb=>hqb b (List.mem_flatMap.mpr ⟨x,q,hb⟩)⟩
    ·exact bn x q
   ·rw[List.map_append]
    have:ZbG (⟨id,.box og pt l0,[b],[],[b]⟩::(m.map (λi=>⟨i,.gone,[],[],[]⟩)++back))=((id,Obj.box og pt l0)::m.map (·,Obj.gone))++ZbG back:=by simp[ZbG,Function.comp_def]
    rw[this,St.sets_append]
    exact b3
   ·have hg0:(m.map (λi=>(⟨i,.gone,[],[],[]⟩:Bk))).flatMap (·.fo)=[]:=by simp[List.flatMap_map]
    simp only[List.flatMap_cons,List.flatMap_append,hg0,List.nil_append,List.cons_append]
    exact List.Perm.cons b ((List.Perm.append_left _ b4).trans (List.perm_append_comm_assoc _ _ _))
   ·simp only[List.cons_append]
    exact List.Sublist.cons_cons b ((List.Sublist.refl _).append b5)
end
end Go.T
