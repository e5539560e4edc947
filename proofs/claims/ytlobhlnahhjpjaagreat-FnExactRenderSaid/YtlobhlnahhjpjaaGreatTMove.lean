/- Rows that are handed over into cells. -/
import Derived.Test.YtlobhlnahhjpjaaGreatTNew
set_option linter.unusedVariables false
set_option linter.unusedSimpArgs false
namespace Go.T
def ZaP (st:St) (ct:TypeId) (t:T) (f:Bool) (c:C) (m:List Nat):Prop:=
 match t with
 |.d fr x=>f=(fr||Zag x)/\c=.d x/\m=[]
 |.nil=>f=true/\c=.own []/\m=[]
 |.row id=>(∃ og xs,st.ob[id]? = some (.row og f ct xs)/\c=.own xs/\m=[id])\/(∃ xs,st.ob[id]? = some (.frz f xs)/\c=.d (.sl xs)/\m=[])
 |_=>False
def Zt (st:St):List TypeId->List T->Bool->List C->List Nat->Prop
 |[],[],f,cs,mv=>f=true/\cs=[]/\mv=[]
 |ct::cts,t::ts,f,cs,mv=>∃ f1 f2 c cs' m1 mv',f=(f1&&f2)/\cs=c::cs'/\mv=m1++mv'/\ZaP st ct t f1 c m1/\Zt st cts ts f2 cs' mv'
 |_,_,_,_,_=>False
def St.gones (st:St) (mv:List Nat):St:=⟨st.tm.map (Zw (mv.map (·,.gone))),ZG st.ob (mv.map (·,.gone))⟩
theorem St.gones_nil (st:St):st.gones []=st:=by
 have:Zw []=id:=funext λt=>rfl
 simp[St.gones,this,ZG]
theorem St.gones_cons (st:St) (id:Nat) (mv:List Nat):st.gones (id::mv)=(st.setOb id .gone).gones mv:=by
 simp only[St.gones,St.setOb,List.map_map,List.map_cons]
 rfl
theorem St.gones_append (st:St) (m1 m2:List Nat):st.gones (m1++m2)=(st.gones m1).gones m2:=by
 induction m1 generalizing st with
 |nil=>rw[List.nil_append,St.gones_nil]
 |cons x m1 ih=>rw[List.cons_append,St.gones_cons,St.gones_cons,ih]
theorem St.gones_ob {st:St} {mv:List Nat} {id:Nat} {o:Obj} (h:(st.gones mv).ob[id]? = some o) (ho:o≠.gone):id∉mv/\st.ob[id]? = some o:=by
 have:id∉mv:=by
  intro hm
  have hl:id<st.ob.length:=by
   have:=(List.getElem?_eq_some_iff.mp h).1
   simp only[St.gones] at this
   rwa[Zx] at this
  obtain⟨o',h1,h2⟩:=ZbJ (mv.map (·,Obj.gone)) st.ob id ⟨(id,.gone),List.mem_map.mpr ⟨id,hm,rfl⟩,rfl⟩ hl
  obtain⟨q,_,hq⟩:=List.mem_map.mp h1
  injection hq with _ hq
  simp only[St.gones] at h
  rw[h2] at h
  injection h with h
  exact ho (h.symm.trans hq.symm)
 refine⟨this,?_⟩
 simp only[St.gones] at h
 rwa[Zao _ _ _ (by
  intro p hp e
  obtain⟨q,hq,rfl⟩:=List.mem_map.mp hp
  exact this (e▸hq))] at h
theorem ZaP.back {st st1:St} (hb:∀ (id:Nat) (o:Obj),st1.ob[id]? = some o->o≠.gone->st.ob[id]? = some o) {ct:TypeId} {t:T} {f:Bool} {c:C} {m:List Nat} (h:ZaP st1 ct t f c m):ZaP st ct t f c m:=by
 unfold ZaP at h⊢
 split at h
 ·exact h
 ·exact h
 ·rcases h with⟨og,xs,h1,h2⟩|⟨xs,h1,h2⟩
  ·exact .inl ⟨og,xs,hb _ _ h1 (by simp),h2⟩
  ·exact .inr ⟨xs,hb _ _ h1 (by simp),h2⟩
 ·exact h
theorem Zt.back {st st1:St} (hb:∀ (id:Nat) (o:Obj),st1.ob[id]? = some o->o≠.gone->st.ob[id]? = some o):∀ {cts:List TypeId} {ts:List T} {f:Bool} {cs:List C} {mv:List Nat},Zt st1 cts ts f cs mv->Zt st cts ts f cs mv
 |[],[],_,_,_,h=>h
 |ct::cts,t::ts,f,cs,mv,h=>by
  simp only[Zt] at h⊢
  obtain⟨f1,f2,c,cs',m1,mv',e1,e2,e3,h1,h2⟩:=h
  exact⟨f1,f2,c,cs',m1,mv',e1,e2,e3,ZaP.back hb h1,Zt.back hb h2⟩
 |[],_::_,_,_,_,h=>by simp only[Zt] at h
 |_::_,[],_,_,_,h=>by simp only[Zt] at h
theorem ZaP.rows {st:St} {ct:TypeId} {t:T} {f:Bool} {c:C} {m:List Nat} (h:ZaP st ct t f c m):∀ id∈m,∃ og f xs,st.ob[id]? = some (.row og f ct xs)/\t=.row id:=by
 unfold ZaP at h
 split at h
 ·obtain⟨_,_,rfl⟩:=h;simp
 ·obtain⟨_,_,rfl⟩:=h;simp
 ·rcases h with⟨og,xs,h1,_,rfl⟩|⟨xs,h1,_,rfl⟩
  ·intro id hid;simp at hid;subst hid;exact⟨_,_,_,h1,rfl⟩
  ·simp
 ·exact absurd h id
theorem Zt.rows {st:St}:∀ {cts:List TypeId} {ts:List T} {f:Bool} {cs:List C} {mv:List Nat},Zt st cts ts f cs mv->∀ id∈mv,(∃ og f ct xs,st.ob[id]? = some (.row og f ct xs))/\.row id∈ts
 |[],[],_,_,_,h,id,hid=>by simp only[Zt] at h;rw[h.2.2] at hid;cases hid
 |ct::cts,t::ts,f,cs,mv,h,id,hid=>by
  simp only[Zt] at h
  obtain⟨f1,f2,c,cs',m1,mv',e1,e2,rfl,h1,h2⟩:=h
  rcases List.mem_append.mp hid with q|q
  ·obtain⟨og,f,xs,h3,rfl⟩:=h1.rows id q
   exact⟨⟨og,f,ct,xs,h3⟩,by simp⟩
  ·obtain⟨h3,h4⟩:=Zt.rows h2 id q
   exact⟨h3,by simp[h4]⟩
 |[],_::_,_,_,_,h,_,_=>by simp only[Zt] at h
 |_::_,[],_,_,_,h,_,_=>by simp only[Zt] at h
theorem cellC_mv {st st':St} {ct:TypeId} {t:T} {f:Bool} {c:C} (h:cellC st ct t=some (f,c,st')):∃ m,ZaP st ct t f c m/\m.Nodup/\st'=st.gones m:=by
 unfold cellC at h
 split at h
 ·injection h with h;injection h with h1 h;injection h with h2 h3;subst h1 h2 h3
  exact⟨[],by simp[ZaP],by simp,by rw[St.gones_nil]⟩
 ·injection h with h;injection h with h1 h;injection h with h2 h3;subst h1 h2 h3
  exact⟨[],by simp[ZaP],by simp,by rw[St.gones_nil]⟩
 ·split at h
  ·split at h
   ·rename_i hct
    subst hct
    rename_i id _ og fr rt xs ho
    injection h with h;injection h with h1 h;injection h with h2 h3;subst h1 h2 h3
    exact⟨[id],by simp[ZaP,ho],by simp,by rw[St.gones_cons,St.gones_nil]⟩
   ·cases h
  ·rename_i ho
   injection h with h;injection h with h1 h;injection h with h2 h3;subst h1 h2 h3
   exact⟨[],by simp[ZaP,ho],by simp,by rw[St.gones_nil]⟩
  ·cases h
 ·cases h
theorem cellsC_mv:∀ {cts:List TypeId} {ts:List T} {st st':St} {f:Bool} {cs:List C},cellsC st cts ts=some (f,cs,st')->∃ mv,Zt st cts ts f cs mv/\mv.Nodup/\st'=st.gones mv
 |[],[],st,st',f,cs,h=>by
  simp only[cellsC] at h
  injection h with h;injection h with h1 h;injection h with h2 h3;subst h1 h2 h3
  exact⟨[],by simp[Zt],by simp,by rw[St.gones_nil]⟩
 |ct::cts,t::ts,st,st',f,cs,h=>by
  simp only[cellsC] at h
  split at h
  case h_2=>cases h
  rename_i f1 c st1 h1
  split at h
  case h_2=>cases h
  rename_i f2 cs' st2 h2
  injection h with h;injection h with e1 h;injection h with e2 e3;subst e1 e2 e3
  obtain⟨m1,a1,a2,rfl⟩:=cellC_mv h1
  obtain⟨mv',b1,b2,rfl⟩:=cellsC_mv h2
  have hb:∀ (id:Nat) (o:Obj),(st.gones m1).ob[id]? = some o->o≠.gone->st.ob[id]? = some o:=λid o h ho=>(St.gones_ob h ho).2
  refine⟨m1++mv',⟨f1,f2,c,cs',m1,mv',rfl,rfl,rfl,a1,Zt.back hb b1⟩,?_,by rw[St.gones_append]⟩
  refine List.nodup_append.mpr ⟨a2,b2,λx hx y hy e=>?_⟩
  subst e
  obtain⟨⟨og,f,ct',xs,h3⟩,_⟩:=Zt.rows b1 x hy
  exact(St.gones_ob h3 (by simp)).1 hx
 |[],_::_,_,_,_,_,h=>by simp[cellsC] at h
 |_::_,[],_,_,_,_,h=>by simp[cellsC] at h
def Zo (ts:List T):List Nat:=ts.flatMap λt=>match t with|.row id=>[id]|_=>[]
theorem rowsOf_look {st:St} {x:T}:∀ id∈Zo (Zy x),id∈ZE st x:=by
 intro id hid
 cases x with
 |agg ts=>exact hid
 |row id'=>simpa[Zo,Zy,ZE] using hid
 |_=>simp[Zo,Zy] at hid
theorem rowsOf_mem {ts:List T} {id:Nat} (h:.row id∈ts):id∈Zo ts:=List.mem_flatMap.mpr ⟨.row id,h,by simp⟩
theorem IM_and {X:Fix} {g:G} {f1 f2:Bool} {b:Nat} (h:g.IM X f1 b):g.IM X (f1&&f2) b:=⟨h.1,λe=>h.2 (by simp at e;exact e.1)⟩
theorem IM_and' {X:Fix} {g:G} {f1 f2:Bool} {b:Nat} (h:g.IM X f2 b):g.IM X (f1&&f2) b:=⟨h.1,λe=>h.2 (by simp at e;exact e.2)⟩
theorem RdD.weaken {w:World} {I I':Nat->Prop} (h:∀ b,I b->I' b) {d:D} {v:Value} (r:RdD w I d v):RdD w I' d v:=RdD.mono ⟨h,λ_ _=>rfl⟩ r
theorem OwC.weaken {P:Program} {w:World} {I I':Nat->Prop} (h:∀ b,I b->I' b) {x:C} {ct:TypeId} {v:Value} {F:List Nat} (r:OwC P w I x ct v F):OwC P w I' x ct v F:=OwC.mono ⟨⟨h,λ_ _=>rfl⟩,λ_ _=>rfl⟩ r
theorem Za.weaken {P:Program} {w:World} {I I':Nat->Prop} (h:∀ b,I b->I' b) {c:Array Value} {xs:List C} {cts:List TypeId} {p:Nat} {F:List Nat} (r:Za P w I c xs cts p F):Za P w I' c xs cts p F:=Za.mono ⟨⟨h,λ_ _=>rfl⟩,λ_ _=>rfl⟩ r
theorem Ze.weaken {P:Program} {w:World} {I I':Nat->Prop} (h:∀ b,I b->I' b) {c:Array Value} {cts:List TypeId} {sz:Nat} {xs:List (List C)} {p:Nat} {F:List Nat} (r:Ze P w I c cts sz xs p F):Ze P w I' c cts sz xs p F:=Ze.mono ⟨⟨h,λ_ _=>rfl⟩,λ_ _=>rfl⟩ r
theorem ZaP.sound {P:Program} {X:Fix} {w:World} {g:G} {stL st:St} {a:Act} (hr:Rel P X w g stL a) {ct:TypeId} {t:T} {f:Bool} {c:C} {m:List Nat} (h:ZaP st ct t f c m) (hs:ZW g stL st (Zo [t])) {v:Value} (r:Zb X w g t v):
  OwC P w (g.IM X f) c ct v (m.flatMap g.fp):=by
 unfold ZaP at h
 split at h
 ·rename_i fr x
  obtain⟨rfl,rfl,rfl⟩:=h
  simp only[Zb] at r
  simp only[OwC,List.flatMap_nil,true_and]
  cases hsc:Zag x with
  |true=>
   have hv:=Zb.scal_eq (X:=X) (w:=w) (g:=g) (fr:=fr) (v:=v) hsc (by simpa only[Zb] using r)
   subst hv
   exact RdD.scal hsc
  |false=>simpa using r
 ·obtain⟨rfl,rfl,rfl⟩:=h
  simp only[Zb] at r
  obtain⟨ad,rfl⟩:=r
  simp only[OwC]
  exact⟨ad,0,rfl,.inl ⟨trivial,rfl,rfl⟩⟩
 ·rename_i id
  simp only[Zb] at r
  obtain⟨hB,rfl⟩:=r
  rcases h with⟨og,xs,h1,rfl,rfl⟩|⟨xs,h1,rfl,rfl⟩
  ·obtain⟨_,_,⟨row,_⟩,_⟩:=hs.obj hr (by simp[Zo]) h1
   simpa using row
  ·obtain⟨_,_,hrd,_⟩:=hs.obj hr (by simp[Zo]) h1
   simp only[OwC,List.flatMap_nil,true_and]
   exact hrd
 ·exact absurd h id
theorem Zt.sound {P:Program} {X:Fix} {w:World} {g:G} {stL st:St} {a:Act} (hr:Rel P X w g stL a) {c:Array Value}:∀ {cts:List TypeId} {ts:List T} {f:Bool} {cs:List C} {mv:List Nat} {vs:List Value} {p:Nat},Zt st cts ts f cs mv->ZW g stL st (Zo ts)->
  Zh X w g ts vs->(∀ (j:Nat) (v:Value),vs[j]? = some v->c[p+j]? = some v)->Za P w (g.IM X f) c cs cts p (mv.flatMap g.fp)
 |[],[],f,cs,mv,vs,p,h,hs,r,hc=>by
  simp only[Zt] at h
  obtain⟨rfl,rfl,rfl⟩:=h
  simp[Za]
 |ct::cts,t::ts,f,cs,mv,vs,p,h,hs,r,hc=>by
  simp only[Zt] at h
  obtain⟨f1,f2,c0,cs',m1,mv',rfl,rfl,rfl,h1,h2⟩:=h
  simp only[Zh] at r
  obtain⟨v,vs',rfl,_,r1,r2⟩:=r
  have hs1:ZW g stL st (Zo [t]):=hs.sub λid hid=>by
   simp only[Zo,List.flatMap_cons,List.mem_append] at hid⊢
   exact .inl (by simpa using hid)
  have hs2:ZW g stL st (Zo ts):=hs.sub λid hid=>by
   simp only[Zo,List.flatMap_cons,List.mem_append] at hid⊢
   exact .inr hid
  simp only[Za]
  refine⟨ct,cts,v,m1.flatMap g.fp,mv'.flatMap g.fp,rfl,by simp,by simpa using hc 0 v (by simp),OwC.weaken (λb hb=>IM_and hb) (ZaP.sound hr h1 hs1 r1),Za.weaken (λb hb=>IM_and' hb) (Zt.sound hr h2 hs2 r2 λj u hu=>?_)⟩
  have:=hc (j+1) u (by simpa using hu)
  rwa[show p+1+j=p+(j+1) from by omega]
 |[],_::_,_,_,_,_,_,h,_,_,_=>by simp only[Zt] at h
 |_::_,[],_,_,_,_,_,h,_,_,_=>by simp only[Zt] at h
theorem ZaP.fresh {P:Program} {X:Fix} {w:World} {g:G} {stL st:St} {a:Act} (hr:Rel P X w g stL a) {ct:TypeId} {t:T} {f:Bool} {c:C} {m:List Nat} (h:ZaP st ct t f c m) (hs:ZW g stL st (Zo [t])):
  f=true->∀ b,b∈m.flatMap g.fp->X.new b:=by
 unfold ZaP at h
 split at h
 ·obtain⟨_,_,rfl⟩:=h;simp
 ·obtain⟨_,_,rfl⟩:=h;simp
 ·rcases h with⟨og,xs,h1,rfl,rfl⟩|⟨xs,h1,rfl,rfl⟩
  ·obtain⟨_,_,_,hfr,_⟩:=hs.obj hr (by simp[Zo]) h1
   simpa using hfr
  ·simp
 ·exact absurd h id
theorem Zt.fresh {P:Program} {X:Fix} {w:World} {g:G} {stL st:St} {a:Act} (hr:Rel P X w g stL a):∀ {cts:List TypeId} {ts:List T} {f:Bool} {cs:List C} {mv:List Nat},Zt st cts ts f cs mv->ZW g stL st (Zo ts)->
  f=true->∀ b,b∈mv.flatMap g.fp->X.new b
 |[],[],f,cs,mv,h,hs=>by
  simp only[Zt] at h
  obtain⟨_,_,rfl⟩:=h
  simp
 |ct::cts,t::ts,f,cs,mv,h,hs=>by
  simp only[Zt] at h
  obtain⟨f1,f2,c0,cs',m1,mv',rfl,rfl,rfl,h1,h2⟩:=h
  have hs1:ZW g stL st (Zo [t]):=hs.sub λid hid=>by
   simp only[Zo,List.flatMap_cons,List.mem_append] at hid⊢
   exact .inl (by simpa using hid)
  have hs2:ZW g stL st (Zo ts):=hs.sub λid hid=>by
   simp only[Zo,List.flatMap_cons,List.mem_append] at hid⊢
   exact .inr hid
  intro hf b hb
  simp at hf
  rw[List.flatMap_append] at hb
  rcases List.mem_append.mp hb with hb|hb
  ·exact ZaP.fresh hr h1 hs1 hf.1 b hb
  ·exact Zt.fresh hr h2 hs2 hf.2 b hb
 |[],_::_,_,_,_,h,_=>by simp only[Zt] at h
 |_::_,[],_,_,_,h,_=>by simp only[Zt] at h
theorem Zt.held {P:Program} {X:Fix} {w:World} {g:G} {stL st:St} {a:Act} (hr:Rel P X w g stL a) {cts:List TypeId} {ts:List T} {f:Bool} {cs:List C} {mv:List Nat} (h:Zt st cts ts f cs mv) (hs:ZW g stL st (Zo ts)):
  ∀ id∈mv,g.B id:=λid hid=>by
 obtain⟨⟨og,f,ct,xs,ho⟩,hm⟩:=Zt.rows h id hid
 exact(hs id (rowsOf_mem hm) (by rw[ho];rfl)).2
theorem Zcw {X:Fix} {w:World} {g:G} (hsep:Sep X w g):∀ {mv:List Nat},mv.Nodup->(∀ id∈mv,g.B id)->(mv.flatMap g.fp).Nodup
 |[],_,_=>by simp
 |id::mv,hn,hB=>by
  rw[List.flatMap_cons]
  simp at hn
  refine List.nodup_append.mpr ⟨hsep.nodup id (hB id (by simp)),Zcw hsep hn.2 λx hx=>hB x (by simp[hx]),λb hb b' hb' e=>?_⟩
  subst e
  obtain⟨id',hid',hb'⟩:=List.mem_flatMap.mp hb'
  exact hsep.apart id id' (hB id (by simp)) (hB id' (by simp[hid'])) (λe=>hn.1 (e▸hid')) b hb hb'
theorem Za.append {P:Program} {w:World} {I:Nat->Prop} {c:Array Value}:∀ {xs ys:List C} {cts:List TypeId} {p:Nat} {F:List Nat},Za P w I c (xs++ys) cts p F ↔
  ∃ F1 F2,F=F1++F2/\Za P w I c xs (cts.take xs.length) p F1/\Za P w I c ys (cts.drop xs.length) (p+xs.length) F2
 |[],ys,cts,p,F=>by
  simp only[List.nil_append,List.length_nil,List.take_zero,List.drop_zero,Nat.add_zero,Za]
  constructor
  ·intro h;exact⟨[],F,rfl,⟨rfl,trivial⟩,h⟩
  ·rintro⟨F1,F2,rfl,⟨rfl,_⟩,h⟩;exact h
 |x::xs,ys,cts,p,F=>by
  simp only[List.cons_append,Za,List.length_cons]
  constructor
  ·rintro⟨ct,cts',v,F1,F2,rfl,rfl,hv,h1,h2⟩
   obtain⟨F3,F4,rfl,h3,h4⟩:=Za.append.mp h2
   exact⟨F1++F3,F4,by simp,⟨ct,cts'.take xs.length,v,F1,F3,by simp,rfl,hv,h1,h3⟩,by simpa[Nat.add_assoc,Nat.add_comm 1] using h4⟩
  ·rintro⟨F1,F2,rfl,⟨ct,cts',v,F3,F4,hct,rfl,hv,h1,h2⟩,h3⟩
   cases cts with
   |nil=>simp at hct
   |cons ct' cts=>
    simp at hct
    obtain⟨rfl,rfl⟩:=hct
    exact⟨_,cts,v,F3,F4++F2,rfl,by simp,hv,h1,Za.append.mpr ⟨F4,F2,rfl,h2,by simpa[Nat.add_assoc,Nat.add_comm 1] using h3⟩⟩
theorem Ze.append {P:Program} {w:World} {I:Nat->Prop} {c:Array Value} {cts:List TypeId} {sz:Nat}:∀ {xs ys:List (List C)} {p:Nat} {F:List Nat},Ze P w I c cts sz (xs++ys) p F ↔
  ∃ F1 F2,F=F1++F2/\Ze P w I c cts sz xs p F1/\Ze P w I c cts sz ys (p+xs.length*sz) F2
 |[],ys,p,F=>by
  simp only[List.nil_append,List.length_nil,Nat.zero_mul,Nat.add_zero,Ze]
  constructor
  ·intro h;exact⟨[],F,rfl,rfl,h⟩
  ·rintro⟨F1,F2,rfl,rfl,h⟩;exact h
 |x::xs,ys,p,F=>by
  simp only[List.cons_append,Ze,List.length_cons]
  have hp:p+sz+xs.length*sz=p+(xs.length+1)*sz:=by rw[Nat.succ_mul];omega
  constructor
  ·rintro⟨F1,F2,rfl,h1,h2⟩
   obtain⟨F3,F4,rfl,h3,h4⟩:=Ze.append.mp h2
   exact⟨F1++F3,F4,by simp,⟨F1,F3,rfl,h1,h3⟩,by rwa[<- hp]⟩
  ·rintro⟨F1,F2,rfl,⟨F3,F4,rfl,h1,h2⟩,h3⟩
   exact⟨F3,F4++F2,by simp,h1,Ze.append.mpr ⟨F4,F2,rfl,h2,by rwa[hp]⟩⟩
theorem Za.congr {P:Program} {w:World} {I:Nat->Prop} {c c':Array Value}:∀ {xs:List C} {cts:List TypeId} {p p':Nat} {F:List Nat},(∀ (j:Nat) (v:Value),j<xs.length->c[p+j]? = some v->c'[p'+j]? = some v)->Za P w I c xs cts p F->Za P w I c' xs cts p' F
 |[],_,_,_,_,_,r=>by simp only[Za] at r⊢;exact r
 |x::xs,cts,p,p',F,h,r=>by
  simp only[Za] at r⊢
  obtain⟨ct,cts',v,F1,F2,rfl,rfl,hv,r1,r2⟩:=r
  exact⟨ct,cts',v,F1,F2,rfl,rfl,by simpa using h 0 v (by simp) (by simpa using hv),r1,Za.congr (λj u hj hu=>by
   have:=h (j+1) u (by simpa using hj) (by rwa[show p+(j+1)=p+1+j from by omega])
   rwa[show p'+1+j=p'+(j+1) from by omega]) r2⟩
theorem Ze.congr {P:Program} {w:World} {I:Nat->Prop} {c c':Array Value} {cts:List TypeId} {sz:Nat} (hsz:cts.length=sz):∀ {xs:List (List C)} {p p':Nat} {F:List Nat},(∀ (j:Nat) (v:Value),j<xs.length*sz->c[p+j]? = some v->c'[p'+j]? = some v)->Ze P w I c cts sz xs p F->Ze P w I c' cts sz xs p' F
 |[],_,_,_,_,r=>by simp only[Ze] at r⊢;exact r
 |x::xs,p,p',F,h,r=>by
  simp only[Ze] at r⊢
  obtain⟨F1,F2,rfl,r1,r2⟩:=r
  have hx:x.length=sz:=by rw[Za.length r1,hsz]
  have hm:(xs.length+1)*sz=xs.length*sz+sz:=Nat.succ_mul _ _
  refine⟨F1,F2,rfl,Za.congr (λj u hj hu=>h j u (by simp only[List.length_cons];omega) hu) r1,Ze.congr hsz (λj u hj hu=>?_) r2⟩
  have:=h (sz+j) u (by simp only[List.length_cons];omega) (by rwa[<- Nat.add_assoc])
  rwa[<- Nat.add_assoc] at this
theorem Ze.len {P:Program} {w:World} {I:Nat->Prop} {c:Array Value} {cts:List TypeId} {sz:Nat} (hsz:cts.length=sz):∀ {xs:List (List C)} {p:Nat} {F:List Nat},Ze P w I c cts sz xs p F->∀ x∈xs,x.length=sz
 |[],_,_,_,_,h=>by cases h
 |x::xs,p,F,r,y,h=>by
  simp only[Ze] at r
  obtain⟨F1,F2,rfl,r1,r2⟩:=r
  rcases List.mem_cons.mp h with rfl|h
  ·rw[Za.length r1,hsz]
  ·exact Ze.len hsz r2 y h
end Go.T
