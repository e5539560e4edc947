/- Calls: what is handed over. -/
import Derived.Test.YtlobhlnahhjpjaaGreatTFrz2
set_option linter.unusedVariables false
set_option linter.unusedSimpArgs false
namespace Go.T
structure JOk (g:G) (s:Bool) (J:Nat->Prop):Prop where
 imp:∀ b,g.I b->J b
 all:s=false->∀ id,g.B id->∀ b∈g.fp id,J b
def ZaE (st:St) (t:T):List Nat:=
 match t with
 |.bp id _=>
  match st.ob[id]? with
  |some (.box _ _ cs)=>id::Zo cs
  |_=>[id]
 |_=>[]
theorem Zcv (st:St) (f:FuncId) (ts:List T):ZE st (.clo f ts)=ts.flatMap (ZaE st):=rfl
theorem lookT_agg (st:St) (ts:List T):ZE st (.agg ts)=Zo ts:=rfl
def Zau (st1 st:St):Prop:=∀ (id:Nat) (o:Obj),st1.ob[id]? = some o->o≠.gone->st.ob[id]? = some o
theorem Zau.refl (st:St):Zau st st:=λ_ _ h _=>h
theorem Zau.gones (st:St) (mv:List Nat):Zau (st.gones mv) st:=λ_ _ h ho=>(St.gones_ob h ho).2
theorem Zau.setOb (st:St) (id:Nat):Zau (st.setOb id .gone) st:=by
 have:=Zau.gones st [id]
 rwa[St.gones_cons,St.gones_nil] at this
theorem Zau.trans {a b c:St} (h1:Zau a b) (h2:Zau b c):Zau a c:=λid o h ho=>h2 id o (h1 id o h ho) ho
section
variable {s:Bool} {st1 st:St}
theorem cellD_under (hb:Zau st1 st) {t:T} {r:Bool×D} (h:cellD s st1 t=some r):cellD s st t=some r:=by
 unfold cellD at h⊢
 split at h
 ·exact h
 ·exact h
 ·split at h
  ·rename_i ho
   rw[hb _ _ ho (by simp)];exact h
  ·rename_i ho
   rw[hb _ _ ho (by simp)];exact h
  ·cases h
 ·cases h
theorem cellsD_under (hb:Zau st1 st):∀ {ts:List T} {r:Bool×List D},ZbD s st1 ts=some r->ZbD s st ts=some r
 |[],r,h=>h
 |t::ts,r,h=>by
  simp only[ZbD] at h⊢
  split at h
  case h_2=>cases h
  rename_i h1 h2
  rw[cellD_under hb h1,cellsD_under hb h2]
  exact h
theorem capD_under (hb:Zau st1 st) {t:T} {r:List D} (h:capD s st1 t=some r):capD s st t=some r:=by
 unfold capD at h⊢
 split at h
 ·split at h
  ·rename_i ho
   rw[hb _ _ ho (by simp)]
   cases s with
   |true=>exact h
   |false=>
    simp only[cond_false] at h⊢
    obtain⟨q,hq,e⟩:=Option.map_eq_some_iff.mp h
    rw[cellsD_under hb hq]
    simpa using e
  ·rename_i ho
   rw[hb _ _ ho (by simp)];exact h
  ·cases h
 ·exact h
 ·cases h
theorem capsD_under (hb:Zau st1 st):∀ {ts:List T} {r:List (List D)},capsD s st1 ts=some r->capsD s st ts=some r
 |[],r,h=>h
 |t::ts,r,h=>by
  simp only[capsD] at h⊢
  split at h
  case h_2=>cases h
  rename_i h1 h2
  rw[capD_under hb h1,capsD_under hb h2]
  exact h
theorem argD_under (hb:Zau st1 st) {t:T} {a:A} (h:argD s st1 t=some a):argD s st t=some a:=by
 unfold argD at h⊢
 split at h
 ·obtain⟨q,hq,e⟩:=Option.map_eq_some_iff.mp h
  rw[cellsD_under hb hq];simpa using e
 ·obtain⟨q,hq,e⟩:=Option.map_eq_some_iff.mp h
  rw[capsD_under hb hq];simpa using e
 ·exact h
 ·rename_i n1 n2 n3
  obtain⟨q,hq,e⟩:=Option.map_eq_some_iff.mp h
  rw[cellD_under hb hq];simpa using e
end
section
variable {P:Program} {X:Fix} {w:World} {g:G} {stL st:St} {a:Act} {s:Bool} {J:Nat->Prop}
theorem cellD_J (hT:Zar P) (hr:Rel P X w g stL a) (hJ:JOk g s J) {t:T} {f:Bool} {x:D} {v:Value} (h:cellD s st t=some (f,x)) (hs:ZW g stL st (Zo [t])) (r:Zb X w g t v):RdD w J x v:=by
 cases s with
 |true=>exact RdD.weaken (λb hb=>hJ.imp b hb.1) (cellD_strict hr h hs r)
 |false=>exact cellD_all hT hr hJ.imp (hJ.all rfl) h hs r
theorem cellsD_J (hT:Zar P) (hr:Rel P X w g stL a) (hJ:JOk g s J) {c:Array Value} {ts:List T} {f:Bool} {ds:List D} {vs:List Value} {p:Nat} (h:ZbD s st ts=some (f,ds)) (hs:ZW g stL st (Zo ts)) (r:Zh X w g ts vs)
  (hc:∀ (j:Nat) (v:Value),vs[j]? = some v->c[p+j]? = some v):Zi w J c p ds/\ds.length=ts.length:=by
 cases s with
 |true=>
  obtain⟨h1,h2⟩:=ZcV hr h hs r hc
  exact⟨Zi.mono ⟨λb hb=>hJ.imp b hb.1,λ_ _=>rfl⟩ h1,h2⟩
 |false=>exact cellsD_all hT hr hJ.imp (hJ.all rfl) h hs r hc
def PtrRd (w:World) (J:Nat->Prop) (cs:List D) (v:Value):Prop:=
 ∃ b off c e f,v=.pointer (some ⟨b,off,none⟩)/\J b/\w.heap[b]? = some (.cells c e f)/\Zi w J c off cs
theorem capD_J (hT:Zar P) (hr:Rel P X w g stL a) (hJ:JOk g s J) {t:T} {cs:List D} {v:Value} (h:capD s st t=some cs) (hs:ZW g stL st (ZaE st t)) (r:Zb X w g t v):PtrRd w J cs v:=by
 unfold capD at h
 split at h
 ·rename_i id
  simp only[Zb] at r
  obtain⟨_,b,hh,rfl⟩:=r
  split at h
  ·rename_i cs0 ho
   cases s with
   |true=>simp at h
   |false=>
    simp only[cond_false] at h
    obtain⟨q,hq,rfl⟩:=Option.map_eq_some_iff.mp h
    have hl:ZaE st (.bp id 0)=id::Zo cs0:=by simp only[ZaE,ho]
    rw[hl] at hs
    obtain⟨_,hB,⟨b',c,e,hh',hfp,hb,rc⟩,_⟩:=hs.obj hr (by simp) ho
    rw[hh] at hh'
    injection hh' with hh';injection hh' with hh';injection hh' with hh' _ _
    subst hh'
    obtain⟨q1,q2⟩:=q
    obtain⟨rd,_⟩:=cellsD_J hT hr hJ (c:=c) (p:=0) hq (hs.sub λi hi=>List.mem_cons_of_mem _ hi) rc (λj u hu=>by simpa using hu)
    exact⟨b,0,c,e,(0,0),rfl,hJ.all rfl id hB b (by rw[hfp];simp),hb,rd⟩
  ·rename_i ho
   injection h with h;subst h
   obtain⟨_,hB,⟨b',c,e,f,hh',hI,hb,rc⟩,_⟩:=hs.obj hr (by simp only[ZaE,ho];simp) ho
   rw[hh] at hh'
   injection hh' with hh';injection hh' with hh';injection hh' with hh' _ _
   subst hh'
   exact⟨b,0,c,e,f,rfl,hJ.imp b hI,hb,Zi.mono ⟨λb hb=>hJ.imp b hb.1,λ_ _=>rfl⟩ rc⟩
  ·cases h
 ·injection h with h;subst h
  simp only[Zb] at r
  obtain⟨b,off,c,e,f,rfl,hI,hb,rc⟩:=r
  exact⟨b,off,c,e,f,rfl,hJ.imp b hI.1,hb,Zi.mono ⟨λb hb=>hJ.imp b hb.1,λ_ _=>rfl⟩ rc⟩
 ·cases h
theorem capsD_J (hT:Zar P) (hr:Rel P X w g stL a) (hJ:JOk g s J):∀ {ts:List T} {cs:List (List D)} {vs:List Value},capsD s st ts=some cs->(∀ t∈ts,ZW g stL st (ZaE st t))->Zh X w g ts vs->Zay w J cs vs
 |[],cs,vs,h,_,r=>by
  simp only[capsD] at h
  injection h with h;subst h
  simpa only[Zay,Zh] using r
 |t::ts,cs,vs,h,hs,r=>by
  simp only[capsD] at h
  split at h
  case h_2=>cases h
  rename_i h1 h2
  injection h with h;subst h
  simp only[Zh] at r
  obtain⟨v,vs',rfl,_,r1,r2⟩:=r
  obtain⟨b,off,c,e,f,rfl,hI,hb,rc⟩:=capD_J hT hr hJ h1 (hs t (by simp)) r1
  simp only[Zay]
  exact⟨b,off,c,e,f,vs',rfl,hI,hb,rc,capsD_J hT hr hJ h2 (λt ht=>hs t (by simp[ht])) r2⟩
theorem argD_J (hT:Zar P) (hr:Rel P X w g stL a) (hJ:JOk g s J) {t:T} {x:A} {v:Value} {ct:TypeId} {Q:Nat->Prop} (h:argD s st t=some x) (hs:ZW g stL st (ZE st t)) (r:Zb X w g t v):ZJ P w J Q x (.imm,ct) v []:=by
 unfold argD at h
 split at h
 ·obtain⟨⟨q1,q2⟩,hq,rfl⟩:=Option.map_eq_some_iff.mp h
  simp only[Zb] at r
  obtain⟨cs,rfl,rs⟩:=r
  obtain⟨rd,hl⟩:=cellsD_J hT hr hJ (c:=cs.toArray) (p:=0) hq hs rs (λj u hu=>by simpa using hu)
  simp only[ZJ]
  exact⟨trivial,cs,rfl,by rw[Zh.length rs,hl],rd⟩
 ·obtain⟨q,hq,rfl⟩:=Option.map_eq_some_iff.mp h
  simp only[Zb] at r
  obtain⟨vs,rfl,rs⟩:=r
  simp only[ZJ,RdD]
  refine⟨trivial,vs,rfl,capsD_J hT hr hJ hq (λt ht=>hs.sub λid hid=>?_) rs⟩
  rw[Zcv]
  exact List.mem_flatMap.mpr ⟨t,ht,hid⟩
 ·injection h with h;subst h
  simp only[Zb] at r
  obtain⟨b,off,c,e,f,rfl,hI,hb,rc⟩:=r
  simp only[ZJ]
  exact⟨trivial,b,off,c,e,f,rfl,hJ.imp b hI.1,hb,Zi.mono ⟨λb hb=>hJ.imp b hb.1,λ_ _=>rfl⟩ rc⟩
 ·obtain⟨⟨q1,q2⟩,hq,rfl⟩:=Option.map_eq_some_iff.mp h
  simp only[ZJ]
  refine⟨trivial,cellD_J hT hr hJ hq (hs.sub λid hid=>?_) r⟩
  simp only[Zo,List.flatMap_cons,List.flatMap_nil,List.append_nil] at hid
  split at hid
  ·simp[ZE];simpa using hid
  ·cases hid
end
section
variable {P:Program} {w:World} {I:Nat->Prop}
theorem Za.cut {c:Array Value}:∀ {xs:List C} {cts:List TypeId} {p j:Nat} {F:List Nat} {x:C},Za P w I c xs cts p F->xs[j]? = some x->
  ∃ ct v A R B,cts[j]? = some ct/\F=A++R++B/\c[p+j]? = some v/\OwC P w I x ct v R/\∀ {w':World} {I':Nat->Prop} {y:C} {R':List Nat},KeepsO w w' I I' (A++B)->OwC P w' I' y ct v R'->Za P w' I' c (xs.set j y) cts p (A++R'++B)
 |[],_,_,_,_,_,_,h=>by simp at h
 |x0::xs,cts,p,j,F,x,r,h=>by
  simp only[Za] at r
  obtain⟨ct0,cts',v0,F1,F2,rfl,rfl,hv,r1,r2⟩:=r
  cases j with
  |zero=>
   simp at h;subst h
   refine⟨ct0,v0,[],F1,F2,by simp,by simp,by simpa using hv,r1,λhk hy=>?_⟩
   simp only[List.set_cons_zero,Za]
   exact⟨ct0,cts',v0,_,F2,rfl,by simp,hv,hy,Za.mono ⟨hk.toKeeps,λb hb=>hk.own b (by simp[hb])⟩ r2⟩
  |succ j=>
   obtain⟨ct,v,A,R,B,h1,rfl,h3,h4,h5⟩:=Za.cut r2 (j:=j) (by simpa using h)
   refine⟨ct,v,F1++A,R,B,by simpa using h1,by simp,by rwa[show p+(j+1)=p+1+j from by omega],h4,λ{w' I' y R'} hk hy=>?_⟩
   simp only[List.set_cons_succ,Za]
   refine⟨ct0,cts',v0,F1,A++R'++B,rfl,by simp,hv,OwC.mono ⟨hk.toKeeps,λb hb=>hk.own b (by simp[hb])⟩ r1,h5 ⟨hk.toKeeps,λb hb=>hk.own b ?_⟩ hy⟩
   rcases List.mem_append.mp hb with q|q<;>simp[q]
theorem Ze.cut {c:Array Value} {cts:List TypeId} {sz:Nat}:∀ {xs:List (List C)} {p i j:Nat} {F:List Nat} {row:List C} {x:C},Ze P w I c cts sz xs p F->xs[i]? = some row->row[j]? = some x->
  ∃ ct v A R B,cts[j]? = some ct/\F=A++R++B/\c[p+i*sz+j]? = some v/\OwC P w I x ct v R/\∀ {w':World} {I':Nat->Prop} {y:C} {R':List Nat},KeepsO w w' I I' (A++B)->OwC P w' I' y ct v R'->Ze P w' I' c cts sz (xs.modify i λr=>r.set j y) p (A++R'++B)
 |[],_,_,_,_,_,_,_,h,_=>by simp at h
 |x0::xs,p,i,j,F,row,x,r,h,hx=>by
  simp only[Ze] at r
  obtain⟨F1,F2,rfl,r1,r2⟩:=r
  cases i with
  |zero=>
   simp at h;subst h
   obtain⟨ct,v,A,R,B,h1,rfl,h3,h4,h5⟩:=Za.cut r1 hx
   refine⟨ct,v,A,R,B++F2,h1,by simp,by simpa using h3,h4,λ{w' I' y R'} hk hy=>?_⟩
   simp only[List.modify_zero_cons,Ze]
   refine⟨A++R'++B,F2,by simp,h5 ⟨hk.toKeeps,λb hb=>hk.own b ?_⟩ hy,Ze.mono ⟨hk.toKeeps,λb hb=>hk.own b (by simp[hb])⟩ r2⟩
   rcases List.mem_append.mp hb with q|q<;>simp[q]
  |succ i=>
   obtain⟨ct,v,A,R,B,h1,rfl,h3,h4,h5⟩:=Ze.cut r2 (i:=i) (by simpa using h) hx
   refine⟨ct,v,F1++A,R,B,h1,by simp,by rwa[show p+(i+1)*sz+j=p+sz+i*sz+j from by rw[Nat.succ_mul];omega],h4,λ{w' I' y R'} hk hy=>?_⟩
   simp only[List.modify_succ_cons,Ze]
   refine⟨F1,A++R'++B,by simp,Za.mono ⟨hk.toKeeps,λb hb=>hk.own b (by simp[hb])⟩ r1,h5 ⟨hk.toKeeps,λb hb=>hk.own b ?_⟩ hy⟩
   rcases List.mem_append.mp hb with q|q<;>simp[q]
end
inductive ZaH (st:St):List TypeId->List T->List C->List Nat->Prop
 |nil:ZaH st [] [] [] []
 |row {ct:TypeId} {cts:List TypeId} {id:Nat} {og:Option Nat} {fr:Bool} {xs:List (List C)} {ts:List T} {cs:List C} {mv:List Nat} (h:st.ob[id]? = some (.row og fr ct xs)) (r:ZaH st cts ts cs mv):
   ZaH st (ct::cts) (.row id::ts) (.own xs::cs) (id::mv)
 |none {ct:TypeId} {cts:List TypeId} {ts:List T} {cs:List C} {mv:List Nat} (r:ZaH st cts ts cs mv):ZaH st (ct::cts) (.nil::ts) (.own []::cs) mv
 |dat {ct:TypeId} {cts:List TypeId} {f:Bool} {x:D} {ts:List T} {cs:List C} {mv:List Nat} (r:ZaH st cts ts cs mv):ZaH st (ct::cts) (.d f x::ts) (.d x::cs) mv
inductive Lent (P:Program) (s:Bool) (st:St):List (Mode×TypeId)->List T->List A->List Nat->Prop
 |done:Lent P s st [] [] [] []
 |imm {ct:TypeId} {ms:List (Mode×TypeId)} {t:T} {ts:List T} {a:A} {as:List A} {mv:List Nat} (h:argD s st t=some a) (r:Lent P s st ms ts as mv):Lent P s st ((.imm,ct)::ms) (t::ts) (a::as) mv
 |immSub {ct:TypeId} {ms:List (Mode×TypeId)} {id i off:Nat} {og:Option Nat} {fr:Bool} {rt:TypeId} {xs:List (List C)} {c:List C} {x:C} {rest:List C} {ys:List (List D)} {ts:List T} {as:List A} {mv:List Nat} (hs:s=false)
   (h:st.ob[id]? = some (.row og fr rt xs)) (hc:xs[i]? = some c) (hd:c.drop off=x::rest) (hy:x.imm=.sl ys) (r:Lent P s st ms ts as mv):Lent P s st ((.imm,ct)::ms) (.sub id i off::ts) (.d (.sl ys)::as) mv
 |nil {ct:TypeId} {ms:List (Mode×TypeId)} {ts:List T} {as:List A} {mv:List Nat} (r:Lent P s st ms ts as mv):Lent P s st ((.nil,ct)::ms) (.nil::ts) (.nil::as) mv
 |row {ct:TypeId} {ms:List (Mode×TypeId)} {id:Nat} {og:Option Nat} {fr:Bool} {xs:List (List C)} {ts:List T} {as:List A} {mv:List Nat} (h:st.ob[id]? = some (.row og fr ct xs)) (r:Lent P s st ms ts as mv):
   Lent P s st ((.own,ct)::ms) (.row id::ts) (.own false [.own xs]::as) (id::mv)
 |agg {ct:TypeId} {ms:List (Mode×TypeId)} {cs:List T} {c:List C} {m:List Nat} {ts:List T} {as:List A} {mv:List Nat} (h:ZaH st (Zq P 6 ct) cs c m) (r:Lent P s st ms ts as mv):
   Lent P s st ((.own,ct)::ms) (.agg cs::ts) (.own true c::as) (m++mv)
 |sub {ct:TypeId} {ms:List (Mode×TypeId)} {id i off:Nat} {og:Option Nat} {fr:Bool} {rt:TypeId} {xs:List (List C)} {c:List C} {ys:List (List C)} {ts:List T} {as:List A} {mv:List Nat}
   (h:st.ob[id]? = some (.row og fr rt xs)) (ht:(ZQ P rt)[off]? = some ct) (hc:xs[i]? = some c) (hx:c[off]? = some (.own ys)) (r:Lent P s st ms ts as mv):
   Lent P s st ((.own,ct)::ms) (.sub id i off::ts) (.own false [.own ys]::as) (id::mv)
 |box {pt:TypeId} {ms:List (Mode×TypeId)} {id:Nat} {og:Option Nat} {cs:List T} {c:List C} {m:List Nat} {ts:List T} {as:List A} {mv:List Nat} (h:st.ob[id]? = some (.box og pt cs)) (hd:ZaH st (Zq P 6 pt) cs c m) (r:Lent P s st ms ts as mv):
   Lent P s st ((.box,pt)::ms) (.bp id 0::ts) (.box c::as) (id::(m++mv))
theorem ZaH.back {st1 st:St} (hb:Zau st1 st) {cts:List TypeId} {ts:List T} {cs:List C} {mv:List Nat} (h:ZaH st1 cts ts cs mv):ZaH st cts ts cs mv:=by
 induction h with
 |nil=>exact .nil
 |row h r ih=>exact .row (hb _ _ h (by simp)) ih
 |none r ih=>exact .none ih
 |dat r ih=>exact .dat ih
theorem Lent.back {P:Program} {s:Bool} {st1 st:St} (hb:Zau st1 st) {ms:List (Mode×TypeId)} {ts:List T} {as:List A} {mv:List Nat} (h:Lent P s st1 ms ts as mv):Lent P s st ms ts as mv:=by
 induction h with
 |done=>exact .done
 |imm h r ih=>exact .imm (argD_under hb h) ih
 |immSub hs h hc hd hy r ih=>exact .immSub hs (hb _ _ h (by simp)) hc hd hy ih
 |nil r ih=>exact .nil ih
 |row h r ih=>exact .row (hb _ _ h (by simp)) ih
 |agg h r ih=>exact .agg (h.back hb) ih
 |sub h ht hc hx r ih=>exact .sub (hb _ _ h (by simp)) ht hc hx ih
 |box h hd r ih=>exact .box (hb _ _ h (by simp)) (hd.back hb) ih
theorem ZaH.ids {st:St} {cts:List TypeId} {ts:List T} {cs:List C} {mv:List Nat} (h:ZaH st cts ts cs mv):rowIds ts=mv:=by
 induction h with
 |nil=>rfl
 |row h r ih=>simp only[rowIds,ih]
 |none r ih=>simp only[rowIds,ih]
 |dat r ih=>simp only[rowIds,ih]
theorem ZaH.rows {st:St} {cts:List TypeId} {ts:List T} {cs:List C} {mv:List Nat} (h:ZaH st cts ts cs mv):∀ id∈mv,∃ og fr ct xs,st.ob[id]? = some (.row og fr ct xs):=by
 induction h with
 |nil=>simp
 |row h r ih=>
  intro id hid
  rcases List.mem_cons.mp hid with rfl|hid
  ·exact⟨_,_,_,_,h⟩
  ·exact ih id hid
 |none r ih=>exact ih
 |dat r ih=>exact ih
theorem Lent.rows {P:Program} {s:Bool} {st:St} {ms:List (Mode×TypeId)} {ts:List T} {as:List A} {mv:List Nat} (h:Lent P s st ms ts as mv):∀ id∈mv,∃ o,st.ob[id]? = some o/\o≠.gone/\((∃ og fr ct xs,o=.row og fr ct xs)\/∃ og t cs,o=.box og t cs):=by
 induction h with
 |done=>simp
 |imm h r ih=>exact ih
 |immSub hs h hc hd hy r ih=>exact ih
 |nil r ih=>exact ih
 |row h r ih=>
  intro id hid
  rcases List.mem_cons.mp hid with rfl|hid
  ·exact⟨_,h,by simp,.inl ⟨_,_,_,_,rfl⟩⟩
  ·exact ih id hid
 |agg h r ih=>
  intro id hid
  rcases List.mem_append.mp hid with q|q
  ·obtain⟨og,fr,ct,xs,q⟩:=h.rows id q
   exact⟨_,q,by simp,.inl ⟨_,_,_,_,rfl⟩⟩
  ·exact ih id q
 |sub h ht hc hx r ih=>
  intro id hid
  rcases List.mem_cons.mp hid with rfl|hid
  ·exact⟨_,h,by simp,.inl ⟨_,_,_,_,rfl⟩⟩
  ·exact ih id hid
 |box h hd r ih=>
  intro id hid
  rcases List.mem_cons.mp hid with rfl|hid
  ·exact⟨_,h,by simp,.inr ⟨_,_,_,rfl⟩⟩
  ·rcases List.mem_append.mp hid with q|q
   ·obtain⟨og,fr,ct,xs,q⟩:=hd.rows id q
    exact⟨_,q,by simp,.inl ⟨_,_,_,_,rfl⟩⟩
   ·exact ih id q
theorem gones_mem {st:St} {m:List Nat} {id:Nat} {o:Obj} (h:(st.gones m).ob[id]? = some o) (ho:o≠.gone):id∉m:=(St.gones_ob h ho).1
theorem setOb_row {st:St} {id:Nat} {og:Option Nat} {fr:Bool} {ct:TypeId} {xs:List (List C)} (q:(st.setOb id .gone).ob[id]? = some (.row og fr ct xs)):False:=by
 have:(st.gones [id]).ob[id]? = some (.row og fr ct xs):=by rw[St.gones_cons,St.gones_nil];exact q
 exact gones_mem this (by simp) (by simp)
theorem setOb_some {st:St} {id:Nat} {o:Obj} (ho:o≠.gone) (q:(st.setOb id .gone).ob[id]? = some o):False:=by
 have:(st.gones [id]).ob[id]? = some o:=by rw[St.gones_cons,St.gones_nil];exact q
 exact gones_mem this ho (by simp)
theorem Za1:∀ {cts:List TypeId} {ts:List T} {st st':St} {cs:List C},Za2 st cts ts=some (cs,st')->∃ mv,ZaH st cts ts cs mv/\mv.Nodup/\st'=st.gones mv
 |[],[],st,st',cs,h=>by
  simp only[Za2] at h
  injection h with h;injection h with h1 h2;subst h1 h2
  exact⟨[],.nil,by simp,by rw[St.gones_nil]⟩
 |ct::cts,t::ts,st,st',cs,h=>by
  simp only[Za2] at h
  split at h
  ·rename_i id
   split at h
   ·rename_i og fr rt xs ho
    split at h
    case isFalse=>cases h
    rename_i hct
    subst hct
    split at h
    case h_2=>cases h
    rename_i cs1 st1 h1
    injection h with h;injection h with e1 e2;subst e1 e2
    obtain⟨mv,a1,a2,rfl⟩:=Za1 h1
    refine⟨id::mv,.row ho (a1.back (Zau.setOb _ _)),List.nodup_cons.mpr ⟨λhm=>?_,a2⟩,by rw[St.gones_cons]⟩
    obtain⟨_,_,_,_,q⟩:=a1.rows id hm
    exact setOb_row q
   ·cases h
  ·split at h
   case h_2=>cases h
   rename_i cs1 st1 h1
   injection h with h;injection h with e1 e2;subst e1 e2
   obtain⟨mv,a1,a2,rfl⟩:=Za1 h1
   exact⟨mv,.none a1,a2,rfl⟩
  ·split at h
   case h_2=>cases h
   rename_i cs1 st1 h1
   injection h with h;injection h with e1 e2;subst e1 e2
   obtain⟨mv,a1,a2,rfl⟩:=Za1 h1
   exact⟨mv,.dat a1,a2,rfl⟩
  ·cases h
 |[],_::_,_,_,_,h=>by simp[Za2] at h
 |_::_,[],_,_,_,h=>by simp[Za2] at h
theorem ZbX {β:Type} {P:Program} {s:Bool}:∀ {ms:List (Mode×TypeId)} {ts:List T} {st:St} {k:List A->St->Option β} {r:β},ZaY P s st ms ts k=some r->
  ∃ as mv,k as (st.gones mv)=some r/\Lent P s st ms ts as mv/\mv.Nodup
 |[],[],st,k,r,h=>by
  simp only[ZaY] at h
  exact⟨[],[],by rw[St.gones_nil];exact h,.done,by simp⟩
 |[],_::_,st,k,r,h=>by simp[ZaY] at h
 |(m,ct)::ms,[],st,k,r,h=>by cases m<;>simp[ZaY] at h
 |(.box,ct)::ms,t::ts,st,k,r,h=>by
  cases t<;>simp only[ZaY] at h<;>try (cases h;done)
  rename_i id off
  split at h
  case h_2=>cases h
  rename_i og bt cs ho
  split at h
  case isFalse=>cases h
  rename_i hbt
  obtain⟨rfl,rfl⟩:=hbt
  split at h
  case h_2=>cases h
  rename_i c st1 hl
  obtain⟨m,a1,a2,rfl⟩:=Za1 hl
  obtain⟨as,mv,h1,h2,h3⟩:=ZbX h
  refine⟨_,id::(m++mv),by rw[St.gones_cons,St.gones_append];exact h1,.box ho (a1.back (Zau.setOb _ _)) (h2.back ((Zau.gones _ _).trans (Zau.setOb _ _))),List.nodup_cons.mpr ⟨λhm=>?_,List.nodup_append.mpr ⟨a2,h3,λx hx y hy e=>?_⟩⟩⟩
  ·rcases List.mem_append.mp hm with hm|hm
   ·obtain⟨_,_,_,_,q⟩:=a1.rows id hm
    exact setOb_row q
   ·obtain⟨o,q,hne,_⟩:=h2.rows id hm
    exact setOb_some hne (Zau.gones _ _ _ _ q hne)
  ·subst e
   obtain⟨o,q,hne,_⟩:=h2.rows x hy
   exact gones_mem q hne hx
 |(.imm,ct)::ms,t::ts,st,k,r,h=>by
  simp only[ZaY] at h
  split at h
  ·cases s with
   |true=>simp at h
   |false=>
    simp only[cond_false] at h
    obtain⟨og,fr,rt,xs,c,x,rest,ys,ho,hc,hd,hy,h⟩:=subD_some h
    obtain⟨as,mv,h1,h2,h3⟩:=ZbX h
    exact⟨_,mv,h1,.immSub rfl ho hc hd hy h2,h3⟩
  ·split at h
   case h_2=>cases h
   rename_i a ha
   obtain⟨as,mv,h1,h2,h3⟩:=ZbX h
   exact⟨_,mv,h1,.imm ha h2,h3⟩
 |(.nil,ct)::ms,t::ts,st,k,r,h=>by
  cases t<;>simp only[ZaY] at h<;>try (cases h;done)
  obtain⟨as,mv,h1,h2,h3⟩:=ZbX h
  exact⟨_,mv,h1,.nil h2,h3⟩
 |(.own,ct)::ms,t::ts,st,k,r,h=>by
  have fresh:∀ (id:Nat) (as:List A) (mv:List Nat),Lent P s (st.setOb id .gone) ms ts as mv->id∉mv:=by
   intro id as mv a1 hm
   obtain⟨o,q,hne,_⟩:=a1.rows id hm
   exact setOb_some hne q
  cases t<;>simp only[ZaY] at h<;>try (cases h;done)
  ·rename_i cs
   split at h
   case h_2=>cases h
   rename_i c st' hl
   obtain⟨m,a1,a2,rfl⟩:=Za1 hl
   obtain⟨as,mv,h1,h2,h3⟩:=ZbX h
   refine⟨_,m++mv,by rw[St.gones_append];exact h1,.agg a1 (h2.back (Zau.gones _ _)),List.nodup_append.mpr ⟨a2,h3,λx hx y hy e=>?_⟩⟩
   subst e
   obtain⟨o,q,hne,_⟩:=h2.rows x hy
   exact gones_mem q hne hx
  ·rename_i id
   split at h
   case h_2=>cases h
   rename_i og fr rt xs ho
   split at h
   case isFalse=>cases h
   rename_i hct
   subst hct
   obtain⟨as,mv,h1,h2,h3⟩:=ZbX h
   exact⟨_,id::mv,by rw[St.gones_cons];exact h1,.row ho (h2.back (Zau.setOb _ _)),List.nodup_cons.mpr ⟨fresh id as mv h2,h3⟩⟩
  ·rename_i id i off
   split at h
   case h_2=>cases h
   rename_i og fr rt xs ho
   split at h
   case isFalse=>cases h
   rename_i hct
   obtain⟨c,hc,h⟩:=atNat_some h
   obtain⟨x,rest,hd,h⟩:=Zce h
   obtain⟨ys,rfl,h⟩:=Zcx h
   obtain⟨as,mv,h1,h2,h3⟩:=ZbX h
   have hx:c[off]? = some (.own ys):=by
    have:=congrArg (·[0]?) hd
    simpa using this
   exact⟨_,id::mv,by rw[St.gones_cons];exact h1,.sub ho hct hc hx (h2.back (Zau.setOb _ _)),List.nodup_cons.mpr ⟨fresh id as mv h2,h3⟩⟩
end Go.T
