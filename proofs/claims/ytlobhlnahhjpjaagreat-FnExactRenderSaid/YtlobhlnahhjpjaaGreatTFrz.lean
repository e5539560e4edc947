/- Wide calls freeze what they are handed. -/
import Derived.Test.YtlobhlnahhjpjaaGreatTTab
set_option linter.unusedVariables false
set_option linter.unusedSimpArgs false
namespace Go.T
def St.sets (st:St) (l:List (Nat×Obj)):St:=⟨st.tm.map (Zw l),ZG st.ob l⟩
theorem St.sets_nil (st:St):st.sets []=st:=by
 have:Zw []=id:=funext λt=>rfl
 simp[St.sets,this,ZG]
theorem St.sets_cons (st:St) (p:Nat×Obj) (l:List (Nat×Obj)):st.sets (p::l)=(st.setOb p.1 p.2).sets l:=by
 simp only[St.sets,St.setOb,List.map_map]
 rfl
theorem St.sets_append (st:St) (l1 l2:List (Nat×Obj)):st.sets (l1++l2)=(st.sets l1).sets l2:=by
 induction l1 generalizing st with
 |nil=>rw[List.nil_append,St.sets_nil]
 |cons x l1 ih=>rw[List.cons_append,St.sets_cons,St.sets_cons,ih]
theorem St.sets_gones (st:St) (mv:List Nat):st.gones mv=st.sets (mv.map (·,.gone)):=rfl
inductive Frz:St->List (Nat×Obj)->Prop
 |nil (st:St):Frz st []
 |row {st:St} {id:Nat} {og:Option Nat} {fr:Bool} {ct:TypeId} {xs:List (List C)} {l:List (Nat×Obj)} (h:st.ob[id]? = some (.row og fr ct xs)) (r:Frz (st.setOb id (.frz fr (C.immRows xs))) l):
   Frz st ((id,.frz fr (C.immRows xs))::l)
 |box {st:St} {id:Nat} {og:Option Nat} {t:TypeId} {cs:List T} {f:Bool} {ds:List D} {l:List (Nat×Obj)} (h:st.ob[id]? = some (.box og t cs)) (hd:ZbD true st cs=some (f,ds)) (r:Frz (st.setOb id (.fbx f ds)) l):
   Frz st ((id,.fbx f ds)::l)
theorem Frz.append {st:St} {l1 l2:List (Nat×Obj)} (h1:Frz st l1) (h2:Frz (st.sets l1) l2):Frz st (l1++l2):=by
 induction h1 with
 |nil st=>rw[St.sets_nil] at h2;exact h2
 |row h r ih=>rw[St.sets_cons] at h2;exact .row h (ih h2)
 |box h hd r ih=>rw[St.sets_cons] at h2;exact .box h hd (ih h2)
section
variable {P:Program} {X:Fix} {w:World} {g:G} {stL st:St} {a:Act}
theorem cellD_strict (hr:Rel P X w g stL a) {t:T} {f:Bool} {x:D} {v:Value} (h:cellD true st t=some (f,x)) (hs:ZW g stL st (Zo [t])) (r:Zb X w g t v):RdD w (g.IM X (f||Zag x)) x v:=by
 unfold cellD at h
 split at h
 ·injection h with h;injection h with h1 h2;subst h1 h2
  simp only[Zb] at r
  rename_i fr x
  cases hsc:Zag x with
  |true=>
   have hv:=Zb.scal_eq (X:=X) (w:=w) (g:=g) (fr:=fr) (v:=v) hsc (by simpa only[Zb] using r)
   subst hv
   exact RdD.scal hsc
  |false=>simpa using r
 ·injection h with h;injection h with h1 h2;subst h1 h2
  simp only[Zb] at r
  obtain⟨ad,rfl⟩:=r
  simp only[RdD]
  exact⟨ad,0,0,rfl,rfl,by omega,.inl trivial⟩
 ·rename_i id
  simp only[Zb] at r
  split at h
  ·simp at h
  ·rename_i ho
   injection h with h;injection h with h1 h2;subst h1 h2
   obtain⟨_,_,hrd,_⟩:=hs.obj hr (by simp[Zo]) ho
   rw[r.2]
   simpa[Zag] using hrd
  ·cases h
 ·cases h
theorem ZcV (hr:Rel P X w g stL a) {c:Array Value}:∀ {ts:List T} {f:Bool} {ds:List D} {vs:List Value} {p:Nat},ZbD true st ts=some (f,ds)->ZW g stL st (Zo ts)->Zh X w g ts vs->
  (∀ (j:Nat) (v:Value),vs[j]? = some v->c[p+j]? = some v)->Zi w (g.IM X f) c p ds/\ds.length=ts.length
 |[],f,ds,vs,p,h,hs,r,hc=>by
  simp only[ZbD] at h
  injection h with h;injection h with h1 h2;subst h1 h2
  simp[Zi]
 |t::ts,f,ds,vs,p,h,hs,r,hc=>by
  simp only[ZbD] at h
  split at h
  case h_2=>cases h
  rename_i f1 x f2 xs h1 h2
  injection h with h;injection h with e1 e2;subst e1 e2
  simp only[Zh] at r
  obtain⟨v,vs',rfl,_,r1,r2⟩:=r
  have hs1:ZW g stL st (Zo [t]):=hs.sub λid hid=>by
   simp only[Zo,List.flatMap_cons,List.mem_append] at hid⊢
   exact .inl (by simpa using hid)
  have hs2:ZW g stL st (Zo ts):=hs.sub λid hid=>by
   simp only[Zo,List.flatMap_cons,List.mem_append] at hid⊢
   exact .inr hid
  obtain⟨i1,i2⟩:=ZcV hr (p:=p+1) h2 hs2 r2 (λj u hu=>by
   have:=hc (j+1) u (by simpa using hu)
   rwa[show p+1+j=p+(j+1) from by omega])
  simp only[Zi]
  refine⟨⟨⟨v,by simpa using hc 0 v (by simp),RdD.weaken (λb hb=>IM_and hb) (cellD_strict hr h1 hs1 r1)⟩,?_⟩,by simp[i2]⟩
  exact Zi.mono ⟨λb hb=>IM_and' hb,λ_ _=>rfl⟩ i1
theorem cellD_all (hT:Zar P) (hr:Rel P X w g stL a) {J:Nat->Prop} (hI:∀ b,g.I b->J b) (hJ:∀ id,g.B id->∀ b∈g.fp id,J b) {s:Bool} {t:T} {f:Bool} {x:D} {v:Value} (h:cellD s st t=some (f,x)) (hs:ZW g stL st (Zo [t])) (r:Zb X w g t v):RdD w J x v:=by
 unfold cellD at h
 split at h
 ·injection h with h;injection h with h1 h2;subst h1 h2
  simp only[Zb] at r
  exact RdD.weaken (λb hb=>hI b hb.1) r
 ·injection h with h;injection h with h1 h2;subst h1 h2
  simp only[Zb] at r
  obtain⟨ad,rfl⟩:=r
  simp only[RdD]
  exact⟨ad,0,0,rfl,rfl,by omega,.inl trivial⟩
 ·rename_i id
  simp only[Zb] at r
  split at h
  ·rename_i ho
   cases s with
   |true=>simp at h
   |false=>
    simp only[cond_false] at h
    injection h with h;injection h with h1 h2;subst h1 h2
    obtain⟨_,hB,⟨row,_⟩,_⟩:=hs.obj hr (by simp[Zo]) ho
    rw[r.2]
    have:=OwC.imm (J:=J) (λb hb=>hI b hb.1) (λb hb=>hJ id hB b hb) hT row
    simpa only[C.imm] using this
  ·rename_i ho
   injection h with h;injection h with h1 h2;subst h1 h2
   obtain⟨_,_,hrd,_⟩:=hs.obj hr (by simp[Zo]) ho
   rw[r.2]
   exact RdD.weaken (λb hb=>hI b hb.1) hrd
  ·cases h
 ·cases h
theorem cellsD_all (hT:Zar P) (hr:Rel P X w g stL a) {J:Nat->Prop} (hI:∀ b,g.I b->J b) (hJ:∀ id,g.B id->∀ b∈g.fp id,J b) {s:Bool} {c:Array Value}:∀ {ts:List T} {f:Bool} {ds:List D} {vs:List Value} {p:Nat},ZbD s st ts=some (f,ds)->ZW g stL st (Zo ts)->Zh X w g ts vs->
  (∀ (j:Nat) (v:Value),vs[j]? = some v->c[p+j]? = some v)->Zi w J c p ds/\ds.length=ts.length
 |[],f,ds,vs,p,h,hs,r,hc=>by
  simp only[ZbD] at h
  injection h with h;injection h with h1 h2;subst h1 h2
  simp[Zi]
 |t::ts,f,ds,vs,p,h,hs,r,hc=>by
  simp only[ZbD] at h
  split at h
  case h_2=>cases h
  rename_i f1 x f2 xs h1 h2
  injection h with h;injection h with e1 e2;subst e1 e2
  simp only[Zh] at r
  obtain⟨v,vs',rfl,_,r1,r2⟩:=r
  have hs1:ZW g stL st (Zo [t]):=hs.sub λid hid=>by
   simp only[Zo,List.flatMap_cons,List.mem_append] at hid⊢
   exact .inl (by simpa using hid)
  have hs2:ZW g stL st (Zo ts):=hs.sub λid hid=>by
   simp only[Zo,List.flatMap_cons,List.mem_append] at hid⊢
   exact .inr hid
  obtain⟨i1,i2⟩:=cellsD_all hT hr hI hJ (p:=p+1) h2 hs2 r2 (λj u hu=>by
   have:=hc (j+1) u (by simpa using hu)
   rwa[show p+1+j=p+(j+1) from by omega])
  simp only[Zi]
  exact⟨⟨⟨v,by simpa using hc 0 v (by simp),cellD_all hT hr hI hJ h1 hs1 r1⟩,i1⟩,by simp[i2]⟩
end
end Go.T
