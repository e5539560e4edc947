/- Freezing steps,on the relation. -/
import Derived.Test.YtlobhlnahhjpjaaGreatTFrz
set_option linter.unusedVariables false
set_option linter.unusedSimpArgs false
namespace Go.T
theorem Rel.freezeBox {P:Program} {X:Fix} {w0 w:World} {g:G} {stL st:St} {a:Act} (hr:Rel P X w g stL a) (hs:Zac X w0 w) {id:Nat} {og:Option Nat} {t:TypeId} {cs:List T} {f:Bool} {ds:List D}
  (ho:stL.ob[id]? = some (.box og t cs)) (hB:g.B id) (hd:ZbD true st cs=some (f,ds)) (hS:ZW g stL st (Zo cs)):Rel P X w (g.frz id) (stL.setOb id (.fbx f ds)) a:=by
 obtain⟨o',ho',ro⟩:=hr.obs id hB
 rw[ho] at ho'
 injection ho' with ho'
 subst ho'
 simp only[Zn] at ro
 obtain⟨⟨b,c,e,hh,hfp,hb,rc⟩,horg⟩:=ro
 obtain⟨rd,_⟩:=ZcV hr (c:=c) (p:=0) hd hS rc (λj v hv=>by simpa using hv)
 have hx:=G.frz_ext hr.sep id
 refine Rel.update (λi=>i=id) hr hs ?_ rfl ⟨by simp[St.setOb,hr.tms.1],?_⟩ ?_ ?_
 ·refine⟨Nat.le_refl _,rfl,rfl,rfl,λ_ _ _=>rfl,λb hb=>.inl hb,λ_ h=>h,λ_ _=>rfl,λ_ _=>rfl,λi hi=>⟨λh=>h,λ_=>by simp only[G.frz];rw[if_neg hi]⟩,λi hi _=>by simp only[G.frz];rw[if_pos hi];simp,λi i' hi hi' hne=>absurd (hi.trans hi'.symm) hne,λb hb=>?_⟩
  rcases hb with hb|hb
  ·exact⟨hr.sep.imm b hb,.inl hb⟩
  ·exact⟨(hr.sep.mine id hB b hb).2.1,.inr (.inr ⟨id,rfl,hB,hb⟩)⟩
 ·intro i t ht
  rw[List.getElem?_map] at ht
  obtain⟨t0,ht0,rfl⟩:=Option.map_eq_some_iff.mp ht
  obtain⟨v0,hv0,_⟩:=hr.tms.2 i t0 ht0
  rcases Zbi [(id,Obj.gone)] t0 with⟨hk,hsub⟩|hk
  ·have hk':ZX id t0=t0:=hk
   refine .inr (.inr ⟨by rw[hk'];exact ht0,rfl,λid' j off e=>?_⟩)
   rw[hk'] at e
   exact λe'=>hsub id' j off e (id,.gone) (by simp) e'.symm
  ·exact .inl ⟨hk,v0,hv0⟩
 ·intro i hi
  rw[List.getElem?_set_ne (λe=>hi e.symm)]
 ·intro i hi _
  subst hi
  refine⟨.fbx f ds,?_,?_⟩
  ·rw[List.getElem?_set_self (List.getElem?_eq_some_iff.mp ho).1]
  ·simp only[Zn]
   refine⟨⟨b,c,e,(0,0),hh,.inr (by rw[hfp];simp),hb,Zi.mono (hx.keeps f) rd⟩,by simp[G.frz]⟩
theorem ZW.set {g g':G} {stL st:St} {l:List Nat} (h:ZW g stL st l) (hB:∀ i,g.B i->g'.B i) {id:Nat} (hid:id∈l) (o:Obj):ZW g' (stL.setOb id o) (st.setOb id o) l:=by
 intro i hi hsome
 simp only[St.setOb] at hsome⊢
 have hl:(st.ob[i]?).isSome:=by
  rw[List.getElem?_set] at hsome
  split at hsome
  ·split at hsome
   ·rename_i h1 h2;subst h1;simp[h2]
   ·simp at hsome
  ·exact hsome
 obtain⟨h1,h2⟩:=h i hi hl
 refine⟨?_,hB i h2⟩
 by_cases he:id=i
 ·subst he
  have l1:id<st.ob.length:=by simpa using hl
  have l2:id<stL.ob.length:=by
   have:(stL.ob[id]?).isSome:=by rw[h1];exact hl
   simpa using this
  rw[List.getElem?_set_self l2,List.getElem?_set_self l1]
 ·rw[List.getElem?_set_ne he,List.getElem?_set_ne he];exact h1
theorem Frz.sound {P:Program} {X:Fix} {w0 w:World} {a:Act} (hT:Zar P) (hs:Zac X w0 w) {l0:List Nat} {st:St} {l:List (Nat×Obj)} (h:Frz st l):∀ {g:G} {stL:St},Rel P X w g stL a->ZW g stL st l0->(∀ p∈l,p.1∈l0)->
  (∀ (id:Nat) (f:Bool) (ds:List D) (og:Option Nat) (t:TypeId) (cs:List T),(id,Obj.fbx f ds)∈l->st.ob[id]? = some (.box og t cs)->∀ j∈Zo cs,j∈l0)->
  ∃ g',Rel P X w g' (stL.sets l) a/\ZW g' (stL.sets l) (st.sets l) l0/\Ext w w g g' (λ_=>False)/\(∀ id,g'.B id↔g.B id)/\(∀ b,g'.I b->g.I b\/∃ id,g.B id/\b∈g.fp id)/\∀ id,id∉l.map (·.1)->g'.fp id=g.fp id:=by
 induction h with
 |nil st=>
  intro g stL hr hS _ _
  rw[St.sets_nil,St.sets_nil]
  exact⟨g,hr,hS,⟨λ_ h=>h,λ_ _ _=>rfl,λ_ _ h=>h,hr.sep.imm,λ_ h=>h,λ_ _=>rfl,λ_ _=>rfl⟩,λ_=>Iff.rfl,λ_ h=>.inl h,λ_ _=>rfl⟩
 |@row st id og fr ct xs l ho r ih=>
  intro g stL hr hS hl hbx
  have hid:=hl _ (List.mem_cons_self)
  obtain⟨h1,h2⟩:=hS id hid (by rw[ho];rfl)
  rw[ho] at h1
  have hr2:=Rel.freeze hT hr hs h1 h2
  obtain⟨g',q1,q2,q3,q4,q5,q6⟩:=ih hr2 (hS.set (g':=g.frz id) (λ_ h=>h) hid _) (λp hp=>hl p (List.mem_cons_of_mem _ hp)) (λi f' ds' og' t' cs' hi hb j hj=>by
   simp only[St.setOb] at hb
   rw[List.getElem?_set] at hb
   split at hb
   ·split at hb<;>simp at hb
   ·exact hbx i f' ds' og' t' cs' (List.mem_cons_of_mem _ hi) hb j hj)
  rw[St.sets_cons,St.sets_cons]
  have e1:=G.frz_ext hr.sep id
  refine⟨g',q1,q2,⟨λb hb=>q3.imp b (.inl hb),λ_ _ _=>rfl,λ_ _ h=>h,hr.sep.imm,λi h=>q3.B i h,λi h=>q3.hv i h,λi h=>q3.sz i h⟩,q4,λb hb=>?_,λi hi=>by
   simp only[List.map_cons,List.mem_cons,not_or] at hi
   rw[q6 i hi.2]
   simp only[G.frz]
   rw[if_neg hi.1]⟩
  rcases q5 b hb with(q|q)|⟨i,hi,hb'⟩
  ·exact .inl q
  ·exact .inr ⟨id,h2,q⟩
  ·simp only[G.frz] at hb'
   split at hb'
   ·cases hb'
   ·exact .inr ⟨i,hi,hb'⟩
 |@box st id og t cs f ds l ho hd r ih=>
  intro g stL hr hS hl hbx
  have hid:=hl _ (List.mem_cons_self)
  obtain⟨h1,h2⟩:=hS id hid (by rw[ho];rfl)
  rw[ho] at h1
  have hr2:=Rel.freezeBox hr hs h1 h2 hd (hS.sub (hbx id f ds og t cs (List.mem_cons_self) ho))
  obtain⟨g',q1,q2,q3,q4,q5,q6⟩:=ih hr2 (hS.set (g':=g.frz id) (λ_ h=>h) hid _) (λp hp=>hl p (List.mem_cons_of_mem _ hp)) (λi f' ds' og' t' cs' hi hb j hj=>by
   simp only[St.setOb] at hb
   rw[List.getElem?_set] at hb
   split at hb
   ·split at hb<;>simp at hb
   ·exact hbx i f' ds' og' t' cs' (List.mem_cons_of_mem _ hi) hb j hj)
  rw[St.sets_cons,St.sets_cons]
  refine⟨g',q1,q2,⟨λb hb=>q3.imp b (.inl hb),λ_ _ _=>rfl,λ_ _ h=>h,hr.sep.imm,λi h=>q3.B i h,λi h=>q3.hv i h,λi h=>q3.sz i h⟩,q4,λb hb=>?_,λi hi=>by
   simp only[List.map_cons,List.mem_cons,not_or] at hi
   rw[q6 i hi.2]
   simp only[G.frz]
   rw[if_neg hi.1]⟩
  rcases q5 b hb with(q|q)|⟨i,hi,hb'⟩
  ·exact .inl q
  ·exact .inr ⟨id,h2,q⟩
  ·simp only[G.frz] at hb'
   split at hb'
   ·cases hb'
   ·exact .inr ⟨i,hi,hb'⟩
end Go.T
