/- What a loop's head keeps. -/
import Derived.Test.YtlobhlnahhjpjaaGreatTReg4
set_option linter.unusedVariables false
set_option linter.unusedSimpArgs false
namespace Go.T
section
variable {P:Program} {X:Fix} {w0 w:World} {g:G} {st:St} {a:Act}
theorem nodup_eraseDups:∀ (n:Nat) (l:List Nat),l.length<=n->l.eraseDups.Nodup/\∀ x∈l.eraseDups,x∈l
 |_,[],_=>by simp
 |0,_::_,h=>by simp at h
 |n+1,a::l,h=>by
  rw[List.eraseDups_cons]
  obtain⟨h1,h2⟩:=nodup_eraseDups n (l.filter λb=>!b==a) (Nat.le_trans (List.length_filter_le _ _) (by simpa using h))
  refine⟨List.nodup_cons.mpr ⟨λhm=>?_,h1⟩,λx hx=>?_⟩
  ·have:=(List.mem_filter.mp (h2 a hm)).2
   simp at this
  ·rcases List.mem_cons.mp hx with rfl|hx
   ·simp
   ·exact List.mem_cons_of_mem _ (List.mem_filter.mp (h2 x hx)).1
theorem Rel.reset (hr:Rel P X w g st a) {id:Nat} {o:Obj} (ro:g.B id->Zn P X w g id o):Rel P X w g (st.setOb id o) a:=by
 refine⟨⟨by simp only[St.setOb,List.length_map];exact hr.tms.1,λi t ht=>?_⟩,λi hB=>?_,hr.sep,hr.def_⟩
 ·simp only[St.setOb] at ht
  rw[List.getElem?_map] at ht
  obtain⟨t0,ht0,rfl⟩:=Option.map_eq_some_iff.mp ht
  obtain⟨v,hv,rv⟩:=hr.tms.2 i t0 ht0
  rcases killSub_cases id t0 with⟨h,_⟩|h
  ·rw[h];exact⟨v,hv,rv⟩
  ·rw[h];exact⟨v,hv,by simp[Zb]⟩
 ·obtain⟨o0,ho0,r0⟩:=hr.obs i hB
  by_cases e:i=id
  ·subst e
   refine⟨o,?_,ro hB⟩
   simp only[St.setOb]
   rw[List.getElem?_set_self (List.getElem?_eq_some_iff.mp ho0).1]
  ·exact⟨o0,by rw[Za6 e];exact ho0,r0⟩
theorem Rel.setTm (hr:Rel P X w g st a) {i:Nat} {t:T} (h:∀ v,a.tmps[i]? = some v->Zb X w g t v):Rel P X w g { st with tm:=st.tm.set i t } a:=by
 refine⟨⟨by simp only[List.length_set];exact hr.tms.1,λj u hu=>?_⟩,hr.obs,hr.sep,hr.def_⟩
 simp only[List.getElem?_set] at hu
 split at hu
 ·rename_i e
  subst e
  split at hu
  ·rename_i hl
   injection hu with hu
   subst hu
   obtain⟨v,hv,_⟩:=hr.tms.2 i (st.tm[i]) (by simp[hl])
   exact⟨v,hv,h v hv⟩
  ·cases hu
 ·exact hr.tms.2 j u hu
theorem Rel.nilRow (hr:Rel P X w g st a) (fr:Bool) (ct:TypeId) (ad:Option Addr):Rel P X w (g.one [] st.ob.length [] (.slice ad 0 0) (Zl P ct)) (st.newOb (.row none fr ct [])) a/\Ext w w g (g.one [] st.ob.length [] (.slice ad 0 0) (Zl P ct)) (λ_=>False):=by
 have hn:¬ g.B st.ob.length:=λhB=>by
  obtain⟨o,ho,_⟩:=hr.obs _ hB
  have:=(List.getElem?_eq_some_iff.mp ho).1
  omega
 have hne:∀ id,g.B id->id≠st.ob.length:=λid hB e=>hn (e▸hB)
 have hfp:∀ id,g.B id->(g.one [] st.ob.length [] (.slice ad 0 0) (Zl P ct)).fp id=g.fp id:=λid hB=>by simp[G.one,hne id hB]
 have ext:Ext w w g (g.one [] st.ob.length [] (.slice ad 0 0) (Zl P ct)) (λ_=>False):=by
  refine⟨λ_ h=>h,λ_ _ _=>rfl,λ_ _ h=>h,hr.sep.imm,λ_ h=>.inl h,λid hB=>?_,λid hB=>?_⟩<;>simp[G.one,hne id hB]
 refine⟨⟨⟨hr.tms.1,λi t ht=>?_⟩,λid hB=>?_,⟨λid hB=>?_,λid id' hB hB' hne' b hb=>?_,λid hB b hb=>?_,hr.sep.imm,hr.sep.old,hr.sep.keep⟩,hr.def_⟩,ext⟩
 ·obtain⟨v,hv,rv⟩:=hr.tms.2 i t ht
  refine⟨v,hv,Zb.mono ext (λid j off e b hb=>?_) rv⟩
  subst e
  simp only[Zb] at rv
  exact⟨by rw[hfp id rv.1];exact hb,(hr.sep.mine id rv.1 b hb).2.1,λq=>q⟩
 ·rcases hB with hB|rfl
  ·obtain⟨o,ho,ro⟩:=hr.obs id hB
   refine⟨o,?_,Zn.mono ext hB (hfp id hB) (λb hb=>⟨λq=>q,(hr.sep.mine id hB b hb).2.1⟩) ro⟩
   simp only[St.newOb]
   rw[List.getElem?_append_left (List.getElem?_eq_some_iff.mp ho).1]
   exact ho
  ·refine⟨.row none fr ct [],by simp[St.newOb],?_⟩
   simp only[Zn]
   refine⟨⟨?_,by simp[G.one]⟩,by simp[G.one],by simp⟩
   simp only[OwC]
   exact⟨ad,0,by simp[G.one],.inl ⟨trivial,rfl,by simp[G.one]⟩⟩
 ·rcases hB with hB|rfl
  ·rw[hfp id hB];exact hr.sep.nodup id hB
  ·simp[G.one]
 ·rcases hB with hB|rfl
  ·rcases hB' with hB'|rfl
   ·rw[hfp id hB] at hb;rw[hfp id' hB'];exact hr.sep.apart id id' hB hB' hne' b hb
   ·simp[G.one]
  ·simp[G.one] at hb
 ·rcases hB with hB|rfl
  ·rw[hfp id hB] at hb;exact hr.sep.mine id hB b hb
  ·simp[G.one] at hb
def G.flt (g:G) (id:Nat):G where
 I b:=g.I b\/b∈(g.fp id).tail
 B:=g.B
 fp i:=if i=id then(g.fp id).take 1 else g.fp i
 hv:=g.hv
 sz:=g.sz
theorem G.flt_ext {X:Fix} {w:World} {g:G} (hsep:Sep X w g) (id:Nat):Ext w w g (g.flt id) (λ_=>False):=
 ⟨λb hb=>.inl hb,λ_ _ _=>rfl,λ_ _ h=>h,hsep.imm,λ_ h=>h,λ_ _=>rfl,λ_ _=>rfl⟩
theorem OwC.flat1 {P:Program} {w:World} {I J:Nat->Prop} (hJ:∀ b,I b->J b) (hT:Zar P) {x:C} {ct:TypeId} {v:Value} {F:List Nat} (hF:∀ b,b∈F->J b) (r:OwC P w I x ct v F):OwC P w J (.d x.imm) ct v []:=by
 simp only[OwC]
 exact⟨trivial,OwC.imm hJ hF hT r⟩
theorem Za.flat {P:Program} {w:World} {I J:Nat->Prop} (hJ:∀ b,I b->J b) (hT:Zar P) {c:Array Value}:∀ {xs:List C} {cts:List TypeId} {p:Nat} {F:List Nat},(∀ b,b∈F->J b)->Za P w I c xs cts p F->Za P w J c (xs.map λx=>.d x.imm) cts p []
 |[],_,_,_,_,r=>by simp only[Za] at r;simp only[List.map_nil,Za];exact⟨trivial,r.2⟩
 |x::xs,cts,p,F,hF,r=>by
  simp only[Za] at r
  obtain⟨ct,cts',v,F1,F2,hc,rfl,hv,r1,r2⟩:=r
  simp only[List.map_cons,Za]
  exact⟨ct,cts',v,[],[],hc,rfl,hv,OwC.flat1 hJ hT (λb hb=>hF b (by simp[hb])) r1,Za.flat hJ hT (λb hb=>hF b (by simp[hb])) r2⟩
theorem Ze.flat {P:Program} {w:World} {I J:Nat->Prop} (hJ:∀ b,I b->J b) (hT:Zar P) {c:Array Value} {cts:List TypeId} {sz:Nat}:∀ {xs:List (List C)} {p:Nat} {F:List Nat},(∀ b,b∈F->J b)->Ze P w I c cts sz xs p F->Ze P w J c cts sz (Zb6 xs) p []
 |[],_,_,_,r=>by simp only[Zb6,List.map_nil,Ze]
 |x::xs,p,F,hF,r=>by
  simp only[Ze] at r
  obtain⟨F1,F2,rfl,r1,r2⟩:=r
  simp only[Zb6,List.map_cons,Ze]
  exact⟨[],[],rfl,Za.flat hJ hT (λb hb=>hF b (by simp[hb])) r1,Ze.flat hJ hT (λb hb=>hF b (by simp[hb])) r2⟩
theorem OwC.flat {P:Program} {w:World} {I J:Nat->Prop} (hJ:∀ b,I b->J b) (hT:Zar P) {xs:List (List C)} {ct:TypeId} {v:Value} {F:List Nat} (hF:∀ b,b∈F.tail->J b) (r:OwC P w I (.own xs) ct v F):OwC P w J (.own (Zb6 xs)) ct v (F.take 1):=by
 simp only[OwC] at r⊢
 obtain⟨a,cap,hv,r⟩:=r
 refine⟨a,cap,by simpa[Zb6] using hv,?_⟩
 rcases r with⟨rfl,h0,rfl⟩|⟨b,o,c,e,F',ha,ho,rfl,hb,h0,hs,hl,r⟩
 ·exact .inl ⟨rfl,h0,rfl⟩
 ·exact .inr ⟨b,o,c,e,[],ha,ho,rfl,hb,h0,hs,by simpa[Zb6] using hl,Ze.flat hJ hT (λb hb=>hF b (by simpa using hb)) r⟩
theorem Rel.flatten (hT:Zar P) (hr:Rel P X w g st a) (hs:Zac X w0 w) {id:Nat} {og:Option Nat} {f fr:Bool} {ct:TypeId} {xs:List (List C)}
  (ho:st.ob[id]? = some (.row og f ct xs)) (hB:g.B id):Rel P X w (g.flt id) (st.setOb id (.row og (f&&fr) ct (Zb6 xs))) a:=by
 obtain⟨o',ho',ro⟩:=hr.obs id hB
 rw[ho] at ho'
 injection ho' with ho'
 subst ho'
 simp only[Zn] at ro
 obtain⟨⟨row,hz⟩,hfr,horg⟩:=ro
 have hnd:=hr.sep.nodup id hB
 have hpart:∀ b,b∈(g.fp id).take 1->b∈(g.fp id).tail->False:=by
  intro b h1 h2
  cases hfp:g.fp id with
  |nil=>rw[hfp] at h1;simp at h1
  |cons x l=>
   rw[hfp] at h1 h2 hnd
   simp at h1 h2
   subst h1
   exact(List.nodup_cons.mp hnd).1 h2
 refine Rel.update (λi=>i=id) hr hs ?_ rfl ⟨by simp[St.setOb,hr.tms.1],?_⟩ ?_ ?_
 ·refine⟨Nat.le_refl _,rfl,rfl,rfl,λ_ _ _=>rfl,λb hb=>.inl hb,λ_ h=>h,λ_ _=>rfl,λ_ _=>rfl,λi hi=>⟨λh=>h,λ_=>by simp only[G.flt];rw[if_neg hi]⟩,λi hi _=>?_,λi i' hi hi' hne=>absurd (hi.trans hi'.symm) hne,λb hb=>?_⟩
  ·subst hi
   simp only[G.flt,if_pos]
   refine⟨hnd.sublist (List.take_sublist 1 _),λb hb=>?_⟩
   have hm:=List.mem_of_mem_take hb
   refine⟨λq=>?_,(hr.sep.mine i hB b hm).2.1,λ_=>⟨i,rfl,hB,hm⟩⟩
   rcases q with q|q
   ·exact(hr.sep.mine i hB b hm).1 q
   ·exact hpart b hb q
  ·rcases hb with hb|hb
   ·exact⟨hr.sep.imm b hb,.inl hb⟩
   ·have hm:=List.mem_of_mem_tail hb
    exact⟨(hr.sep.mine id hB b hm).2.1,.inr (.inr ⟨id,rfl,hB,hm⟩)⟩
 ·intro i t ht
  rw[List.getElem?_map] at ht
  obtain⟨t0,ht0,rfl⟩:=Option.map_eq_some_iff.mp ht
  obtain⟨v0,hv0,_⟩:=hr.tms.2 i t0 ht0
  rcases Zbi [(id,Obj.gone)] t0 with⟨hk,hsub⟩|hk
  ·have hk':ZX id t0=t0:=hk
   refine .inr (.inr ⟨by rw[hk'];exact ht0,rfl,λid' j off e=>?_⟩)
   rw[hk'] at e
   exact λe'=>hsub id' j off e (id,.gone) (by simp) e'.symm
  ·exact .inl ⟨hk,v0,hv0⟩
 ·intro i hi
  rw[List.getElem?_set_ne (λe=>hi e.symm)]
 ·intro i hi _
  subst hi
  refine⟨.row og (f&&fr) ct (Zb6 xs),?_,?_⟩
  ·rw[List.getElem?_set_self (List.getElem?_eq_some_iff.mp ho).1]
  ·simp only[Zn]
   refine⟨⟨?_,hz⟩,λhf b hb=>?_,horg⟩
   ·have:=OwC.flat (J:=(g.flt i).IM X (f&&fr)) (λb hb=>⟨.inl hb.1,λe=>hb.2 (by simp at e;exact e.1)⟩) hT (λb hb=>⟨.inr hb,λe=>hfr (by simp at e;exact e.1) b (List.mem_of_mem_tail hb)⟩) row
    simpa[G.flt] using this
   ·simp only[G.flt,if_pos] at hb
    exact hfr (by simp at hf;exact hf.1) b (List.mem_of_mem_take hb)
theorem actT_sound (hT:Zar P) (hs:Zac X w0 w) (hr:Rel P X w g st a) {ka:KA} {t t':T} {st':St} {v:Value} (h:actT ka st t=some (t',st')) (r:Zb X w g t v):
  ∃ g',Rel P X w g' st' a/\Zb X w g' t' v/\Ext w w g g' (λ_=>False)/\(Zb4 t=false->Zb4 t'=false)/\(∀ (id:Nat) (og:Option Nat) (bt:TypeId) (cs:List T),st.ob[id]? = some (.box og bt cs)->st'.ob[id]? = some (.box og bt cs))/\st'.tm.length=st.tm.length/\(ZaC g st->ZaC g' st')/\(∀ b,g'.I b->g.I b\/∃ id,g.B id/\b∈g.fp id)/\(∀ id,g'.B id->∀ b,b∈g'.fp id->g.B id/\b∈g.fp id):=by
 have ext0:Ext w w g g (λ_=>False):=⟨λ_ h=>h,λ_ _ _=>rfl,λ_ _ h=>h,hr.sep.imm,λ_ h=>h,λ_ _=>rfl,λ_ _=>rfl⟩
 unfold actT at h
 split at h
 ·injection h with h;injection h with e1 e2;subst e1 e2
  exact⟨g,hr,r,ext0,λh=>h,λ_ _ _ _ h=>h,rfl,λh=>h,λ_ h=>.inl h,λ_ hB _ h=>⟨hB,h⟩⟩
 ·rename_i fr ct
  split at h
  ·injection h with h;injection h with e1 e2;subst e1 e2
   simp only[Zb] at r
   obtain⟨ad,rfl⟩:=r
   obtain⟨h1,h2⟩:=hr.nilRow fr ct ad
   refine⟨_,h1,?_,h2,λ_=>rfl,λid og bt cs ho=>?_,rfl,λhf id hid=>?_,λ_ h=>.inl h,λid hB b hb=>?_⟩
   ·simp only[Zb]
    exact⟨.inr rfl,by simp[G.one]⟩
   ·simp only[St.newOb]
    rw[List.getElem?_append_left (List.getElem?_eq_some_iff.mp ho).1]
    exact ho
   ·simp only[St.newOb,List.length_append,List.length_singleton] at hid
    rcases Nat.lt_or_ge id st.ob.length with q|q
    ·exact .inl (hf id q)
    ·exact .inr (by omega)
   ·simp only[G.one] at hb
    rcases hB with hB|rfl
    ·split at hb
     ·cases hb
     ·exact⟨hB,by simpa using hb⟩
    ·simp at hb
  ·rename_i id
   split at h
   case h_2=>cases h
   rename_i ro f z xs ho
   injection h with h;injection h with e1 e2;subst e1 e2
   simp only[Zb] at r
   obtain⟨o',ho',rel⟩:=hr.obs id r.1
   rw[ho] at ho'
   injection ho' with ho'
   subst ho'
   refine⟨g,hr.reset λ_=>?_,by simp only[Zb];exact r,ext0,λ_=>rfl,λi og bt cs hb=>?_,by simp[St.setOb],λhf id hid=>hf id (by simpa[St.setOb] using hid),λ_ h=>.inl h,λ_ hB _ h=>⟨hB,h⟩⟩
   ·simp only[Zn] at rel⊢
    obtain⟨⟨q1,q2⟩,q3,q4⟩:=rel
    exact⟨⟨OwC.weaken (λb hb=>IM_and hb) q1,q2⟩,λhf=>q3 (by simp at hf;exact hf.1),q4⟩
   ·rw[Za6 (λe=>by rw[e,ho] at hb;cases hb)]
    exact hb
  ·cases h
 ·rename_i fr
  split at h
  ·injection h with h;injection h with e1 e2;subst e1 e2
   simp only[Zb] at r
   obtain⟨ad,rfl⟩:=r
   refine⟨g,hr,?_,ext0,λ_=>rfl,λ_ _ _ _ h=>h,rfl,λh=>h,λ_ h=>.inl h,λ_ hB _ h=>⟨hB,h⟩⟩
   simp only[Zb,RdD]
   exact⟨ad,0,0,rfl,rfl,Nat.le_refl _,.inl trivial⟩
  ·injection h with h;injection h with e1 e2;subst e1 e2
   refine⟨g,hr,?_,ext0,λ_=>rfl,λ_ _ _ _ h=>h,rfl,λh=>h,λ_ h=>.inl h,λ_ hB _ h=>⟨hB,h⟩⟩
   simp only[Zb] at r⊢
   exact RdD.weaken (λb hb=>IM_and hb) r
  ·rename_i id
   simp only[Zb] at r
   split at h
   ·rename_i ro f z xs ho
    injection h with h;injection h with e1 e2;subst e1 e2
    have hr2:=Rel.freeze hT hr hs ho r.1
    have hx:=G.frz_ext hr.sep (w:=w) id
    refine⟨_,hr2,?_,hx,λ_=>rfl,λi og bt cs hb=>?_,by simp[St.setOb],λhf id hid=>hf id (by simpa[St.setOb] using hid),λb hb=>?_,λi hB b hb=>?_⟩
    rotate_left
    rotate_left
    ·rcases hb with hb|hb
     ·exact .inl hb
     ·exact .inr ⟨id,r.1,hb⟩
    ·simp only[G.frz] at hb
     split at hb
     ·cases hb
     ·exact⟨hB,hb⟩
    ·obtain⟨o',ho',rel⟩:=hr2.obs id r.1
     simp only[St.setOb] at ho'
     rw[List.getElem?_set_self (List.getElem?_eq_some_iff.mp ho).1] at ho'
     injection ho' with ho'
     subst ho'
     simp only[Zn] at rel
     simp only[Zb]
     rw[r.2]
     exact RdD.weaken (λb hb=>IM_and hb) rel.1
    ·rw[Za6 (λe=>by rw[e,ho] at hb;cases hb)]
     exact hb
   ·rename_i f xs ho
    injection h with h;injection h with e1 e2;subst e1 e2
    obtain⟨o',ho',rel⟩:=hr.obs id r.1
    rw[ho] at ho'
    injection ho' with ho'
    subst ho'
    simp only[Zn] at rel
    refine⟨g,hr,?_,ext0,λ_=>rfl,λ_ _ _ _ h=>h,rfl,λh=>h,λ_ h=>.inl h,λ_ hB _ h=>⟨hB,h⟩⟩
    simp only[Zb]
    rw[r.2]
    exact RdD.weaken (λb hb=>IM_and hb) rel.1
   ·cases h
  ·cases h
 ·rename_i fr ct
  split at h
  ·injection h with h;injection h with e1 e2;subst e1 e2
   simp only[Zb] at r
   obtain⟨ad,rfl⟩:=r
   obtain⟨h1,h2⟩:=hr.nilRow fr ct ad
   refine⟨_,h1,?_,h2,λ_=>rfl,λid og bt cs ho=>?_,rfl,λhf id hid=>?_,λ_ h=>.inl h,λid hB b hb=>?_⟩
   ·simp only[Zb]
    exact⟨.inr rfl,by simp[G.one]⟩
   ·simp only[St.newOb]
    rw[List.getElem?_append_left (List.getElem?_eq_some_iff.mp ho).1]
    exact ho
   ·simp only[St.newOb,List.length_append,List.length_singleton] at hid
    rcases Nat.lt_or_ge id st.ob.length with q|q
    ·exact .inl (hf id q)
    ·exact .inr (by omega)
   ·simp only[G.one] at hb
    rcases hB with hB|rfl
    ·split at hb
     ·cases hb
     ·exact⟨hB,by simpa using hb⟩
    ·simp at hb
  ·rename_i id
   split at h
   case h_2=>cases h
   rename_i ro f z xs ho
   injection h with h;injection h with e1 e2;subst e1 e2
   simp only[Zb] at r
   refine⟨_,Rel.flatten hT hr hs ho r.1,by simp only[Zb];exact r,G.flt_ext hr.sep id,λ_=>rfl,λi og bt cs hb=>?_,by simp[St.setOb],λhf i hid=>hf i (by simpa[St.setOb] using hid),λb hb=>?_,λi hB b hb=>?_⟩
   ·rw[Za6 (λe=>by rw[e,ho] at hb;cases hb)]
    exact hb
   ·rcases hb with hb|hb
    ·exact .inl hb
    ·exact .inr ⟨id,r.1,List.mem_of_mem_tail hb⟩
   ·simp only[G.flt] at hb
    split at hb
    ·rename_i e
     subst e
     exact⟨hB,List.mem_of_mem_take hb⟩
    ·exact⟨hB,hb⟩
  ·cases h
theorem Rel.getD (hr:Rel P X w g st a) (i:Nat):∃ v,Zb X w g (st.tm.getD i .any) v/\∀ u,a.tmps[i]? = some u->u=v:=by
 cases h:st.tm[i]? with
 |none=>
  refine⟨(a.tmps[i]?).getD undef,by simp[List.getD,h,Zb],λu hu=>by simp[hu]⟩
 |some t=>
  obtain⟨v,hv,rv⟩:=hr.tms.2 i t h
  refine⟨v,by simpa[List.getD,h] using rv,λu hu=>?_⟩
  rw[hv] at hu
  injection hu with hu
  exact hu.symm
theorem actSlots_sound (hT:Zar P) (hs:Zac X w0 w):∀ {l:List (Nat×KA)} {g:G} {st st':St},Rel P X w g st a->ZaC g st->actSlots l st=some st'->∃ g',Rel P X w g' st' a/\ZaC g' st'
 |[],g,st,st',hr,hf,h=>by
  simp only[actSlots] at h
  injection h with h;subst h
  exact⟨g,hr,hf⟩
 |(i,ka)::l,g,st,st',hr,hf,h=>by
  simp only[actSlots] at h
  split at h
  case h_2=>cases h
  rename_i t st1 h1
  obtain⟨v,rv,hv⟩:=hr.getD i
  obtain⟨g1,q1,q2,_,_,_,_,q7,_⟩:=actT_sound hT hs hr h1 rv
  exact actSlots_sound hT hs (q1.setTm (i:=i) (t:=t) λu hu=>by rw[hv u hu];exact q2) (q7 hf) h
theorem Zh.set:∀ {ts:List T} {vs:List Value} {j:Nat} {x:T},Zh X w g ts vs->Zb4 x=false->(∀ v,vs[j]? = some v->Zb X w g x v)->Zh X w g (ts.set j x) vs
 |[],_,_,_,r,_,_=>by simpa using r
 |t::ts,vs,j,x,r,h1,h2=>by
  simp only[Zh] at r
  obtain⟨v,vs',rfl,q1,q2,q3⟩:=r
  cases j with
  |zero=>
   simp only[List.set_cons_zero,Zh]
   exact⟨v,vs',rfl,h1,h2 v (by simp),q3⟩
  |succ j=>
   simp only[List.set_cons_succ,Zh]
   exact⟨v,vs',rfl,q1,q2,Zh.set q3 h1 λu hu=>h2 u (by simpa using hu)⟩
theorem actCells_sound (hT:Zar P) (hs:Zac X w0 w):∀ {l:List (Nat×Nat×KA)} {g:G} {st st':St},Rel P X w g st a->ZaC g st->actCells l st=some st'->∃ g',Rel P X w g' st' a/\ZaC g' st'
 |[],g,st,st',hr,hf,h=>by
  simp only[actCells] at h
  injection h with h;subst h
  exact⟨g,hr,hf⟩
 |(i,j,ka)::l,g,st,st',hr,hf,h=>by
  simp only[actCells] at h
  split at h
  case h_2=>cases h
  rename_i id off ht
  split at h
  case h_2=>cases h
  rename_i og bt cs ho
  split at h
  case h_2=>cases h
  rename_i x st1 h1
  obtain⟨v,rv,_⟩:=hr.getD i
  rw[ht] at rv
  simp only[Zb] at rv
  obtain⟨hB,_⟩:=rv
  obtain⟨o',ho',rel⟩:=hr.obs id hB
  rw[ho] at ho'
  injection ho' with ho'
  subst ho'
  simp only[Zn] at rel
  obtain⟨⟨b,c,e,hh,hfp,hb,rc⟩,horg⟩:=rel
  have hx:∃ u,Zb X w g (cs.getD j .any) u/\Zb4 (cs.getD j .any)=false/\∀ u',c.toList[j]? = some u'->u'=u:=by
   cases hj:cs[j]? with
   |none=>
    have:=Zh.length rc
    rw[List.getElem?_eq_none_iff] at hj
    refine⟨undef,by simp[List.getD,hj,Zb],by simp[List.getD,hj,Zb4],λu' hu'=>?_⟩
    have:=(List.getElem?_eq_some_iff.mp hu').1
    omega
   |some t=>
    obtain⟨q1,u,q2,q3⟩:=Zh.get rc hj
    refine⟨u,by simpa[List.getD,hj] using q3,by simpa[List.getD,hj] using q1,λu' hu'=>?_⟩
    rw[q2] at hu'
    injection hu' with hu'
    exact hu'.symm
  obtain⟨u,ru,hsub,huu⟩:=hx
  obtain⟨g1,q1,q2,q3,q4,q5,_,q7,_⟩:=actT_sound hT hs hr h1 ru
  have hB1:=q3.B id hB
  refine actCells_sound hT hs (q1.reset (id:=id) (o:=.box og bt (cs.set j x)) λ_=>?_) (λi hi=>q7 hf i (by simpa[St.setOb] using hi)) h
  obtain⟨o',ho',rel⟩:=q1.obs id hB1
  rw[q5 id og bt cs ho] at ho'
  injection ho' with ho'
  subst ho'
  simp only[Zn] at rel⊢
  obtain⟨⟨b',c',e',hh',hfp',hb',rc'⟩,horg'⟩:=rel
  rw[q3.hv id hB,hh] at hh'
  injection hh' with hh';injection hh' with hh';injection hh' with hh' _ _
  subst hh'
  rw[hb] at hb'
  injection hb' with hb';injection hb' with hb' _ _
  subst hb'
  refine⟨⟨b,c,e,by rw[q3.hv id hB];exact hh,hfp',hb,Zh.set rc' (q4 hsub) λu' hu'=>by rw[huu u' hu'];exact q2⟩,horg'⟩
end
section
variable {P:Program} {X:Fix} {w0 w:World} {g:G} {st:St} {a:Act}
def G.ren (g:G) (l:List Nat):G where
 I:=g.I
 B n:=∃ id,l[n]? = some id/\g.B id
 fp n:=g.fp (l.getD n 0)
 hv n:=g.hv (l.getD n 0)
 sz n:=g.sz (l.getD n 0)
theorem idxOf_get {l:List Nat} {id n:Nat} (h:l.idxOf? id=some n):l[n]? = some id:=by
 obtain⟨h1,h2,_⟩:=List.findIdx?_eq_some_iff_getElem.mp h
 rw[List.getElem?_eq_getElem h1]
 simpa using h2
mutual
theorem renT_sound {l:List Nat}:∀ {t t':T} {v:Value},renT l t=some t'->Zb X w g t v->Zb X w (g.ren l) t' v/\Zb4 t'=Zb4 t
 |.row id,t',v,h,r=>by
  simp only[renT] at h
  obtain⟨n,hn,rfl⟩:=Option.map_eq_some_iff.mp h
  have hg:=idxOf_get hn
  simp only[Zb] at r⊢
  exact⟨⟨⟨id,hg,r.1⟩,by simpa[G.ren,List.getD,hg] using r.2⟩,rfl⟩
 |.bp id off,t',v,h,r=>by
  simp only[renT] at h
  obtain⟨n,hn,rfl⟩:=Option.map_eq_some_iff.mp h
  have hg:=idxOf_get hn
  simp only[Zb] at r⊢
  exact⟨⟨⟨id,hg,r.1⟩,by simpa[G.ren,List.getD,hg] using r.2⟩,rfl⟩
 |.ep id i off,t',v,h,r=>by
  simp only[renT] at h
  obtain⟨n,hn,rfl⟩:=Option.map_eq_some_iff.mp h
  have hg:=idxOf_get hn
  simp only[Zb] at r⊢
  exact⟨⟨⟨id,hg,r.1⟩,by simpa[G.ren,List.getD,hg] using r.2⟩,rfl⟩
 |.sub id i off,t',v,h,r=>by
  simp only[renT] at h
  obtain⟨n,hn,rfl⟩:=Option.map_eq_some_iff.mp h
  have hg:=idxOf_get hn
  simp only[Zb] at r⊢
  exact⟨⟨⟨id,hg,r.1⟩,by simpa[G.ren,List.getD,hg] using r.2⟩,rfl⟩
 |.agg ts,t',v,h,r=>by
  simp only[renT] at h
  obtain⟨ts',hn,rfl⟩:=Option.map_eq_some_iff.mp h
  simp only[Zb] at r⊢
  obtain⟨cs,hv,r⟩:=r
  exact⟨⟨cs,hv,Zch hn r⟩,rfl⟩
 |.tup ts,t',v,h,r=>by
  simp only[renT] at h
  obtain⟨ts',hn,rfl⟩:=Option.map_eq_some_iff.mp h
  simp only[Zb] at r⊢
  obtain⟨cs,hv,r⟩:=r
  exact⟨⟨cs,hv,Zch hn r⟩,rfl⟩
 |.clo f ts,t',v,h,r=>by
  simp only[renT] at h
  obtain⟨ts',hn,rfl⟩:=Option.map_eq_some_iff.mp h
  simp only[Zb] at r⊢
  obtain⟨cs,hv,r⟩:=r
  exact⟨⟨cs,hv,Zch hn r⟩,rfl⟩
 |.d fr x,t',v,h,r=>by
  simp only[renT] at h
  injection h with h;subst h
  simp only[Zb] at r⊢
  exact⟨RdD.weaken (λb hb=>hb) r,trivial⟩
 |.nil,t',v,h,r=>by
  simp only[renT] at h
  injection h with h;subst h
  simp only[Zb] at r⊢
  exact⟨r,trivial⟩
 |.ip fr cs,t',v,h,r=>by
  simp only[renT] at h
  injection h with h;subst h
  simp only[Zb] at r⊢
  obtain⟨b,off,c,e,f,q1,q2,q3,q4⟩:=r
  exact⟨⟨b,off,c,e,f,q1,q2,q3,Zi.mono ⟨λb hb=>hb,λ_ _=>rfl⟩ q4⟩,trivial⟩
 |.undef,t',v,h,r=>by
  simp only[renT] at h
  injection h with h;subst h
  simp only[Zb] at r⊢
  exact⟨r,trivial⟩
 |.ub,t',v,h,r=>by
  simp only[renT] at h
  injection h with h;subst h
  simp only[Zb] at r⊢
  exact⟨r,trivial⟩
 |.any,t',v,h,r=>by
  simp only[renT] at h
  injection h with h;subst h
  simp only[Zb]
  exact⟨trivial,trivial⟩
theorem Zch {l:List Nat}:∀ {ts ts':List T} {vs:List Value},renTs l ts=some ts'->Zh X w g ts vs->Zh X w (g.ren l) ts' vs
 |[],ts',vs,h,r=>by
  simp only[renTs] at h
  injection h with h;subst h
  simpa only[Zh] using r
 |t::ts,ts',vs,h,r=>by
  simp only[renTs] at h
  split at h
  case h_2=>cases h
  rename_i x xs h1 h2
  injection h with h;subst h
  simp only[Zh] at r⊢
  obtain⟨v,vs',rfl,hs,r1,r2⟩:=r
  obtain⟨q1,q2⟩:=renT_sound h1 r1
  exact⟨v,vs',rfl,by rw[q2];exact hs,q1,Zch h2 r2⟩
end
theorem renTs_get {l:List Nat}:∀ {ts ts':List T},renTs l ts=some ts'->ts'.length=ts.length/\∀ (i:Nat) (t':T),ts'[i]? = some t'->∃ t,ts[i]? = some t/\renT l t=some t'
 |[],ts',h=>by
  simp only[renTs] at h
  injection h with h;subst h
  simp
 |t::ts,ts',h=>by
  simp only[renTs] at h
  split at h
  case h_2=>cases h
  rename_i x xs h1 h2
  injection h with h;subst h
  obtain⟨q1,q2⟩:=renTs_get h2
  refine⟨by simp[q1],λi t' ht=>?_⟩
  cases i with
  |zero=>simp at ht;subst ht;exact⟨t,by simp,h1⟩
  |succ i=>simpa using q2 i t' (by simpa using ht)
theorem keepT_get {keep:List (Nat×KA)}:∀ {ts:List T} {m:Nat},(keepT keep m ts).length=ts.length/\∀ (i:Nat) (t':T),(keepT keep m ts)[i]? = some t'->∃ t,ts[i]? = some t/\(t'=t\/t'=.any)
 |[],m=>by simp[keepT]
 |t::ts,m=>by
  obtain⟨q1,q2⟩:=keepT_get (keep:=keep) (ts:=ts) (m:=m+1)
  simp only[keepT]
  refine⟨by simp[q1],λi t' ht=>?_⟩
  cases i with
  |zero=>
   simp at ht
   subst ht
   refine⟨t,by simp,?_⟩
   cases keep.any λx=>x.1==m
   ·exact .inr rfl
   ·exact .inl rfl
  |succ i=>simpa using q2 i t' (by simpa using ht)
theorem mapObs_get {l:List Nat} {ob:List Obj}:∀ {ids:List Nat} {os:List Obj},mapObs l ob ids=some os->∀ (n:Nat) (id:Nat),ids[n]? = some id->∃ o o',os[n]? = some o'/\ob[id]? = some o/\renObj l o=some o'
 |[],os,h,n,id,hn=>by simp at hn
 |i::ids,os,h,n,id,hn=>by
  simp only[mapObs] at h
  split at h
  case h_2=>cases h
  rename_i o ho
  split at h
  case h_2=>cases h
  rename_i x xs h1 h2
  injection h with h;subst h
  cases n with
  |zero=>simp at hn;subst hn;exact⟨o,x,by simp,ho,h1⟩
  |succ n=>simpa using mapObs_get h2 n id (by simpa using hn)
theorem mapObs_len {l:List Nat} {ob:List Obj}:∀ {ids:List Nat} {os:List Obj},mapObs l ob ids=some os->os.length=ids.length
 |[],os,h=>by
  simp only[mapObs] at h
  injection h with h;subst h;rfl
 |i::ids,os,h=>by
  simp only[mapObs] at h
  split at h
  case h_2=>cases h
  split at h
  case h_2=>cases h
  rename_i h2
  injection h with h;subst h
  simp[mapObs_len h2]
theorem forget_sound {keep:Keep} {st':St} (hr:Rel P X w g st a) (hf:ZaC g st) (h:forget keep st=some st'):∃ g',Rel P X w g' st' a/\ZaC g' st':=by
 unfold forget at h
 simp only[] at h
 split at h
 case h_2=>cases h
 rename_i tm' ob' h1 h2
 injection h with h;subst h
 revert h1 h2
 have hnd0:∀ l:List Nat,l.eraseDups.Nodup:=λl=>(nodup_eraseDups l.length l (Nat.le_refl _)).1
 generalize hl:(List.eraseDups _:List Nat)=l
 intro h1 h2
 have hnd:l.Nodup:=by rw[<- hl];exact hnd0 _
 obtain⟨k1,k2⟩:=keepT_get (keep:=keep.slots) (ts:=st.tm) (m:=0)
 obtain⟨r1,r2⟩:=renTs_get h1
 have hfp:∀ n id,l[n]? = some id->(g.ren l).fp n=g.fp id/\(g.ren l).hv n=g.hv id/\(g.ren l).sz n=g.sz id:=by
  intro n id hn
  simp[G.ren,List.getD,hn]
 refine⟨g.ren l,⟨⟨by rw[r1,k1];exact hr.tms.1,λi t' ht=>?_⟩,λn hB=>?_,⟨λn hB=>?_,λn n' hB hB' hne b hb=>?_,λn hB b hb=>?_,hr.sep.imm,hr.sep.old,hr.sep.keep⟩,hr.def_⟩,λn hn=>?_⟩
 ·obtain⟨t1,ht1,hren⟩:=r2 i t' ht
  obtain⟨t0,ht0,hk⟩:=k2 i t1 ht1
  obtain⟨v,hv,rv⟩:=hr.tms.2 i t0 ht0
  refine⟨v,hv,(renT_sound (g:=g) hren ?_).1⟩
  rcases hk with rfl|rfl
  ·exact rv
  ·simp[Zb]
 ·obtain⟨id,hn,hB⟩:=hB
  obtain⟨o,o',ho',ho,hren⟩:=mapObs_get h2 n id hn
  obtain⟨o0,ho0,ro⟩:=hr.obs id hB
  rw[ho] at ho0
  injection ho0 with ho0
  subst ho0
  obtain⟨f1,f2,f3⟩:=hfp n id hn
  refine⟨o',ho',?_⟩
  cases o with
  |box og bt cs=>
   simp only[renObj] at hren
   obtain⟨cs',hcs,rfl⟩:=Option.map_eq_some_iff.mp hren
   simp only[Zn] at ro⊢
   rw[f1,f2]
   obtain⟨⟨b,c,e,q1,q2,q3,q4⟩,q5⟩:=ro
   exact⟨⟨b,c,e,q1,q2,q3,Zch hcs q4⟩,q5⟩
  |row og fr ct xs=>
   simp only[renObj] at hren
   injection hren with hren;subst hren
   simp only[Zn] at ro⊢
   rw[f1,f2,f3]
   exact⟨⟨OwC.weaken (λb hb=>hb) ro.1.1,ro.1.2⟩,ro.2⟩
  |frz fr xs=>
   simp only[renObj] at hren
   injection hren with hren;subst hren
   simp only[Zn] at ro⊢
   rw[f1,f2]
   exact⟨RdD.weaken (λb hb=>hb) ro.1,ro.2⟩
  |fbx fr cs=>
   simp only[renObj] at hren
   injection hren with hren;subst hren
   simp only[Zn] at ro⊢
   rw[f1,f2]
   obtain⟨⟨b,c,e,f,q1,q2,q3,q4⟩,q5⟩:=ro
   exact⟨⟨b,c,e,f,q1,q2,q3,Zi.mono ⟨λb hb=>hb,λ_ _=>rfl⟩ q4⟩,q5⟩
  |gone=>
   simp only[renObj] at hren
   injection hren with hren;subst hren
   simp only[Zn] at ro⊢
   rw[f1,f2]
   exact ro
 ·obtain⟨id,hn,hB⟩:=hB
  rw[(hfp n id hn).1];exact hr.sep.nodup id hB
 ·obtain⟨id,hn,hB⟩:=hB
  obtain⟨id',hn',hB'⟩:=hB'
  rw[(hfp n id hn).1] at hb
  rw[(hfp n' id' hn').1]
  refine hr.sep.apart id id' hB hB' (λe=>hne ?_) b hb
  subst e
  exact(List.getElem?_inj (List.getElem?_eq_some_iff.mp hn).1 hnd).mp (hn.trans hn'.symm)
 ·obtain⟨id,hn,hB⟩:=hB
  rw[(hfp n id hn).1] at hb
  exact hr.sep.mine id hB b hb
 ·simp only[] at hn
  rw[mapObs_len h2] at hn
  obtain⟨o,_,_,ho,_⟩:=mapObs_get h2 n l[n] (by simp[hn])
  exact⟨l[n],by simp[hn],hf _ (List.getElem?_eq_some_iff.mp ho).1⟩
theorem canon_sound (hT:Zar P) (hs:Zac X w0 w) {keep:Keep} {st':St} (hr:Rel P X w g st a) (hf:ZaC g st) (h:canon keep st=some st'):∃ g',Rel P X w g' st' a/\ZaC g' st':=by
 unfold canon at h
 split at h
 case h_2=>cases h
 rename_i st1 h1
 split at h
 case h_2=>cases h
 rename_i st2 h2
 obtain⟨g1,q1,f1⟩:=actSlots_sound hT hs hr hf h1
 obtain⟨g2,q2,f2⟩:=actCells_sound hT hs q1 f1 h2
 exact forget_sound q2 f2 h
end
end Go.T
