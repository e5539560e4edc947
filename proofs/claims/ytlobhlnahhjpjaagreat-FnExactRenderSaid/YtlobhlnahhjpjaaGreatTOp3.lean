/- Loads. -/
import Derived.Test.YtlobhlnahhjpjaaGreatTOp2
set_option linter.unusedVariables false
set_option linter.unusedSimpArgs false
namespace Go.T
theorem ZW.obj {P:Program} {X:Fix} {w:World} {g:G} {stL st:St} {a:Act} {l:List Nat} (h:ZW g stL st l) (hr:Rel P X w g stL a) {id:Nat} {o:Obj} (hid:id∈l) (ho:st.ob[id]? = some o):
  stL.ob[id]? = some o/\g.B id/\Zn P X w g id o:=by
 obtain⟨h1,h2⟩:=h id hid (by rw[ho];rfl)
 rw[ho] at h1
 obtain⟨o',h3,h4⟩:=hr.obs id h2
 rw[h1] at h3
 injection h3 with h3
 subst h3
 exact⟨h1,h2,h4⟩
theorem ZbB {α:Type} {l:List α} {off n j:Nat} {x:α} (h:((l.drop off).take n)[j]? = some x):j<n/\l[off+j]? = some x:=by
 rw[List.getElem?_take] at h
 split at h
 ·exact⟨‹_›,by simpa using h⟩
 ·cases h
theorem OwC.row {P:Program} {w:World} {I:Nat->Prop} {xs:List (List C)} {ct:TypeId} {v:Value} {F:List Nat} (h:OwC P w I (.own xs) ct v F):
  ∃ a cap,v=.slice a xs.length cap/\((xs=[]/\cap=0/\F=[])\/
    ∃ b o c e F',a=some ⟨b,o,none⟩/\(cutTy ct=false->o=0)/\F=b::F'/\w.heap[b]? = some (.cells c e (0,0))/\0<Zl P ct/\c.size=o+cap*Zl P ct/\xs.length<=cap/\
     Ze P w I c (ZQ P ct) (Zl P ct) xs o F'):=by
 simpa only[OwC] using h
theorem OwC.row0 {P:Program} {w:World} {I:Nat->Prop} {xs:List (List C)} {ct:TypeId} {v:Value} {F:List Nat} (h:OwC P w I (.own xs) ct v F) (h0:cutTy ct=false):
  ∃ a cap,v=.slice a xs.length cap/\((xs=[]/\cap=0/\F=[])\/
    ∃ b c e F',a=some ⟨b,0,none⟩/\F=b::F'/\w.heap[b]? = some (.cells c e (0,0))/\0<Zl P ct/\c.size=cap*Zl P ct/\xs.length<=cap/\
     Ze P w I c (ZQ P ct) (Zl P ct) xs 0 F'):=by
 obtain⟨a,cap,hv,h⟩:=OwC.row h
 refine⟨a,cap,hv,?_⟩
 rcases h with h|⟨b,o,c,e,F',ha,ho,hF,hb,hz,hs,hl,r⟩
 ·exact .inl h
 ·obtain rfl:=ho h0
  exact .inr ⟨b,c,e,F',ha,hF,hb,hz,by omega,hl,r⟩
theorem OwC.mk0 {P:Program} {w:World} {I:Nat->Prop} {xs:List (List C)} {ct:TypeId} {v:Value} {F:List Nat} (h:∃ a cap,v=.slice a xs.length cap/\((xs=[]/\cap=0/\F=[])\/
    ∃ b c e F',a=some ⟨b,0,none⟩/\F=b::F'/\w.heap[b]? = some (.cells c e (0,0))/\0<Zl P ct/\c.size=cap*Zl P ct/\xs.length<=cap/\
     Ze P w I c (ZQ P ct) (Zl P ct) xs 0 F')):OwC P w I (.own xs) ct v F:=by
 obtain⟨a,cap,hv,h⟩:=h
 simp only[OwC]
 refine⟨a,cap,hv,?_⟩
 rcases h with h|⟨b,c,e,F',ha,hF,hb,hz,hs,hl,r⟩
 ·exact .inl h
 ·exact .inr ⟨b,0,c,e,F',ha,λ_=>rfl,hF,hb,hz,by omega,hl,r⟩
theorem load_fbx {β:Type} {P:Program} {st:St} {t:TypeId} {id off:Nat} {fr:Bool} {ds:List D} {k:T->Option β} {r:β} (h0:0<P.cellsOf t) (h1:ZU P t=false->P.cellsOf t=1) (hu:(P.underlying t).isSome=true)
  (h:(if ZU P t then(if off+P.cellsOf t<=ds.length then k (.agg (((ds.drop off).take (P.cellsOf t)).map (.d fr))) else none)
   else match ds[off]? with
    |some c=>k (.d fr c)
    |none=>none)=some r) (ho:st.ob[id]? = some (.fbx fr ds)):
  ∃ u,k u=some r/\∀ (X:Fix) (w:World) (g:G) (stL:St) (act:Act) (va:Value),Rel P X w g stL act->Zb X w g (.bp id off) va->ZW g stL st (ZE st (.bp id off))->
   ∃ v,(Instr.loadAt t va).run P w=.ok v w/\Zb X w g u v:=by
 split at h
 ·rename_i hg
  split at h
  case isFalse=>cases h
  rename_i hlen
  refine⟨_,h,λX w g stL act va hr ra hs=>?_⟩
  obtain⟨_,hB,⟨b',c,e,f,hh,hI,hb',rc⟩,_⟩:=hs.obj hr (by simp[ZE]) ho
  simp only[Zb] at ra
  obtain⟨_,b,hh',rfl⟩:=ra
  rw[hh] at hh'
  injection hh' with hh';injection hh' with hh';injection hh' with hh' _ _
  subst hh'
  obtain⟨vs,hvl,hv1,hv2⟩:=Zi.vals rc
  have hl:((vs.drop off).take (P.cellsOf t)).length=P.cellsOf t:=by simp;omega
  refine⟨_,Za7 hb' hu _ hl h0 h1 (λj v hv=>?_),?_⟩
  ·have:=hv1 _ _ (ZbB hv).2;simpa using this
  ·simp only[hg,if_true,Zb]
   refine⟨_,rfl,Zh.mk (by simp[hvl]) λj u hu'=>?_⟩
   rw[List.getElem?_map] at hu'
   obtain⟨d,hd,rfl⟩:=Option.map_eq_some_iff.mp hu'
   obtain⟨hj,hd⟩:=ZbB hd
   obtain⟨v,hv,rv⟩:=hv2 _ d hd
   refine⟨rfl,v,?_,by simpa only[Zb] using rv⟩
   rw[List.getElem?_take,if_pos hj]
   simpa using hv
 ·rename_i hg
  have hg':ZU P t=false:=by simpa using hg
  split at h
  case h_2=>cases h
  rename_i d hd
  refine⟨_,h,λX w g stL act va hr ra hs=>?_⟩
  obtain⟨_,hB,⟨b',c,e,f,hh,hI,hb',rc⟩,_⟩:=hs.obj hr (by simp[ZE]) ho
  simp only[Zb] at ra
  obtain⟨_,b,hh',rfl⟩:=ra
  rw[hh] at hh'
  injection hh' with hh';injection hh' with hh';injection hh' with hh' _ _
  subst hh'
  obtain⟨v,hv,rv⟩:=Zi.get rc hd
  refine⟨_,Za7 hb' hu [v] (by simp[h1 hg']) h0 h1 (λj x hx=>?_),?_⟩
  ·cases j with
   |zero=>simp at hx;subst hx;simpa using hv
   |succ j=>simp at hx
  ·simpa[hg',Zb] using rv
theorem load_sound {β:Type} {P:Program} {st:St} {t:TypeId} {a:T} {k:T->Option β} {r:β} (h:loadDen P st t a k=some r):
  ∃ u,k u=some r/\∀ (X:Fix) (w:World) (g:G) (stL:St) (act:Act) (va:Value),Rel P X w g stL act->Zb X w g a va->ZW g stL st (ZE st a)->
   ∃ v,(Instr.loadAt t va).run P w=.ok v w/\Zb X w g u v:=by
 unfold loadDen at h
 split at h
 case isFalse=>cases h
 rename_i hc
 obtain⟨hu,h0,hfl,h1⟩:=hc
 split at h
 ·-- a box
  rename_i id off
  split at h
  case h_3=>cases h
  case h_2=>
   rename_i fr ds ho
   exact load_fbx h0 h1 hu h ho
  rename_i og bt cs ho
  split at h
  ·rename_i hg
   split at h
   case isFalse=>cases h
   rename_i hlen
   refine⟨_,h,λX w g stL act va hr ra hs=>?_⟩
   obtain⟨_,hB,⟨b',c,e,hh,hfp,hb',rc⟩,_⟩:=hs.obj hr (by simp[ZE]) ho
   simp only[Zb] at ra
   obtain⟨_,b,hh',rfl⟩:=ra
   rw[hh] at hh'
   injection hh' with hh';injection hh' with hh';injection hh' with hh' _ _
   subst hh'
   have hcl:=Zh.length rc
   have hl:((c.toList.drop off).take (P.cellsOf t)).length=P.cellsOf t:=by simp at hcl⊢;omega
   refine⟨_,Za7 hb' hu _ hl h0 h1 (λj v hv=>?_),?_⟩
   ·have:=(ZbB hv).2;simpa using this
   ·simp only[hg,if_true,Zb]
    refine⟨_,rfl,Zh.mk (by simp at hl⊢;omega) λj u hu'=>?_⟩
    obtain⟨hj,hu'⟩:=ZbB hu'
    obtain⟨hs1,v,hv,rv⟩:=Zh.get rc hu'
    refine⟨hs1,v,?_,rv⟩
    rw[List.getElem?_take,if_pos hj]
    simpa using hv
  ·rename_i hg
   have hg':ZU P t=false:=by simpa using hg
   split at h
   case h_2=>cases h
   rename_i u hcu
   refine⟨_,h,λX w g stL act va hr ra hs=>?_⟩
   obtain⟨_,hB,⟨b',c,e,hh,hfp,hb',rc⟩,_⟩:=hs.obj hr (by simp[ZE]) ho
   simp only[Zb] at ra
   obtain⟨_,b,hh',rfl⟩:=ra
   rw[hh] at hh'
   injection hh' with hh';injection hh' with hh';injection hh' with hh' _ _
   subst hh'
   obtain⟨hs1,v,hv,rv⟩:=Zh.get rc hcu
   refine⟨_,Za7 hb' hu [v] (by simp[h1 hg']) h0 h1 (λj x hx=>?_),?_⟩
   ·cases j with
    |zero=>simp at hx;subst hx;simpa using hv
    |succ j=>simp at hx
   ·simpa[hg'] using rv
 ·-- immutable cells
  rename_i fr ds
  split at h
  ·rename_i hg
   split at h
   case isFalse=>cases h
   rename_i hlen
   refine⟨_,h,λX w g stL act va hr ra hs=>?_⟩
   simp only[Zb] at ra
   obtain⟨b,off,c,e,f,rfl,hI,hb,rc⟩:=ra
   obtain⟨vs,hvl,hv1,hv2⟩:=Zi.vals rc
   refine⟨_,Za7 hb hu (vs.take (P.cellsOf t)) (by simp[hvl];omega) h0 h1 (λj v hv=>?_),?_⟩
   ·rw[List.getElem?_take] at hv
    split at hv
    ·exact hv1 j v hv
    ·cases hv
   ·simp only[hg,if_true,Zb]
    refine⟨_,rfl,Zh.mk (by simp[hvl]) λj u hu'=>?_⟩
    rw[List.getElem?_map] at hu'
    obtain⟨d,hd,rfl⟩:=Option.map_eq_some_iff.mp hu'
    rw[List.getElem?_take] at hd
    split at hd
    ·rename_i hj
     obtain⟨v,hv,rv⟩:=hv2 j d hd
     refine⟨rfl,v,by rw[List.getElem?_take,if_pos hj];exact hv,?_⟩
     simpa only[Zb] using rv
    ·cases hd
  ·rename_i hg
   have hg':ZU P t=false:=by simpa using hg
   split at h
   case h_2=>cases h
   rename_i d ds'
   refine⟨_,h,λX w g stL act va hr ra hs=>?_⟩
   simp only[Zb] at ra
   obtain⟨b,off,c,e,f,rfl,hI,hb,rc⟩:=ra
   obtain⟨v,hv,rv⟩:=Zi.get rc (j:=0) (d:=d) (by simp)
   refine⟨_,Za7 hb hu [v] (by simp[h1 hg']) h0 h1 (λj x hx=>?_),?_⟩
   ·cases j with
    |zero=>simp at hx;subst hx;simpa using hv
    |succ j=>simp at hx
   ·simpa[hg',Zb] using rv
 ·-- an element of an own row
  rename_i id i off
  split at h
  case h_2=>cases h
  rename_i og fr rt xs ho
  split at h
  ·rename_i hk
   split at h
   case isFalse=>cases h
   rename_i hoff
   refine⟨_,h,λX w g stL act va hr ra hs=>?_⟩
   obtain⟨_,hB,⟨row,hsz⟩,_⟩:=hs.obj hr (by simp[ZE]) ho
   simp only[Zb] at ra
   obtain⟨_,b,o,len,cap,hh,hi,rfl⟩:=ra
   obtain⟨a',cap',hv',hrow⟩:=OwC.row row
   rw[hh] at hv'
   injection hv' with e1 e2 e3
   subst e1 e2 e3
   rcases hrow with⟨rfl,_,_⟩|⟨b',o',c,e,F',ea,ho0,hF,hb',hz,hcs,hle,rows⟩
   ·simp at hi
   ·injection ea with ea;injection ea with ea eo _
    subst ea eo
    have hlt:o+(i*Zl P rt+off)<c.size:=by
     have h3:off<(ZQ P rt).length:=(List.getElem?_eq_some_iff.mp hoff.1).1
     rw[hoff.2] at h3
     have h4:i*Zl P rt+Zl P rt<=cap*Zl P rt:=by rw[<- Nat.succ_mul];exact Nat.mul_le_mul_right _ (by omega)
     omega
    have hg':ZU P t=false:=by
     unfold Zam at hk
     unfold ZU
     split at hk<;>first|(rename_i hq;rw[hq])|cases hk
    rw[hsz]
    refine⟨_,Za7 hb' hu [c[o+(i*Zl P rt+off)]] (by simp[h1 hg']) h0 h1 (λj x hx=>?_),?_⟩
    ·cases j with
     |zero=>simp at hx;subst hx;simp[hlt]
     |succ j=>simp at hx
    ·simp only[hg',Bool.false_eq_true,if_false,List.headD_cons,Zb]
     exact⟨hB,b,o,xs.length,cap,c,e,(0,0),hh,by rw[hF];simp,hb',by rw[hsz];simp[hlt]⟩
  ·rename_i hk
   split at h
   case isFalse=>cases h
   rename_i hoff
   obtain⟨x,hx,h⟩:=atNat_some h
   obtain⟨ds,hk',hdl,hdt⟩:=asCellsC_some h
   refine⟨_,hk',λX w g stL act va hr ra hs=>?_⟩
   obtain⟨_,hB,⟨row,hsz⟩,_⟩:=hs.obj hr (by simp[ZE]) ho
   simp only[Zb] at ra
   obtain⟨_,b,o,len,cap,hh,hi,rfl⟩:=ra
   obtain⟨a',cap',hv',hrow⟩:=OwC.row row
   rw[hh] at hv'
   injection hv' with e1 e2 e3
   subst e1 e2 e3
   rcases hrow with⟨rfl,_,_⟩|⟨b',o',c,e,F',ea,ho0,hF,hb',hz,hcs,hle,rows⟩
   ·simp at hi
   ·injection ea with ea;injection ea with ea eo _
    subst ea eo
    obtain⟨Fx,cells,_⟩:=Ze.get rows hx
    have hkl:(ZaM P t).length=P.cellsOf t:=by simp[ZaM,hfl]
    have get:∀ j d,ds[j]? = some d->∃ v,c[o+(i*Zl P rt+off)+j]? = some v/\RdD w (g.IM X fr) d v:=by
     intro j d hd
     have h5:((x.drop off).take (ZaM P t).length)[j]? = some (.d d):=by rw[hdt];simp[hd]
     obtain⟨_,h6⟩:=ZbB h5
     obtain⟨ct,v,F1,_,hv,ow,_⟩:=Za.get cells h6
     simp only[OwC] at ow
     exact⟨v,by rw[<- hv];congr 1;omega,ow.2⟩
    have:∃ vs:List Value,vs.length=ds.length/\∀ (j:Nat) (d:D),ds[j]? = some d->∃ v,vs[j]? = some v/\c[o+(i*Zl P rt+off)+j]? = some v/\RdD w (g.IM X fr) d v:=by
     clear hk' hdl hdt h
     have gen:∀ (ds:List D) (n:Nat),(∀ j d,ds[j]? = some d->∃ v,c[n+j]? = some v/\RdD w (g.IM X fr) d v)->
       ∃ vs:List Value,vs.length=ds.length/\∀ (j:Nat) (d:D),ds[j]? = some d->∃ v,vs[j]? = some v/\c[n+j]? = some v/\RdD w (g.IM X fr) d v:=by
      intro ds
      induction ds with
      |nil=>intro n _;exact⟨[],rfl,by simp⟩
      |cons d ds ih=>
       intro n hget
       obtain⟨v,hv,rv⟩:=hget 0 d (by simp)
       obtain⟨vs,hl,hvs⟩:=ih (n+1) (λj d' hd=>by have:=hget (j+1) d' (by simpa using hd);rwa[show n+1+j=n+(j+1) from by omega])
       refine⟨v::vs,by simp[hl],λj d' hd=>?_⟩
       cases j with
       |zero=>simp at hd;subst hd;exact⟨v,by simp,by simpa using hv,rv⟩
       |succ j=>
        obtain⟨u,h1,h2,h3⟩:=hvs j d' (by simpa using hd)
        exact⟨u,by simpa using h1,by rwa[show n+(j+1)=n+1+j from by omega],h3⟩
     exact gen ds _ get
    obtain⟨vs,hvl,hvs⟩:=this
    rw[hsz]
    have hvl':vs.length=P.cellsOf t:=by rw[hvl,hdl,hkl]
    refine⟨_,Za7 hb' hu vs hvl' h0 h1 (λj v hv=>?_),?_⟩
    ·have hj:j<ds.length:=by rw[<- hvl];exact(List.getElem?_eq_some_iff.mp hv).1
     obtain⟨u,h1',h2',_⟩:=hvs j ds[j] (by simp[hj])
     rw[hv] at h1'
     injection h1' with h1'
     subst h1'
     exact h2'
    ·unfold wrapT
     have rel:Zh X w g (ds.map (.d fr)) vs:=Zh.mk (by simp[hvl]) λj u hu'=>by
      rw[List.getElem?_map] at hu'
      obtain⟨d,hd,rfl⟩:=Option.map_eq_some_iff.mp hu'
      obtain⟨v,h1',_,rv⟩:=hvs j d hd
      exact⟨rfl,v,h1',by simpa only[Zb] using rv⟩
     cases hg:ZU P t with
     |true=>simp only[if_true,Zb];exact⟨vs,rfl,rel⟩
     |false=>
      have hone:=h1 hg
      rw[hone] at hvl'
      match vs,ds,hvl',hvl,rel with
      |[v],[d],_,_,rel=>
       simp only[List.map_cons,List.map_nil,Zh] at rel
       obtain⟨v',vs',hv,_,rv,hn⟩:=rel
       simp at hv
       obtain⟨rfl,_⟩:=hv
       simpa using rv
 ·cases h
end Go.T
