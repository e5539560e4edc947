/- Stores. -/
import Derived.Test.YtlobhlnahhjpjaaGreatTLit
set_option linter.unusedVariables false
set_option linter.unusedSimpArgs false
namespace Go.T
theorem Array.getList {α:Type} {c:Array α} {l:List α} (h:c.toList=l) (j:Nat):c[j]? = l[j]?:=by rw[<- h,Array.getElem?_toList]
theorem Ze.set {P:Program} {w:World} {I:Nat->Prop} {c c':Array Value} {cts:List TypeId} {sz:Nat} (hsz:cts.length=sz) {xs:List (List C)} {F Fn:List Nat} {i off p0:Nat} {new:List C} {vals:List Value} (r:Ze P w I c cts sz xs p0 F) (hi:i<xs.length) (hoff:off+new.length<=sz)
  (hc':c'.toList=Zs c.toList (p0+(i*sz+off)) vals) (hv:vals.length=new.length) (hcs:p0+xs.length*sz<=c.size)
  (hn:Za P w I c' new ((cts.drop off).take new.length) (p0+(i*sz+off)) Fn):
  ∃ A R B,F=A++R++B/\Ze P w I c' cts sz (xs.modify i λx=>Zs x off new) p0 (A++Fn++B):=by
 have hisz:i*sz+sz<=xs.length*sz:=by rw[<- Nat.succ_mul];exact Nat.mul_le_mul_right _ hi
 have hfit:p0+(i*sz+off)+vals.length<=c.toList.length:=by simp;omega
 have hget:∀ j,c'[j]? = if p0+(i*sz+off)<=j/\j<p0+(i*sz+off)+vals.length then vals[j-(p0+(i*sz+off))]? else c[j]?:=by
  intro j
  rw[Array.getList hc',ZaK hfit]
  simp
 rw[List.modify_eq_take_cons_drop hi]
 have hxs:xs=xs.take i++xs[i]::xs.drop (i+1):=by rw[<- List.drop_eq_getElem_cons hi,List.take_append_drop]
 have htl:(xs.take i).length=i:=by simp;omega
 rw[hxs] at r
 obtain⟨Fp,Fr,rfl,r1,r2⟩:=Ze.append.mp r
 simp only[Ze] at r2
 obtain⟨Fx,Fq,rfl,r3,r4⟩:=r2
 have hxl:(xs[i]).length=sz:=by rw[Za.length r3,hsz]
 have hx:xs[i]=xs[i].take off++((xs[i].drop off).take new.length++xs[i].drop (off+new.length)):=by
  rw[<- List.drop_drop,List.take_append_drop,List.take_append_drop]
 rw[hx] at r3
 obtain⟨Fa,Fb,rfl,r5,r6⟩:=Za.append.mp r3
 obtain⟨Fm,Fc,rfl,r7,r8⟩:=Za.append.mp r6
 have l1:(xs[i].take off).length=off:=by simp;omega
 have l2:((xs[i].drop off).take new.length).length=new.length:=by simp;omega
 rw[l1] at r5 r6 r7 r8
 rw[l2] at r7 r8
 simp only[htl] at r3 r4 r5 r7 r8
 refine⟨Fp++Fa,Fm,Fc++Fq,by simp,?_⟩
 rw[show Fp++Fa++Fn++(Fc++Fq)=Fp++((Fa++(Fn++Fc))++Fq) from by simp]
 refine Ze.append.mpr ⟨Fp,_,rfl,Ze.congr hsz (λj v hj hv=>?_) r1,?_⟩
 ·rw[htl] at hj
  rw[hget,if_neg (by omega)];exact hv
 ·simp only[Ze]
  refine⟨_,Fq,rfl,?_,Ze.congr hsz (λj v hj hv=>?_) r4⟩
  ·unfold Zs
   rw[List.append_assoc]
   refine Za.append.mpr ⟨Fa,_,rfl,?_,Za.append.mpr ⟨Fn,Fc,rfl,?_,?_⟩⟩
   ·rw[l1]
    refine Za.congr (λj v hj hv=>?_) r5
    rw[l1] at hj
    rw[htl,hget,if_neg (by omega)];exact hv
   ·rw[l1,htl,Nat.add_assoc];exact hn
   ·rw[l1,htl]
    refine Za.congr (λj v hj hv=>?_) r8
    rw[List.length_drop,hxl] at hj
    rw[hget,if_neg (by omega)];exact hv
  ·rw[htl]
   rw[hget,if_neg (by omega)];exact hv
def G.re (g:G) (mv:List Nat) (id:Nat) (F:List Nat):G where
 I:=g.I
 B:=g.B
 fp i:=if i=id then F else if i∈mv then[] else g.fp i
 hv:=g.hv
 sz:=g.sz
section
variable {P:Program} {E:Env} {st:St} {β:Type} {k:St->Option β} {r:β} {dst:Option Nat} {ty:TypeId} {pos:String} {af:Array Edge} {gd:Option (Nat×Bool)}
theorem opStore {t:TypeId} {x y:Operand} (hT:Zar P) (h:ZL P E ⟨dst,.store t x y,ty,pos,af,gd⟩ st k=some r):ZD P E ⟨dst,.store t x y,ty,pos,af,gd⟩ st k r:=by
 simp only[ZL] at h
 unfold storeDen at h
 have mem_x:x∈(Op.store t x y).operands.toList:=by simp[Op.operands]
 have mem_y:y∈(Op.store t x y).operands.toList:=by simp[Op.operands]
 have run:∀ (a:Act) (w w':World),(Instr.storeAt t (a.eval x) (a.eval y)).run P w=.ok () w'->(execOp a.eval ⟨dst,.store t x y,ty,pos,af,gd⟩).run P w=.ok .skip w':=λa w w' h=>run_u h
 split at h
 case isFalse=>cases h
 rename_i hck
 obtain⟨hl,h0,hpl⟩:=hck
 split at h
 ·-- a box
  rename_i id off hx
  split at h
  case h_2=>cases h
  rename_i bo bt cs ho
  split at h
  case isFalse=>cases h
  rename_i hfit
  have hlt:=(List.getElem?_eq_some_iff.mp ho).1
  refine⟨⟨.undef,[(id,.box bo bt (Zs cs off (Zy (st.ev y))))],[]⟩,?_,by simpa using hlt,λ_ p hp=>(by simp at hp;subst hp;exact List.mem_append_left _ (by simp[storeAt,hx])),λX w0=>?_⟩
  ·have:st.app dst ⟨.undef,[(id,.box bo bt (Zs cs off (Zy (st.ev y))))],[]⟩=(st.setOb id (.box bo bt (Zs cs off (Zy (st.ev y))))).put dst .undef:=by
    simp only[St.app,St.setOb,List.append_nil];rfl
   rw[this];exact h
  ·refine OpOk.make' (by simpa using hlt) λstL g a w hr hs hR hl' _=>?_
   obtain⟨_,hB,⟨b,c,e,hh,hfp,hb,rc⟩,horg⟩:=hl'.obj hr (ZaS (o:=⟨dst,.store t x y,ty,pos,af,gd⟩) mem_x rfl id (by rw[hx];simp[ZE])) ho
   have rx:=hR x mem_x
   rw[hx] at rx
   simp only[Zb] at rx
   obtain⟨_,b',hh',hvx⟩:=rx
   rw[hh] at hh'
   injection hh' with hh';injection hh' with hh';injection hh' with hh' _ _
   subst hh'
   obtain⟨ry,r1⟩:=Zb.cells hr hpl (hR y mem_y)
   have lcs:=Zh.length rc
   have lny:=Zh.length ry
   simp at lcs lny
   obtain⟨w',c',hst,hset,hc'⟩:=run_storeAt (P:=P) (t:=t) hb h0 (by omega) (off:=off) (by omega) r1
   have hU:∀ i,Eff.U ⟨.undef,[(id,.box bo bt (Zs cs off (Zy (st.ev y))))],[]⟩ st.ob.length i↔i=id:=by
    intro i;simp[Eff.U,eq_comm];omega
   have hpool:∀ q,Pool g (Eff.U ⟨.undef,[(id,.box bo bt (Zs cs off (Zy (st.ev y))))],[]⟩ st.ob.length) q↔q=b:=by
    intro q
    constructor
    ·rintro⟨i,hi,_,hq⟩
     rw[(hU i).mp hi,hfp] at hq;simpa using hq
    ·rintro rfl
     exact⟨id,(hU id).mpr rfl,hB,by rw[hfp];simp⟩
   have turn:Turn X w w' g g (Eff.U ⟨.undef,[(id,.box bo bt (Zs cs off (Zy (st.ev y))))],[]⟩ st.ob.length):=by
    refine⟨by rw[hset.size];omega,hset.os,hset.tape,hset.output,λq _ hq=>hset.keep q (λe=>hq ((hpool q).mpr e)),λ_ h=>h,λ_ h=>h,λ_ _=>rfl,λ_ _=>rfl,λ_ _=>⟨λh=>h,λ_=>rfl⟩,λi hi hBi=>?_,λi i' hi hi' hne=>absurd (((hU i).mp hi).trans ((hU i').mp hi').symm) hne,λq hq=>⟨by rw[hset.size];exact hr.sep.imm q hq,.inl hq⟩⟩
    rw[(hU i).mp hi]
    refine⟨hr.sep.nodup id hB,λq hq=>⟨(hr.sep.mine id hB q hq).1,by rw[hset.size];exact(hr.sep.mine id hB q hq).2.1,λ_=>(hpool q).mpr (by rw[hfp] at hq;simpa using hq)⟩⟩
   refine⟨undef,w',g,λK Q hk=>wp_skip (run a w w' (by rw[hvx];exact hst)) hk,turn,λi=>by simp;omega,λp hp _=>?_,by simp,by simp[Zb]⟩
   simp at hp
   subst hp
   have ext:=turn.ext hr.sep
   simp only[Zn]
   refine⟨⟨b,c',e,hh,hfp,hset.at_,?_⟩,horg⟩
   rw[hc']
   exact Zh.splice (Zh.mono ext rc) (Zh.mono ext ry) (by omega)
 ·-- an element of an own row
  rename_i id i off hx
  split at h
  case h_2=>cases h
  rename_i f new st' hcc
  obtain⟨mv,hmv,hnd,rfl⟩:=cellsC_mv hcc
  split at h
  case h_2=>cases h
  rename_i ro fr rt xs ho'
  split at h
  case isFalse=>cases h
  rename_i hck2
  obtain⟨hoff,htys,hct⟩:=hck2
  obtain⟨hi,h⟩:=Zp h
  obtain⟨hnm,ho⟩:=St.gones_ob ho' (by simp)
  have hrows:=Zt.rows hmv
  have hnl:new.length=(Zy (st.ev y)).length:=by
   have gen:∀ (cts:List TypeId) (ts:List T) (f:Bool) (cs:List C) (mv:List Nat),Zt st cts ts f cs mv->cs.length=ts.length:=by
    intro cts
    induction cts with
    |nil=>intro ts f cs mv h;cases ts<;>simp only[Zt] at h;simp[h.2.1]
    |cons ct cts ih=>intro ts f cs mv h;cases ts with
     |nil=>simp only[Zt] at h
     |cons t ts=>simp only[Zt] at h;obtain⟨_,f2,c,cs',_,mv',_,rfl,_,_,h2⟩:=h;simp[ih ts f2 cs' mv' h2]
   exact gen _ _ _ _ _ hmv
  let row':Obj:=.row ro (fr&&f) rt (xs.modify i λc=>Zs c off new)
  have hltid:=(List.getElem?_eq_some_iff.mp ho).1
  have hltmv:∀ j∈mv,j<st.ob.length:=λj hj=>by obtain⟨⟨_,_,_,_,h1⟩,_⟩:=hrows j hj;exact(List.getElem?_eq_some_iff.mp h1).1
  have quiet:∀ p∈mv.map (·,Obj.gone)++[(id,row')],p.1∈turned ⟨dst,.store t x y,ty,pos,af,gd⟩ st (st.app dst ⟨.undef,mv.map (·,.gone)++[(id,row')],[]⟩):=by
   intro p hp
   rcases List.mem_append.mp hp with hp|hp
   ·obtain⟨j,hj,rfl⟩:=List.mem_map.mp hp
    obtain⟨⟨og,f0,ct0,xs0,hoj⟩,_⟩:=hrows j hj
    have hjid:id≠j:=λe=>hnm (e▸hj)
    refine List.mem_append_right _ (Zby hoj (o':=.gone) ?_ (by simp[tagOf]))
    obtain⟨o',h1,h2⟩:=ZbJ (mv.map (·,Obj.gone)) st.ob j ⟨(j,.gone),List.mem_map.mpr ⟨j,hj,rfl⟩,rfl⟩ (hltmv j hj)
    obtain⟨q,_,hq⟩:=List.mem_map.mp h1
    injection hq with _ hq
    subst hq
    simp only[St.app,put_ob,List.append_nil,ZG,List.foldl_append,List.foldl_cons,List.foldl_nil]
    rw[List.getElem?_set_ne hjid]
    exact h2
   ·simp at hp;subst hp;exact List.mem_append_left _ (by simp[storeAt,hx])
  refine⟨⟨.undef,mv.map (·,.gone)++[(id,row')],[]⟩,?_,?_,λ_=>quiet,λX w0=>?_⟩
  ·have:st.app dst ⟨.undef,mv.map (·,.gone)++[(id,row')],[]⟩=((st.gones mv).setOb id row').put dst .undef:=by
    simp only[St.app,St.setOb,St.gones,List.append_nil,List.map_map]
    congr 2
    ·apply List.map_congr_left
     intro t' _
     simp[Zw,List.foldl_append]
    ·simp[ZG,List.foldl_append]
   rw[this];exact h
  ·intro p hp
   rcases List.mem_append.mp hp with hp|hp
   ·obtain⟨j,hj,rfl⟩:=List.mem_map.mp hp
    exact hltmv j hj
   ·simp at hp;subst hp;exact hltid
  ·refine OpOk.make' (λp hp=>?_) λstL g a w hr hs hR hl' _=>?_
   ·rcases List.mem_append.mp hp with hp|hp
    ·obtain⟨j,hj,rfl⟩:=List.mem_map.mp hp
     exact hltmv j hj
    ·simp at hp;subst hp;exact hltid
   have lk:∀ z,z∈(Op.store t x y).operands.toList->∀ j∈ZE st (st.ev z),j∈Za9 ⟨dst,.store t x y,ty,pos,af,gd⟩ st:=λz hz=>ZaS (o:=⟨dst,.store t x y,ty,pos,af,gd⟩) hz
   obtain⟨_,hB,⟨row,hsz⟩,hfr,horg⟩:=hl'.obj hr (lk x mem_x id (by rw[hx];simp[ZE])) ho
   have hsY:ZW g stL st (Zo (Zy (st.ev y))):=hl'.sub λj hj=>lk y mem_y j (rowsOf_look j hj)
   have hmB:∀ j∈mv,g.B j:=Zt.held hr hmv hsY
   have rx:=hR x mem_x
   rw[hx] at rx
   simp only[Zb] at rx
   obtain⟨_,b,o,len,cap,hh,hil,hvx⟩:=rx
   obtain⟨a',cap',hv',hrow⟩:=OwC.row row
   rw[hh] at hv'
   injection hv' with e1 e2 e3
   subst e1 e2 e3
   rcases hrow with⟨rfl,_,_⟩|⟨b',o',c,e,F0,ea,ho0,hF,hb,hz,hcs,hle,rows⟩
   ·simp at hi
   injection ea with ea;injection ea with ea eo _
   subst ea eo
   obtain⟨ry,r1⟩:=Zb.cells hr hpl (hR y mem_y)
   have lny:=Zh.length ry
   simp at lny
   have hisz:i*Zl P rt+Zl P rt<=cap*Zl P rt:=by rw[<- Nat.succ_mul];exact Nat.mul_le_mul_right _ (by omega)
   have hlen0:xs.length*Zl P rt<=cap*Zl P rt:=Nat.mul_le_mul_right _ hle
   obtain⟨w',c',hst,hset,hc'⟩:=run_storeAt (P:=P) (t:=t) hb h0 (by omega) (off:=o+(i*Zl P rt+off)) (by omega) r1
   -- what is held
   have hdisj:∀ q,q∈mv.flatMap g.fp->q∉g.fp id:=by
    intro q hq hq'
    obtain⟨j,hj,hq⟩:=List.mem_flatMap.mp hq
    exact hr.sep.apart j id (hmB j hj) hB (λe=>hnm (e▸hj)) q hq hq'
   have hbI:¬ g.I b:=(hr.sep.mine id hB b (by rw[hF];simp)).1
   have hbn:b∉F0:=by
    have:=hr.sep.nodup id hB
    rw[hF] at this
    exact(List.nodup_cons.mp this).1
   have hbm:b∉mv.flatMap g.fp:=λq=>hdisj b q (by rw[hF];simp)
   have hnew:=Zt.sound (P:=P) (c:=c') (p:=o+(i*Zl P rt+off)) hr hmv hsY ry (λj v hv=>by
    have hj:=(List.getElem?_eq_some_iff.mp hv).1
    rw[Array.getList hc',ZaK (by simp at hj⊢;omega),if_pos (by omega),Nat.add_sub_cancel_left]
    exact hv)
   have hfresh:=Zt.fresh (P:=P) hr hmv hsY
   have rows':Ze P w (g.IM X (fr&&f)) c (ZQ P rt) (Zl P rt) xs o F0:=Ze.weaken (λb hb=>IM_and hb) rows
   obtain⟨A,R,B,hABR,hset'⟩:=Ze.set (Fn:=mv.flatMap g.fp) (new:=new) (off:=off) (i:=i) hct rows' hi hoff hc' (by simp;omega) (by omega) (by rw[htys];exact Za.weaken (λb hb=>IM_and' hb) hnew)
   have hsubF:∀ q∈b::(A++mv.flatMap g.fp++B),q∈g.fp id\/q∈mv.flatMap g.fp:=by
    intro q hq
    rw[hF,hABR]
    simp only[List.mem_cons,List.mem_append] at hq⊢
    rcases hq with h|(h|h)|h
    ·exact .inl (.inl h)
    ·exact .inl (.inr (.inl (.inl h)))
    ·exact .inr h
    ·exact .inl (.inr (.inr h))
   have hndF:(b::(A++mv.flatMap g.fp++B)).Nodup:=by
    have h1:=hr.sep.nodup id hB
    rw[hF,hABR] at h1
    have h2:=Zcw hr.sep hnd hmB
    have h3:(A++B).Nodup:=by
     have:=(List.nodup_cons.mp h1).2
     refine List.Sublist.nodup ?_ this
     exact List.Sublist.append (List.sublist_append_left _ _) (List.Sublist.refl _)
    have h4:∀ q∈A++B,q∈g.fp id:=by
     intro q hq
     rw[hF,hABR]
     simp only[List.mem_append,List.mem_cons] at hq⊢
     rcases hq with h|h
     ·exact .inr (.inl (.inl h))
     ·exact .inr (.inr h)
    have h5:=List.nodup_append.mp h3
    refine List.nodup_cons.mpr ⟨λhq=>?_,?_⟩
    ·rcases hsubF b (List.mem_cons_of_mem _ hq) with q|q
     ·simp only[List.mem_append] at hq
      rcases hq with(h|h)|h
      ·exact hbn (by rw[hABR];simp[h])
      ·exact hbm h
      ·exact hbn (by rw[hABR];simp[h])
     ·exact hbm q
    ·rw[List.append_assoc]
     refine List.nodup_append.mpr ⟨h5.1,List.nodup_append.mpr ⟨h2,h5.2.1,λq hq q' hq' e=>?_⟩,λq hq q' hq' e=>?_⟩
     ·subst e;exact hdisj q hq (h4 q (by simp[hq']))
     ·subst e
      rcases List.mem_append.mp hq' with hq'|hq'
      ·exact hdisj q hq' (h4 q (by simp[hq]))
      ·exact h5.2.2 q hq q hq' rfl
   have hU:∀ j,Eff.U ⟨.undef,mv.map (·,Obj.gone)++[(id,row')],[]⟩ st.ob.length j↔j=id\/j∈mv:=by
    intro j
    simp only[Eff.U,List.mem_append,List.mem_map,List.mem_singleton,List.length_nil]
    constructor
    ·rintro(⟨p,⟨q,hq,rfl⟩|rfl,rfl⟩|h)
     ·exact .inr hq
     ·exact .inl rfl
     ·omega
    ·rintro(rfl|h)
     ·exact .inl ⟨(j,row'),.inr rfl,rfl⟩
     ·exact .inl ⟨(j,.gone),.inl ⟨j,h,rfl⟩,rfl⟩
   have hpool:∀ q,Pool g (Eff.U ⟨.undef,mv.map (·,Obj.gone)++[(id,row')],[]⟩ st.ob.length) q↔q∈g.fp id\/q∈mv.flatMap g.fp:=by
    intro q
    constructor
    ·rintro⟨j,hj,_,hq⟩
     rcases(hU j).mp hj with rfl|hj
     ·exact .inl hq
     ·exact .inr (List.mem_flatMap.mpr ⟨j,hj,hq⟩)
    ·rintro(hq|hq)
     ·exact⟨id,(hU id).mpr (.inl rfl),hB,hq⟩
     ·obtain⟨j,hj,hq⟩:=List.mem_flatMap.mp hq
      exact⟨j,(hU j).mpr (.inr hj),hmB j hj,hq⟩
   have hmine:∀ q,q∈g.fp id\/q∈mv.flatMap g.fp->¬ g.I q/\q<w.heap.size:=by
    rintro q (hq|hq)
    ·exact⟨(hr.sep.mine id hB q hq).1,(hr.sep.mine id hB q hq).2.1⟩
    ·obtain⟨j,hj,hq⟩:=List.mem_flatMap.mp hq
     exact⟨(hr.sep.mine j (hmB j hj) q hq).1,(hr.sep.mine j (hmB j hj) q hq).2.1⟩
   have turn:Turn X w w' g (g.re mv id (b::(A++mv.flatMap g.fp++B))) (Eff.U ⟨.undef,mv.map (·,Obj.gone)++[(id,row')],[]⟩ st.ob.length):=by
    refine⟨by rw[hset.size];omega,hset.os,hset.tape,hset.output,λq _ hq=>hset.keep q (λe=>hq ((hpool q).mpr (.inl (by rw[e,hF];simp)))),λ_ h=>h,λ_ h=>h,λ_ _=>rfl,λ_ _=>rfl,λj hj=>⟨λh=>h,λ_=>?_⟩,λj hj hBj=>?_,λj j' hj hj' hne hBj hBj' q hq hq'=>?_,λq hq=>⟨by rw[hset.size];exact hr.sep.imm q hq,.inl hq⟩⟩
    ·rw[hU] at hj
     simp only[G.re]
     rw[if_neg (λe=>hj (.inl e)),if_neg (λe=>hj (.inr e))]
    ·simp only[G.re]
     by_cases hji:j=id
     ·rw[if_pos hji]
      refine⟨hndF,λq hq=>?_⟩
      have:=hsubF q hq
      exact⟨(hmine q this).1,by rw[hset.size];exact(hmine q this).2,λ_=>(hpool q).mpr this⟩
     ·rw[if_neg hji,if_pos (((hU j).mp hj).resolve_left hji)];simp
    ·simp only[G.re] at hq hq'
     by_cases hji:j=id
     ·have hj'i:¬ j'=id:=λe=>hne (hji.trans e.symm)
      rw[if_neg hj'i,if_pos (((hU j').mp hj').resolve_left hj'i)] at hq'
      cases hq'
     ·rw[if_neg hji,if_pos (((hU j).mp hj).resolve_left hji)] at hq
      cases hq
   refine⟨undef,w',g.re mv id (b::(A++mv.flatMap g.fp++B)),λK Q hk=>wp_skip (run a w w' (by rw[hvx,hsz];exact hst)) hk,turn,λj=>by simp[G.re];omega,λp hp _=>?_,by simp,by simp[Zb]⟩
   rcases List.mem_append.mp hp with hp|hp
   ·obtain⟨j,hj,rfl⟩:=List.mem_map.mp hp
    have hji:¬ j=id:=λe=>hnm (e▸hj)
    simp only[Zn,G.re]
    rw[if_neg hji,if_pos hj]
    obtain⟨o',_,ro'⟩:=hr.obs j (hmB j hj)
    exact⟨rfl,ro'.one⟩
   ·simp at hp
    subst hp
    simp only[row',Zn]
    have hfpid:(g.re mv id (b::(A++mv.flatMap g.fp++B))).fp id=b::(A++mv.flatMap g.fp++B):=by simp[G.re]
    have hhv:(g.re mv id (b::(A++mv.flatMap g.fp++B))).hv=g.hv:=rfl
    rw[hfpid,hhv]
    refine⟨⟨?_,hsz⟩,λq bb hbb=>?_,horg⟩
    ·simp only[OwC]
     refine⟨some ⟨b,o,none⟩,cap,by rw[hh];simp,.inr ⟨b,o,c',e,A++mv.flatMap g.fp++B,rfl,ho0,rfl,hset.at_,hz,?_,by simpa using hle,?_⟩⟩
     ·have:=congrArg List.length hc'
      rw[Zbf (by simp;omega)] at this
      simp at this
      omega
     ·refine Ze.mono ⟨⟨λ_ h=>h,λq hq=>hset.keep q (λe=>hbI (e▸hq.1))⟩,λq hq=>hset.keep q (λe=>?_)⟩ hset'
      subst e
      exact(List.nodup_cons.mp hndF).1 hq
    ·simp at q
     rcases hsubF bb hbb with hq|hq
     ·exact hfr q.1 bb hq
     ·exact hfresh q.2 bb hq
 ·cases h
end
end Go.T
