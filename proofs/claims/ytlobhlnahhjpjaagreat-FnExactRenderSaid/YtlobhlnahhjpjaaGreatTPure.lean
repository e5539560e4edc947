/- Operations that compute a value and leave the world alone. -/
import Derived.Test.YtlobhlnahhjpjaaGreatTMake
set_option linter.unusedVariables false
set_option linter.unusedSimpArgs false
namespace Go.T
def St.app (st:St) (dst:Option Nat) (e:Eff):St:=(St.mk (st.tm.map (Zw e.chg)) (ZG st.ob e.chg++e.news)).put dst e.t
theorem app_pure (st:St) (dst:Option Nat) (t:T):st.app dst ⟨t,[],[]⟩=st.put dst t:=by
 have:Zw []=id:=funext λt=>rfl
 simp[St.app,this,ZG]
def ZD (P:Program) (E:Env) (o:Oper) (st:St) {β:Type} (k:St->Option β) (r:β):Prop:=
 ∃ e:Eff,k (st.app o.dst e)=some r/\(∀ p∈e.chg,p.1<st.ob.length)/\(quietOp E o st (st.app o.dst e)=true->∀ p∈e.chg,p.1∈turned o st (st.app o.dst e))/\∀ X w0,OpOk P X w0 o st e
theorem ZD.pure {P:Program} {E:Env} {o:Oper} {st:St} {β:Type} {k:St->Option β} {r:β} {t:T} (hk:k (st.put o.dst t)=some r)
  (h:∀ (X:Fix) (stL:St) (g:G) (a:Act) (w:World),Rel P X w g stL a->(∀ x∈o.op.operands.toList,Zb X w g (st.ev x) (a.eval x))->
   ZW g stL st (Za9 o st)->∃ v,(execOp a.eval o).run P w=.ok (.value v) w/\Zb X w g t v):ZD P E o st k r:=
 ⟨⟨t,[],[]⟩,by rw[app_pure];exact hk,by simp,by simp,λX w0=>OpOk.pure λstL g a w=>h X stL g a w⟩
theorem ZaF {P:Program} {s:Sem Value} {w w':World} {v:Value} (h:s.run P w=.ok v w'):(do Pure.pure (Next.value (<- s)):Sem Next).run P w=.ok (.value v) w':=by
 rw[ZT,h];rfl
theorem run_u {P:Program} {s:Sem Unit} {w w':World} (h:s.run P w=.ok () w'):(do s;Pure.pure Next.skip:Sem Next).run P w=.ok .skip w':=by
 rw[ZT,h];rfl
theorem ZW.sub {g:G} {stL st:St} {l l':List Nat} (h:ZW g stL st l) (hl:∀ id∈l',id∈l):ZW g stL st l':=λid hid=>h id (hl id hid)
theorem ZaS {o:Oper} {st:St} {x:Operand} (hx:x∈o.op.operands.toList) (hm:isMove o.op=false:=by rfl):∀ id∈ZE st (st.ev x),id∈Za9 o st:=
 λid hid=>List.mem_flatMap.mpr ⟨x,hx,by rw[hm];cases isCall o.op<;>first|exact hid|exact List.mem_append_left _ hid⟩
theorem lookB_sub {m n:Bool} {st:St} {t:T} {id:Nat} (h:id∈bif m then lookSub t else bif n then ZaB st t else ZE st t):id∈ZaB st t:=by
 cases m with
 |false=>
  cases n with
  |false=>exact List.mem_append_left _ h
  |true=>exact h
 |true=>
  cases t with
  |sub i j off=>exact List.mem_append_left _ (by simpa[lookSub,ZE] using h)
  |_=>simp[lookSub] at h
theorem looks_sub {o:Oper} {st:St} {x:Operand} (hx:x∈o.op.operands.toList) {id j off:Nat} (h:st.ev x=.sub id j off):id∈Za9 o st:=by
 refine List.mem_flatMap.mpr ⟨x,hx,?_⟩
 rw[h]
 cases isMove o.op
 ·cases isCall o.op<;>simp[ZaB,ZE]
 ·simp[lookSub]
section
variable {P:Program} {E:Env} {st:St} {β:Type} {k:St->Option β} {r:β} {dst:Option Nat} {ty:TypeId} {pos:String} {af:Array Edge} {gd:Option (Nat×Bool)}
theorem asBoolT_some {x:T} {k:Bool->Option β} {y:β} (h:asBoolT x k=some y):∃ f b,x=.d f (.bool b)/\k b=some y:=by
 unfold asBoolT at h
 split at h
 ·exact⟨_,_,rfl,h⟩
 ·cases h
theorem opMove {x:Operand} (h:ZL P E ⟨dst,.move x,ty,pos,af,gd⟩ st k=some r):ZD P E ⟨dst,.move x,ty,pos,af,gd⟩ st k r:=
 ZD.pure h λX stL g a w hr hx hs=>⟨a.eval x,rfl,hx x (by simp[Op.operands])⟩
theorem opAssign {x:Operand} (h:ZL P E ⟨dst,.assign x,ty,pos,af,gd⟩ st k=some r):ZD P E ⟨dst,.assign x,ty,pos,af,gd⟩ st k r:=
 ZD.pure h λX stL g a w hr hx hs=>⟨a.eval x,rfl,hx x (by simp[Op.operands])⟩
theorem opPick {c x y:Operand} (h:ZL P E ⟨dst,.pick c x y,ty,pos,af,gd⟩ st k=some r):ZD P E ⟨dst,.pick c x y,ty,pos,af,gd⟩ st k r:=by
 simp only[ZL] at h
 obtain⟨f,b,hc,h⟩:=asBoolT_some h
 have key:∀ (X:Fix) (g:G) (a:Act) (w:World),Zb X w g (st.ev c) (a.eval c)->a.eval c=.bool b:=by
  intro X g a w hr
  rw[hc] at hr
  exact Zb.scal_eq (d:=.bool b) rfl hr
 cases b with
 |true=>
  refine ZD.pure h λX stL g a w hr hx hs=>⟨a.eval x,?_,hx x (by simp[Op.operands])⟩
  have:=key X g a w (hx c (by simp[Op.operands]))
  show(do Pure.pure (Next.value (if <- asBool (a.eval c) then a.eval x else a.eval y)):Sem Next).run P w=_
  rw[this];rfl
 |false=>
  refine ZD.pure h λX stL g a w hr hx hs=>⟨a.eval y,?_,hx y (by simp[Op.operands])⟩
  have:=key X g a w (hx c (by simp[Op.operands]))
  show(do Pure.pure (Next.value (if <- asBool (a.eval c) then a.eval x else a.eval y)):Sem Next).run P w=_
  rw[this];rfl
theorem opLoad {t:TypeId} {x:Operand} (h:loadDen P st t (st.ev x) (λu=>k (st.put dst u))=some r):ZD P E ⟨dst,.load t x,ty,pos,af,gd⟩ st k r:=by
 obtain⟨u,hk,hs⟩:=load_sound h
 refine ZD.pure hk λX stL g a w hr hx hl=>?_
 obtain⟨v,hv,rv⟩:=hs X w g stL a _ hr (hx x (by simp[Op.operands])) (hl.sub (ZaS (by simp[Op.operands])))
 exact⟨v,ZaF hv,rv⟩
theorem slEq_run {P:Program} {t e:TypeId} (hu:P.underlying t=some (.slice e)) (a:Option Addr) (len cap:Nat) (w:World):(Op.equal t (.slice a len cap) (.slice none 0 0)).run P w=.ok a.isNone w:=by
 unfold Op.equal Op.maxDepth Op.equalIn
 rw[ZT,Zg hu]
 cases a<;>rfl
theorem opBin {op:BinOp} {t:TypeId} {x y:Operand} {q:TypeId} (h:ZL P E ⟨dst,.binOp op t x y q,ty,pos,af,gd⟩ st k=some r):ZD P E ⟨dst,.binOp op t x y q,ty,pos,af,gd⟩ st k r:=by
 simp only[ZL] at h
 unfold cmpDen at h
 split at h
 ·rename_i f xs hx
  split at h
  case isFalse=>cases h
  rename_i hk
  obtain⟨e,hu⟩:=ZbR hk
  have key:∀ (X:Fix) (g:G) (a:Act) (w:World),Zb X w g (st.ev x) (a.eval x)->∃ ad len cap,a.eval x=.slice ad len cap/\(xs≠[]->ad.isNone=false):=by
   intro X g a w hr
   rw[hx] at hr
   simp only[Zb,RdD] at hr
   obtain⟨ad,len,cap,hv,_,_,hd⟩:=hr
   refine⟨ad,len,cap,hv,λhne=>?_⟩
   rcases hd with rfl|⟨b,off,c,e,fr,sz,rfl,_⟩
   ·exact absurd rfl hne
   ·rfl
  have run1:∀ (a:Act) (w:World) (ad:Option Addr) (len cap:Nat),a.eval x=.slice ad len cap->(do eqGuard .eql t x (.const (.slice none 0 0)) (a.eval x) (.slice none 0 0);binOp .eql t (a.eval x) (.slice none 0 0):Sem Value).run P w=.ok (.bool ad.isNone) w:=by
   intro a w ad len cap hv
   rw[hv,ZT,ZbW P w ⟨λ_ _=>⟨by simp,by simp⟩,by simp⟩]
   show((Op.equal t (.slice ad len cap) (.slice none 0 0)) >>= λr=>pure (.bool r):Sem Value).run P w=_
   rw[ZT,slEq_run hu]
   rfl
  have run2:∀ (a:Act) (w:World) (ad:Option Addr) (len cap:Nat),a.eval x=.slice ad len cap->(do eqGuard .neq t x (.const (.slice none 0 0)) (a.eval x) (.slice none 0 0);binOp .neq t (a.eval x) (.slice none 0 0):Sem Value).run P w=.ok (.bool !ad.isNone) w:=by
   intro a w ad len cap hv
   rw[hv,ZT,ZbW P w ⟨λ_ _=>⟨by simp,by simp⟩,by simp⟩]
   show((Op.equal t (.slice ad len cap) (.slice none 0 0)) >>= λr=>pure (.bool !r):Sem Value).run P w=_
   rw[ZT,slEq_run hu]
   rfl
  split at h
  ·cases xs with
   |nil=>
    refine ZD.pure h λX stL g a w hr hR hl=>?_
    obtain⟨ad,len,cap,hv,_⟩:=key X g a w (hR x (by simp[Op.operands]))
    exact⟨_,ZaF (run1 a w ad len cap hv),by simp[Zb]⟩
   |cons x0 xs=>
    refine ZD.pure h λX stL g a w hr hR hl=>?_
    obtain⟨ad,len,cap,hv,hn⟩:=key X g a w (hR x (by simp[Op.operands]))
    exact⟨_,ZaF (run1 a w ad len cap hv),by rw[hn (by simp)];exact Zb.scal (d:=.bool false) rfl⟩
  ·cases xs with
   |nil=>
    refine ZD.pure h λX stL g a w hr hR hl=>?_
    obtain⟨ad,len,cap,hv,_⟩:=key X g a w (hR x (by simp[Op.operands]))
    exact⟨_,ZaF (run2 a w ad len cap hv),by simp[Zb]⟩
   |cons x0 xs=>
    refine ZD.pure h λX stL g a w hr hR hl=>?_
    obtain⟨ad,len,cap,hv,hn⟩:=key X g a w (hR x (by simp[Op.operands]))
    exact⟨_,ZaF (run2 a w ad len cap hv),by rw[hn (by simp)];exact Zb.scal (d:=.bool true) rfl⟩
  ·cases h
 ·obtain⟨d,hk,hd,hs⟩:=bin_sound h
  refine ZD.pure hk λX stL g a w hr hx hl=>⟨Zav d,ZaF (hs X g w x _ _ _ (hx x (by simp[Op.operands])) (hx _ (by simp[Op.operands]))),Zb.scal hd⟩
theorem opUn {op:UnOp} {t:TypeId} {x:Operand} (h:ZL P E ⟨dst,.unOp op t x,ty,pos,af,gd⟩ st k=some r):ZD P E ⟨dst,.unOp op t x,ty,pos,af,gd⟩ st k r:=by
 simp only[ZL] at h
 obtain⟨d,hk,hd,hs⟩:=un_sound h
 exact ZD.pure hk λX stL g a w hr hx hl=>⟨Zav d,ZaF (hs P X g w _ (hx x (by simp[Op.operands]))),Zb.scal hd⟩
theorem opIndexAddr {t:TypeId} {x i:Operand} (h:ZL P E ⟨dst,.indexAddr t x i,ty,pos,af,gd⟩ st k=some r):ZD P E ⟨dst,.indexAddr t x i,ty,pos,af,gd⟩ st k r:=by
 simp only[ZL] at h
 obtain⟨u,hk,hs⟩:=indexAddr_sound h
 refine ZD.pure hk λX stL g a w hr hx hl=>?_
 obtain⟨v,hv,rv⟩:=hs X w g stL a _ _ hr (hx x (by simp[Op.operands])) (hx i (by simp[Op.operands])) (hl.sub (ZaS (by simp[Op.operands])))
 exact⟨v,ZaF hv,rv⟩
theorem opIndex {t:TypeId} {x i:Operand} (h:ZL P E ⟨dst,.index t x i,ty,pos,af,gd⟩ st k=some r):ZD P E ⟨dst,.index t x i,ty,pos,af,gd⟩ st k r:=by
 simp only[ZL] at h
 obtain⟨d,hk,hd,hs⟩:=index_sound h
 exact ZD.pure hk λX stL g a w hr hx hl=>⟨Zav d,ZaF (hs X w g _ _ (hx x (by simp[Op.operands])) (hx i (by simp[Op.operands]))),Zb.scal hd⟩
theorem opFieldAddr {s:TypeId} {x:Operand} {f:Nat} (h:ZL P E ⟨dst,.fieldAddr s x f,ty,pos,af,gd⟩ st k=some r):ZD P E ⟨dst,.fieldAddr s x f,ty,pos,af,gd⟩ st k r:=by
 simp only[ZL] at h
 split at h
 case h_2=>cases h
 rename_i fs hfs
 split at h
 case h_2=>cases h
 rename_i off n gg hf
 obtain⟨fields,fld,hu,hfl,rfl,rfl,rfl,_⟩:=ZcL hfs hf
 split at h
 ·cases h
 rename_i h0
 have h0':0<P.cellsOf fld.type:=by omega
 split at h
 ·rename_i id p hx
  refine ZD.pure h λX stL g a w hr hR hl=>?_
  have hR:=hR x (by simp[Op.operands])
  rw[hx] at hR
  simp only[Zb] at hR
  obtain⟨hB,b,hh,hv⟩:=hR
  refine⟨_,ZaF (by rw[hv];exact run_fieldAt hu hfl h0' w),?_⟩
  simp only[Zb]
  exact⟨hB,b,hh,rfl⟩
 ·rename_i id i p hx
  refine ZD.pure h λX stL g a w hr hR hl=>?_
  have hR:=hR x (by simp[Op.operands])
  rw[hx] at hR
  simp only[Zb] at hR
  obtain⟨hB,b,o,len,cap,hh,hi,hv⟩:=hR
  refine⟨_,ZaF (by rw[hv];exact run_fieldAt hu hfl h0' w),?_⟩
  simp only[Zb]
  exact⟨hB,b,o,len,cap,hh,hi,by rw[Nat.add_assoc,Nat.add_assoc]⟩
 ·rename_i fr cs hx
  refine ZD.pure h λX stL g a w hr hR hl=>?_
  have hR:=hR x (by simp[Op.operands])
  rw[hx] at hR
  simp only[Zb] at hR
  obtain⟨b,p,c,e,ff,hv,hI,hb,rc⟩:=hR
  refine⟨_,ZaF (by rw[hv];exact run_fieldAt hu hfl h0' w),?_⟩
  simp only[Zb]
  exact⟨b,_,c,e,ff,rfl,hI,hb,Zi.drop rc⟩
 ·cases h
theorem opField {s:TypeId} {x:Operand} {f:Nat} (h:ZL P E ⟨dst,.field s x f,ty,pos,af,gd⟩ st k=some r):ZD P E ⟨dst,.field s x f,ty,pos,af,gd⟩ st k r:=by
 simp only[ZL] at h
 split at h
 case h_2=>cases h
 rename_i fs ts hfs hx
 split at h
 case h_2=>cases h
 rename_i off n gg hf
 obtain⟨fields,fld,hu,hfl,rfl,rfl,rfl,hsome⟩:=ZcL hfs hf
 split at h
 ·cases h
 rename_i h0
 have h0':0<P.cellsOf fld.type:=by omega
 refine ZD.pure h λX stL g a w hr hR hl=>?_
 have hR:=hR x (by simp[Op.operands])
 rw[hx] at hR
 simp only[Zb] at hR
 obtain⟨cs,hv,rs⟩:=hR
 have hlen:=Zh.length rs
 refine⟨_,ZaF (by rw[hv];exact run_field hu hfl h0' hsome (by omega) w),?_⟩
 cases hg:ZU P fld.type with
 |true=>
  simp only[if_true,Zb]
  refine⟨_,rfl,Zh.mk (by simp[hlen]) λj u hu'=>?_⟩
  obtain⟨hj,hu'⟩:=ZbB hu'
  obtain⟨hs1,v,hv',rv⟩:=Zh.get rs hu'
  refine⟨hs1,v,?_,rv⟩
  rw[List.getElem?_take,if_pos hj]
  simpa using hv'
 |false=>
  simp only[Bool.false_eq_true,if_false]
  have hlt:fld.offset<ts.length:=by omega
  obtain⟨hs1,v,hv',rv⟩:=Zh.get rs (i:=fld.offset) (t:=ts[fld.offset]) (by simp[hlt])
  rw[List.drop_eq_getElem_cons hlt]
  obtain⟨hlc,hv'⟩:=List.getElem?_eq_some_iff.mp hv'
  rw[List.drop_eq_getElem_cons hlc]
  simp only[List.headD_cons]
  rw[hv']
  exact rv
theorem opExtract {x:Operand} {i:Nat} (h:ZL P E ⟨dst,.extract x i,ty,pos,af,gd⟩ st k=some r):ZD P E ⟨dst,.extract x i,ty,pos,af,gd⟩ st k r:=by
 simp only[ZL] at h
 split at h
 case h_2=>cases h
 rename_i ts hx
 split at h
 case h_2=>cases h
 rename_i t ht
 refine ZD.pure h λX stL g a w hr hR hl=>?_
 have hR:=hR x (by simp[Op.operands])
 rw[hx] at hR
 simp only[Zb] at hR
 obtain⟨vs,hv,rs⟩:=hR
 obtain⟨_,v,hv',rv⟩:=Zh.get rs ht
 refine⟨v,ZaF ?_,rv⟩
 show(Instr.extract (a.eval x) i).run P w=_
 rw[hv]
 simp[Instr.extract,hv',ZM]
theorem opNilCheck {x:Operand} (h:ZL P E ⟨dst,.nilCheck x,ty,pos,af,gd⟩ st k=some r):ZD P E ⟨dst,.nilCheck x,ty,pos,af,gd⟩ st k r:=by
 simp only[ZL] at h
 have key:∀ t,st.ev x=t->k (st.put dst t)=some r->(∀ (X:Fix) (w:World) (g:G) (v:Value),Zb X w g t v->(∃ a,v=.pointer (some a))\/∃ f vs ws,v=.func (.func f) vs ws)->
   ZD P E ⟨dst,.nilCheck x,ty,pos,af,gd⟩ st k r:=by
  intro t ht hk hv
  refine ZD.pure hk λX stL g a w hr hR hl=>?_
  have hR:=hR x (by simp[Op.operands])
  rw[ht] at hR
  refine⟨a.eval x,?_,hR⟩
  rcases hv X w g _ hR with⟨ad,he⟩|⟨f,vs,ws,he⟩<;>simp[execOp,he,ZM]
 split at h
 ·rename_i he
  refine key _ he h λX w g v hr=>?_
  simp only[Zb] at hr
  obtain⟨_,b,_,rfl⟩:=hr
  exact .inl ⟨_,rfl⟩
 ·rename_i he
  refine key _ he h λX w g v hr=>?_
  simp only[Zb] at hr
  obtain⟨_,b,_,_,_,_,_,rfl⟩:=hr
  exact .inl ⟨_,rfl⟩
 ·rename_i he
  refine key _ he h λX w g v hr=>?_
  simp only[Zb] at hr
  obtain⟨b,_,_,_,_,rfl,_⟩:=hr
  exact .inl ⟨_,rfl⟩
 ·rename_i he
  refine key _ he h λX w g v hr=>?_
  simp only[Zb] at hr
  obtain⟨vs,rfl,_⟩:=hr
  exact .inr ⟨_,_,_,rfl⟩
 ·rename_i he
  refine key _ he h λX w g v hr=>?_
  simp only[Zb,RdD] at hr
  obtain⟨vs,rfl,_⟩:=hr
  exact .inr ⟨_,_,_,rfl⟩
 ·cases h
theorem opMakeFunc {f:FuncId} {first captured:Array Operand} (h:ZL P E ⟨dst,.makeFunc (.func f) first captured,ty,pos,af,gd⟩ st k=some r):
  ZD P E ⟨dst,.makeFunc (.func f) first captured,ty,pos,af,gd⟩ st k r:=by
 simp only[ZL] at h
 split at h
 case isFalse=>cases h
 rename_i hc
 obtain⟨h0,hp⟩:=hc
 obtain rfl:first=#[]:=Array.eq_empty_of_size_eq_zero h0
 refine ZD.pure h λX stL g a w hr hR hl=>⟨.func (.func f) #[] (captured.map a.eval),?_,?_⟩
 ·exact ZaF (by simp[Instr.makeFunc,ZM])
 ·simp only[Zb]
  refine⟨captured.toList.map a.eval,by rw[<- Array.toList_map],Zh.mk (by simp) λj t ht=>?_⟩
  rw[List.getElem?_map] at ht
  obtain⟨y,hy,rfl⟩:=Option.map_eq_some_iff.mp ht
  refine⟨?_,a.eval y,by simp only[List.getElem?_map,hy,Option.map_some],hR y ?_⟩
  ·rw[List.all_eq_true] at hp
   have:=hp (st.ev y) (List.mem_map.mpr ⟨y,List.mem_of_getElem? hy,rfl⟩)
   cases hev:st.ev y<;>simp_all [Za8,Zb4]
  ·have:=List.mem_of_getElem? hy
   simp only[Op.operands,Array.toList_append]
   simp[this,Array.mem_toList_iff.mp this]
end
end Go.T
