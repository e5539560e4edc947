/- Addresses,elements,lengths,cuts,conversions. -/
import Derived.Test.YtlobhlnahhjpjaaGreatTOp3
set_option linter.unusedVariables false
set_option linter.unusedSimpArgs false
namespace Go.T
theorem ZcL {P:Program} {s:TypeId} {fs:List (Nat×Nat×Bool)} (h:Za5 P s=some fs) {f off n:Nat} {g:Bool} (hf:fs[f]? = some (off,n,g)):
  ∃ fields fld,P.underlying s=some (.struct fields)/\fields[f]? = some fld/\off=fld.offset/\n=P.cellsOf fld.type/\g=ZU P fld.type/\(P.underlying fld.type).isSome=true:=by
 unfold Za5 at h
 split at h
 ·rename_i fields hu
  split at h
  ·rename_i hall
   injection h with h
   subst h
   rw[List.getElem?_map] at hf
   obtain⟨fld,hfl,he⟩:=Option.map_eq_some_iff.mp hf
   injection he with e1 e2
   injection e2 with e2 e3
   refine⟨fields,fld,hu,by simpa using hfl,e1.symm,e2.symm,e3.symm,?_⟩
   rw[List.all_eq_true] at hall
   exact hall fld (List.mem_of_getElem? hfl)
  ·cases h
 ·cases h
theorem run_fieldAt {P:Program} {s:TypeId} {fields:Array Field} {fld:Field} {f b off:Nat} (hu:P.underlying s=some (.struct fields)) (hf:fields[f]? = some fld) (h0:0<P.cellsOf fld.type) (w:World):
  (Instr.fieldAt s (.pointer (some ⟨b,off,none⟩)) f).run P w=.ok (.pointer (some ⟨b,off+fld.offset,none⟩)) w:=by
 show(Sem.bind (underlying s) _).run P w=_
 rw[Zm,Zg hu]
 simp only[hf]
 show(Sem.bind (Instr.sureAddr _) _).run P w=_
 rw[Zm]
 show(Sem.bind (fieldPlace ⟨b,off,none⟩ fld) _).run P w=_
 rw[Zm]
 have:(fieldPlace ⟨b,off,none⟩ fld).run P w=.ok ⟨b,off+fld.offset,none⟩ w:=by
  show(Sem.bind (sizeOf fld.type) _).run P w=_
  rw[Zm,ZbQ h0]
  simp only[show ¬ P.cellsOf fld.type=0 from by omega,if_false]
  rw[Zb8]
  rfl
 rw[this]
 rfl
theorem run_field {P:Program} {s:TypeId} {fields:Array Field} {fld:Field} {f:Nat} {cs:List Value} (hu:P.underlying s=some (.struct fields)) (hf:fields[f]? = some fld) (h0:0<P.cellsOf fld.type)
  (hg:(P.underlying fld.type).isSome=true) (hl:fld.offset+P.cellsOf fld.type<=cs.length) (w:World):
  (Instr.field s (.agg cs.toArray) f).run P w=.ok (if ZU P fld.type then .agg ((cs.drop fld.offset).take (P.cellsOf fld.type)).toArray else(cs.drop fld.offset).headD Go.undef) w:=by
 show(Sem.bind (underlying s) _).run P w=_
 rw[Zm,Zg hu]
 simp only[hf]
 show(Sem.bind (isAgg fld.type) _).run P w=_
 rw[Zm,run_isAgg hg]
 cases ZU P fld.type with
 |true=>
  simp only[if_true]
  show(Sem.bind (sizeOf fld.type) _).run P w=_
  rw[Zm,ZbQ h0]
  show Result.ok (Value.agg (cs.toArray.extract fld.offset (fld.offset+P.cellsOf fld.type))) w=_
  have:cs.toArray.extract fld.offset (fld.offset+P.cellsOf fld.type)=((cs.drop fld.offset).take (P.cellsOf fld.type)).toArray:=by
   apply Array.ext'
   simp
  rw[this]
 |false=>
  simp only[Bool.false_eq_true,if_false]
  have:fld.offset<cs.length:=by omega
  have h1:cs.toArray[fld.offset]? = some cs[fld.offset]:=by simp[this]
  rw[h1]
  show Result.ok _ w=_
  congr 1
  rw[List.drop_eq_getElem_cons this]
  rfl
theorem run_asIntOf {P:Program} {k:IntKind} {n:Int} (w:World):(asIntOf (.int k n)).run P w=.ok (k,n) w:=rfl
theorem ZaG {P:Program} {t e:TypeId} (h:Zah P t=some e):P.underlying t=some (.slice e):=by
 unfold Zah at h
 split at h
 ·split at h
  ·injection h with h;subst h;assumption
  ·cases h
 ·cases h
theorem run_indexAt {P:Program} {t e:TypeId} {k:IntKind} {n:Int} {b off len cap:Nat} (hu:P.underlying t=some (.slice e)) (h0:0<P.cellsOf e) (h1:0<=n) (h2:n<len) (w:World):
  (Instr.indexAt t (.slice (some ⟨b,off,none⟩) len cap) (.int k n)).run P w=.ok (.pointer (some ⟨b,off+n.toNat*P.cellsOf e,none⟩)) w:=by
 show(Sem.bind (asIntOf _) _).run P w=_
 rw[Zm,run_asIntOf]
 show(Sem.bind (underlying t) _).run P w=_
 rw[Zm,Zg hu]
 show(Sem.bind (underlying t) _).run P w=_
 rw[Zm,Zg hu]
 simp only[Bool.and_false,h1,h2,and_self,if_true]
 show(Sem.bind (sizeOf e) _).run P w=_
 rw[Zm,ZbQ h0]
 show Result.ok (Value.pointer (some ((⟨b,off,none⟩:Addr).add (n.toNat*P.cellsOf e)))) w=_
 rw[Zb8]
theorem indexAddr_sound {β:Type} {P:Program} {st:St} {t:TypeId} {x i:T} {k:T->Option β} {r:β} (h:indexAddrDen P st t x i k=some r):
  ∃ u,k u=some r/\∀ (X:Fix) (w:World) (g:G) (stL:St) (act:Act) (vx vi:Value),Rel P X w g stL act->Zb X w g x vx->Zb X w g i vi->ZW g stL st (ZE st x)->
   ∃ v,(Instr.indexAt t vx vi).run P w=.ok v w/\Zb X w g u v:=by
 unfold indexAddrDen at h
 split at h
 ·cases h
 rename_i e he
 have hu:=ZaG he
 split at h
 case isFalse=>cases h
 rename_i hc
 obtain⟨h0,hfl⟩:=hc
 obtain⟨f,q,n,rfl,h'⟩:=Zcl h
 clear h
 have imm:∀ (fr:Bool) (xs:List (List D)) ,(atRow xs n λc=>asCells (ZaM P e) c λds=>k (.ip fr ds))=some r->
   ∃ u,k u=some r/\∀ (X:Fix) (w:World) (g:G) (vx vi:Value),RdD w (g.IM X fr) (.sl xs) vx->Zb X w g (.d f (.int q n)) vi->
   ∃ v,(Instr.indexAt t vx vi).run P w=.ok v w/\Zb X w g u v:=by
  intro fr xs h
  obtain⟨hn,c,hc,h⟩:=atRow_some h
  obtain⟨h,hl⟩:=asCells_some h
  refine⟨_,h,λX w g vx vi rx ri=>?_⟩
  obtain rfl:=Zb.scal_eq (d:=.int q n) rfl ri
  simp only[RdD] at rx
  obtain⟨a,len,cap,rfl,rfl,hcap,rx⟩:=rx
  rcases rx with rfl|⟨b,off,cc,ee,ff,sz,rfl,hI,hb,hsz,rows⟩
  ·simp at hc
  ·obtain⟨hcl,cells⟩:=ZC.get rows hc
   have hlt:n.toNat<xs.length:=(List.getElem?_eq_some_iff.mp hc).1
   have hse:sz=P.cellsOf e:=by rw[<- hcl,hl];simp[ZaM,hfl]
   refine⟨_,run_indexAt (k:=q) hu h0 hn (by omega) w,?_⟩
   simp only[Zb]
   exact⟨b,_,cc,ee,ff,rfl,hI,hb,by rw[<- hse];exact cells⟩
 split at h'
 ·rename_i fr xs
  obtain⟨u,hk,hrun⟩:=imm fr xs h'
  refine⟨u,hk,λX w g stL act vx vi hr rx ri hs=>hrun X w g vx vi ?_ ri⟩
  simpa only[Zb] using rx
 ·rename_i id
  split at h'
  ·rename_i og fr rt xs ho
   split at h'
   case isFalse=>cases h'
   rename_i hsz
   obtain⟨hn,h⟩:=Zp h'
   refine⟨_,h,λX w g stL act vx vi hr rx ri hs=>?_⟩
   obtain rfl:=Zb.scal_eq (d:=.int q n) rfl ri
   obtain⟨_,hB,⟨row,hgs⟩,_⟩:=hs.obj hr (by simp[ZE]) ho
   simp only[Zb] at rx
   obtain⟨_,rfl⟩:=rx
   obtain⟨a,cap,hv,hrow⟩:=OwC.row row
   rcases hrow with⟨rfl,_,_⟩|⟨b,o,c,e',F',ea,ho0,hF,hb,hz,hcs,hle,rows⟩
   ·simp at hn;omega
   ·subst ea
    rw[hv]
    refine⟨_,run_indexAt (k:=q) hu h0 hn.1 (by omega) w,?_⟩
    simp only[Zb]
    refine⟨hB,b,o,xs.length,cap,hv,by omega,?_⟩
    rw[hgs,hsz]
    simp
  ·rename_i fr xs ho
   obtain⟨u,hk,hrun⟩:=imm fr xs h'
   refine⟨u,hk,λX w g stL act vx vi hr rx ri hs=>?_⟩
   obtain⟨_,hB,hrd⟩:=hs.obj hr (by simp[ZE]) ho
   simp only[Zb] at rx
   obtain⟨_,rfl⟩:=rx
   exact hrun X w g _ vi hrd.1 ri
  ·cases h'
 ·cases h'
theorem run_index {P:Program} {t:TypeId} {q:IntKind} {n:Int} {s:ByteArray} {b:UInt8} (hu:P.underlying t=some .string) (hn:0<=n) (hb:s[n.toNat]? = some b) (w:World):
  (Instr.index t (.string s) (.int q n)).run P w=.ok (.int .u8 b.toNat) w:=by
 show(Sem.bind (asIntOf _) _).run P w=_
 rw[Zm,run_asIntOf]
 show(Sem.bind (underlying t) _).run P w=_
 rw[Zm,Zg hu]
 simp only[hn,if_true,hb]
 rfl
theorem Zbt {P:Program} {t:TypeId} (h:Zam P t=.str):P.underlying t=some .string:=by
 unfold Zam at h;split at h<;>first|assumption|cases h
theorem ZbR {P:Program} {t:TypeId} (h:Zam P t=.sl):∃ e,P.underlying t=some (.slice e):=by
 unfold Zam at h;split at h<;>first|(exact⟨_,by assumption⟩)|cases h
theorem ZcA {P:Program} {t:TypeId} {q:IntKind} (h:Zam P t=.int q):P.underlying t=some (.int q):=by
 unfold Zam at h;split at h<;>first|(injection h with h;subst h;assumption)|cases h
theorem index_sound {β:Type} {P:Program} {t:TypeId} {x i:T} {k:T->Option β} {r:β} (h:indexDen P t x i k=some r):
  ∃ d,k (.d true d)=some r/\Zag d=true/\∀ (X:Fix) (w:World) (g:G) (vx vi:Value),Zb X w g x vx->Zb X w g i vi->(Instr.index t vx vi).run P w=.ok (Zav d) w:=by
 unfold indexDen at h
 split at h
 ·rename_i f s
  split at h
  ·rename_i hk
   obtain⟨f',q,n,rfl,h'⟩:=Zcl h
   clear h
   unfold atStr at h'
   split at h'
   ·rename_i hn
    split at h'
    ·rename_i b hb
     refine⟨_,h',rfl,λX w g vx vi rx ri=>?_⟩
     obtain rfl:=Zb.scal_eq (d:=.int q n) rfl ri
     obtain rfl:=Zb.scal_eq (d:=.str s) rfl rx
     exact run_index (Zbt hk) hn hb w
    ·cases h'
   ·cases h'
  ·cases h
 ·cases h
theorem Zbh {P:Program} {t ty e:TypeId} {a:Option Addr} {len cap:Nat} (hu:P.underlying t=some (.slice e)) (w:World):
  (Builtin.len_ #[t] ty #[.slice a len cap]).run P w=.ok (.int .i64 len) w:=by
 show(Sem.bind (underlying t) _).run P w=_
 rw[Zm,Zg hu]
 rfl
theorem run_len_str {P:Program} {t ty:TypeId} {s:ByteArray} (hu:P.underlying t=some .string) (w:World):
  (Builtin.len_ #[t] ty #[.string s]).run P w=.ok (.int .i64 s.size) w:=by
 show(Sem.bind (underlying t) _).run P w=_
 rw[Zm,Zg hu]
 rfl
theorem sub_cell {P:Program} {X:Fix} {w:World} {g:G} {stL st:St} {act:Act} {id i off:Nat} {og:Option Nat} {fr:Bool} {rt:TypeId} {xs:List (List C)} {c:List C} {x:C} {rest:List C} {v:Value}
  (hr:Rel P X w g stL act) (hs:ZW g stL st [id]) (ho:st.ob[id]? = some (.row og fr rt xs)) (hc:xs[i]? = some c) (hd:c.drop off=x::rest) (rv:Zb X w g (.sub id i off) v):
  ∃ ct F',OwC P w (g.IM X fr) x ct v F'/\(ZQ P rt)[off]? = some ct/\∀ b∈F',b∈g.fp id:=by
 obtain⟨_,hB,⟨row,hgs⟩,_⟩:=hs.obj hr (by simp) ho
 simp only[Zb] at rv
 obtain⟨_,b,o,len,cap,cc,e,f,hh,hfp,hb,hv⟩:=rv
 obtain⟨a',cap',hv',hrow⟩:=OwC.row row
 rw[hh] at hv'
 injection hv' with e1 e2 e3
 subst e1 e2 e3
 rcases hrow with⟨rfl,_,_⟩|⟨b',o',c',e',F',ea,ho0,hF,hb',hz,hcs,hle,rows⟩
 ·simp at hc
 ·injection ea with ea;injection ea with ea eo _
  subst ea eo
  rw[hb] at hb'
  injection hb' with hb';injection hb' with hb' _ _
  subst hb'
  obtain⟨Fx,cells,hFx⟩:=Ze.get rows hc
  have hx:c[off]? = some x:=by
   have:=congrArg (·[0]?) hd
   simpa using this
  obtain⟨ct,v',F1,hct,hv',ow,hF1⟩:=Za.get cells hx
  rw[hgs] at hv
  have:v'=v:=by
   rw[show o+i*Zl P rt+off=o+(i*Zl P rt+off) from by omega] at hv'
   rw[hv'] at hv
   exact Option.some.inj hv
  subst this
  exact⟨ct,F1,ow,hct,λz hz=>by rw[hF];exact List.mem_cons_of_mem _ (hFx z (hF1 z hz))⟩
theorem subD_some {β:Type} {st:St} {id i off:Nat} {k:Bool->List (List D)->Option β} {y:β} (h:subD st id i off k=some y):
  ∃ og fr rt xs c x rest ys,st.ob[id]? = some (.row og fr rt xs)/\xs[i]? = some c/\c.drop off=x::rest/\x.imm=.sl ys/\k fr ys=some y:=by
 unfold subD at h
 split at h
 ·rename_i og fr rt xs ho
  obtain⟨c,hc,h⟩:=atNat_some h
  obtain⟨x,rest,hd,h⟩:=Zce h
  obtain⟨ys,hy,h⟩:=dSl_some h
  exact⟨og,fr,rt,xs,c,x,rest,ys,ho,hc,hd,hy,h⟩
 ·cases h
theorem len_sound {β:Type} {P:Program} {st:St} {t ty:TypeId} {x:T} {k:T->Option β} {r:β} (h:lenDen P st t x k=some r):
  ∃ d,k (.d true d)=some r/\Zag d=true/\∀ (X:Fix) (w:World) (g:G) (stL:St) (act:Act) (vx:Value),Rel P X w g stL act->Zb X w g x vx->ZW g stL st (ZE st x)->
   (Builtin.len_ #[t] ty #[vx]).run P w=.ok (Zav d) w:=by
 unfold lenDen at h
 split at h
 ·rename_i f s hk
  refine⟨_,h,rfl,λX w g stL act vx hr rx hs=>?_⟩
  obtain rfl:=Zb.scal_eq (d:=.str s) rfl rx
  exact run_len_str (Zbt hk) w
 ·rename_i f xs hk
  obtain⟨e,hu⟩:=ZbR hk
  refine⟨_,h,rfl,λX w g stL act vx hr rx hs=>?_⟩
  simp only[Zb,RdD] at rx
  obtain⟨a,len,cap,rfl,rfl,_⟩:=rx
  exact Zbh hu w
 ·rename_i hk
  obtain⟨e,hu⟩:=ZbR hk
  refine⟨_,h,rfl,λX w g stL act vx hr rx hs=>?_⟩
  simp only[Zb] at rx
  obtain⟨a,rfl⟩:=rx
  exact Zbh hu w
 ·rename_i id hk
  obtain⟨e,hu⟩:=ZbR hk
  split at h
  ·rename_i og fr rt xs ho
   refine⟨_,h,rfl,λX w g stL act vx hr rx hs=>?_⟩
   obtain⟨_,hB,⟨row,hgs⟩,_⟩:=hs.obj hr (by simp[ZE]) ho
   simp only[Zb] at rx
   obtain⟨_,rfl⟩:=rx
   obtain⟨a,cap,hv,_⟩:=OwC.row row
   rw[hv]
   exact Zbh hu w
  ·rename_i fr xs ho
   refine⟨_,h,rfl,λX w g stL act vx hr rx hs=>?_⟩
   obtain⟨_,hB,hrd⟩:=hs.obj hr (by simp[ZE]) ho
   simp only[Zb] at rx
   obtain⟨_,rfl⟩:=rx
   simp only[Zn,RdD] at hrd
   obtain⟨⟨a,len,cap,hv,rfl,_⟩,_⟩:=hrd
   rw[hv]
   exact Zbh hu w
  ·cases h
 ·rename_i id i off hk
  obtain⟨e,hu⟩:=ZbR hk
  obtain⟨og,fr,rt,xs,c,x,rest,ys,ho,hc,hd,hy,h⟩:=subD_some h
  refine⟨_,h,rfl,λX w g stL act vx hr rx hs=>?_⟩
  obtain⟨ct,F',ow,_,_⟩:=sub_cell hr (by simpa[ZE] using hs) ho hc hd rx
  cases x with
  |d dd=>
   simp only[C.imm] at hy
   subst hy
   simp only[OwC,RdD] at ow
   obtain⟨_,a,len,cap,rfl,rfl,_⟩:=ow
   exact Zbh hu w
  |own zs=>
   simp only[C.imm] at hy
   injection hy with hy
   subst hy
   obtain⟨a,cap,rfl,_⟩:=OwC.row ow
   rw[C.immRows_length]
   exact Zbh hu w
 ·cases h
end Go.T
