/- Operations that make one object. -/
import Derived.Test.YtlobhlnahhjpjaaGreatTPure2
set_option linter.unusedVariables false
set_option linter.unusedSimpArgs false
namespace Go.T
def G.one (g:G) (mv:List Nat) (n:Nat) (F:List Nat) (v:Value) (z:Nat):G where
 I:=g.I
 B id:=g.B id\/id=n
 fp id:=if id=n then F else if id∈mv then[] else g.fp id
 hv id:=if id=n then v else g.hv id
 sz id:=if id=n then z else g.sz id
theorem G.one_hv {g:G} {mv:List Nat} {n:Nat} {F:List Nat} {v:Value} {z:Nat}:(g.one mv n F v z).hv n=v:=by simp[G.one]
theorem G.one_sz {g:G} {mv:List Nat} {n:Nat} {F:List Nat} {v:Value} {z:Nat}:(g.one mv n F v z).sz n=z:=by simp[G.one]
theorem G.one_fp {g:G} {mv:List Nat} {n:Nat} {F:List Nat} {v:Value} {z:Nat}:(g.one mv n F v z).fp n=F:=by simp[G.one]
theorem G.one_B {g:G} {mv:List Nat} {n:Nat} {F:List Nat} {v:Value} {z:Nat}:(g.one mv n F v z).B n:=.inr rfl
theorem OpOk.one {P:Program} {X:Fix} {w0:World} {o:Oper} {st:St} {mv:List Nat} {t:T} {ob:Obj} (hmv:∀ id∈mv,id<st.ob.length)
  (h:∀ (stL:St) (g:G) (a:Act) (w:World),Rel P X w g stL a->Zac X w0 w->(∀ x∈o.op.operands.toList,Zb X w g (st.ev x) (a.eval x))->ZW g stL st (Za9 o st)->¬ g.B st.ob.length->
   ∃ v w' F hdr z,(execOp a.eval o).run P w=.ok (.value v) w'/\w.heap.size<=w'.heap.size/\w'.os=w.os/\w'.tape=w.tape/\w'.output=w.output/\
    (∀ b,b<w.heap.size->b∉mv.flatMap g.fp->w'.heap[b]? = w.heap[b]?)/\F.Nodup/\(∀ b∈F,b<w'.heap.size/\(b<w.heap.size->b∈mv.flatMap g.fp))/\
    (∀ id∈mv,g.B id)/\Zn P X w' (g.one mv st.ob.length F hdr z) st.ob.length ob/\Zb X w' (g.one mv st.ob.length F hdr z) t v):
  OpOk P X w0 o st ⟨t,mv.map (·,.gone),[ob]⟩:=by
 refine OpOk.make (by simpa using hmv) λstL g a w hr hs hR hl hn=>?_
 have hn0:¬ g.B st.ob.length:=by simpa using hn 0 (by simp)
 obtain⟨v,w',F,hdr,z,hrun,hsz,hos,htp,hou,hkeep,hnd,hF,hmB,hobj,hT⟩:=h stL g a w hr hs hR hl hn0
 have hU:∀ id,Eff.U ⟨t,mv.map (·,.gone),[ob]⟩ st.ob.length id↔id∈mv\/id=st.ob.length:=by
  intro id
  simp only[Eff.U,List.mem_map,List.length_singleton]
  constructor
  ·rintro(⟨p,⟨q,hq,rfl⟩,rfl⟩|h)
   ·exact .inl hq
   ·exact .inr (by omega)
  ·rintro(h|h)
   ·exact .inl ⟨(id,.gone),⟨id,h,rfl⟩,rfl⟩
   ·exact .inr (by omega)
 have hpool:∀ b,Pool g (Eff.U ⟨t,mv.map (·,.gone),[ob]⟩ st.ob.length) b↔b∈mv.flatMap g.fp:=by
  intro b
  rw[List.mem_flatMap]
  constructor
  ·rintro⟨id,hu,hB,hb⟩
   rcases(hU id).mp hu with q|rfl
   ·exact⟨id,q,hb⟩
   ·exact absurd hB hn0
  ·rintro⟨id,q,hb⟩
   exact⟨id,(hU id).mpr (.inl q),hmB id q,hb⟩
 have hmn:∀ id∈mv,id≠st.ob.length:=λid q e=>absurd (hmB id q) (e▸hn0)
 have hlt:∀ b,b∈mv.flatMap g.fp->¬ g.I b:=by
  intro b hb
  obtain⟨id,q,hb⟩:=List.mem_flatMap.mp hb
  exact(hr.sep.mine id (hmB id q) b hb).1
 refine⟨v,w',g.one mv st.ob.length F hdr z,hrun,?_,?_,?_,?_,hT⟩
 ·refine⟨hsz,hos,htp,hou,λb hb hp=>hkeep b hb (λq=>hp ((hpool b).mpr q)),λb hb=>hb,λid hB=>.inl hB,?_,?_,?_,?_,?_,?_⟩
  ·intro id hB;simp only[G.one];rw[if_neg (show ¬ id=st.ob.length from λe=>hn0 (e▸hB))]
  ·intro id hB;simp only[G.one];rw[if_neg (show ¬ id=st.ob.length from λe=>hn0 (e▸hB))]
  ·intro id hu
   rw[hU] at hu
   refine⟨λhB=>hB.resolve_right λe=>hu (.inr e),λhB=>?_⟩
   simp only[G.one]
   rw[if_neg (λe=>hu (.inr e)),if_neg (λe=>hu (.inl e))]
  ·intro id hu hB
   simp only[G.one]
   by_cases hid:id=st.ob.length
   ·rw[if_pos hid]
    refine⟨hnd,λb hb=>⟨λhI=>?_,(hF b hb).1,λhlt'=>(hpool b).mpr ((hF b hb).2 hlt')⟩⟩
    have:=hr.sep.imm b hI
    exact hlt b ((hF b hb).2 this) hI
   ·rw[if_neg hid]
    rcases(hU id).mp hu with q|q
    ·rw[if_pos q];simp
    ·exact absurd q hid
  ·intro id id' hu hu' hne hB hB' b hb hb'
   simp only[G.one] at hb hb'
   by_cases hid:id=st.ob.length
   ·rw[if_neg (λe=>hne (hid.trans e.symm))] at hb'
    rcases(hU id').mp hu' with q|q
    ·rw[if_pos q] at hb';cases hb'
    ·exact hne (hid.trans q.symm)
   ·rw[if_neg hid] at hb
    rcases(hU id).mp hu with q|q
    ·rw[if_pos q] at hb;cases hb
    ·exact hid q
  ·intro b hI
   exact⟨Nat.lt_of_lt_of_le (hr.sep.imm b hI) hsz,.inl hI⟩
 ·intro id
  simp only[G.one,List.length_singleton]
  constructor
  ·rintro(h|h)
   ·exact .inl h
   ·exact .inr (by omega)
  ·rintro(h|h)
   ·exact .inl h
   ·exact .inr (by omega)
 ·intro p hp hB
  obtain⟨id,q,rfl⟩:=List.mem_map.mp hp
  simp only[Zn,G.one]
  rw[if_neg (hmn id q),if_pos q,if_neg (hmn id q)]
  obtain⟨o',_,ro⟩:=hr.obs id hB
  exact⟨rfl,ro.one⟩
 ·intro j ob' hj
  cases j with
  |zero=>simp at hj;subst hj;exact hobj
  |succ j=>simp at hj
theorem Ext.one {X:Fix} {w w':World} {g:G} {mv:List Nat} {n:Nat} {F:List Nat} {v:Value} {z:Nat} (hsep:Sep X w g) (hn:¬ g.B n) (hmB:∀ id∈mv,g.B id)
  (hkeep:∀ b,b<w.heap.size->b∉mv.flatMap g.fp->w'.heap[b]? = w.heap[b]?):Ext w w' g (g.one mv n F v z) (λb=>b∈mv.flatMap g.fp):=by
 refine⟨λb hb=>hb,hkeep,λb hI hb=>?_,hsep.imm,λid hB=>.inl hB,λid hB=>?_,λid hB=>?_⟩
 ·obtain⟨id,q,hb⟩:=List.mem_flatMap.mp hb
  exact(hsep.mine id (hmB id q) b hb).1 hI
 ·simp only[G.one];rw[if_neg (show ¬ id=n from λe=>hn (e▸hB))]
 ·simp only[G.one];rw[if_neg (show ¬ id=n from λe=>hn (e▸hB))]
section
variable {P:Program} {E:Env} {st:St} {β:Type} {k:St->Option β} {r:β} {dst:Option Nat} {ty:TypeId} {pos:String} {af:Array Edge} {gd:Option (Nat×Bool)}
theorem app_one {t:T} {ob:Obj} {dst:Option Nat}:st.app dst ⟨t,[],[ob]⟩=(st.newOb ob).put dst t:=by
 have:Zw []=id:=funext λt=>rfl
 simp[St.app,this,ZG,St.newOb]
theorem ZD.one {o:Oper} {t:T} {ob:Obj} (hk:k ((st.newOb ob).put o.dst t)=some r) (h:∀ X w0,OpOk P X w0 o st ⟨t,[],[ob]⟩):ZD P E o st k r:=
 ⟨⟨t,[],[ob]⟩,by rw[app_one];exact hk,by simp,by simp,h⟩
theorem box_new {X:Fix} {w0:World} {o:Oper} {t:TypeId} {cs:List T}
  (h:∀ (stL:St) (g:G) (a:Act) (w:World),Rel P X w g stL a->(∀ x∈o.op.operands.toList,Zb X w g (st.ev x) (a.eval x))->
   ∃ cells:Array Value,(execOp a.eval o).run P w=.ok (.value (.pointer (some ⟨w.heap.size,0,none⟩))) (w.alloc (.cells cells t))/\Zh X w g cs cells.toList):
  OpOk P X w0 o st ⟨.bp st.ob.length 0,[],[.box none t cs]⟩:=by
 refine OpOk.one (mv:=[]) (by simp) λstL g a w hr hs hR hl hn=>?_
 obtain⟨cells,hrun,rc⟩:=h stL g a w hr hR
 have hkeep:∀ b,b<w.heap.size->b∉[].flatMap g.fp->(w.alloc (.cells cells t)).heap[b]? = w.heap[b]?:=λb hb _=>by rw[Zbj,if_neg (by omega)]
 refine⟨_,_,[w.heap.size],.pointer (some ⟨w.heap.size,0,none⟩),0,hrun,by rw[ZaN];omega,rfl,rfl,rfl,hkeep,by simp,λb hb=>?_,by simp,?_,?_⟩
 ·simp at hb;subst hb;exact⟨by rw[ZaN];omega,λh=>by omega⟩
 ·simp only[Zn]
  refine⟨⟨w.heap.size,cells,t,G.one_hv,G.one_fp,by rw[Zbj,if_pos rfl],?_⟩,by simp⟩
  exact Zh.mono (Ext.one hr.sep hn (by simp) hkeep) rc
 ·simp only[Zb]
  exact⟨G.one_B,w.heap.size,G.one_hv,rfl⟩
theorem opAlloc {t:TypeId} (h:ZL P E ⟨dst,.alloc t,ty,pos,af,gd⟩ st k=some r):ZD P E ⟨dst,.alloc t,ty,pos,af,gd⟩ st k r:=by
 simp only[ZL] at h
 split at h
 case h_2=>cases h
 rename_i cs hz
 unfold zeroCells at hz
 split at hz
 case isFalse=>cases hz
 rename_i hzo
 injection hz with hz
 subst hz
 obtain⟨i,zv,hi,hzv,hzs⟩:=Zbr hzo
 obtain⟨zr,_,_,_⟩:=Zaq hzs
 refine ZD.one h λX w0=>box_new λstL g a w hr hR=>⟨zv.cells,ZaF ?_,zr X w g⟩
 show(Sem.bind (zeroValue t) _).run P w=_
 rw[Zm,run_zeroValue hi hzv]
 rfl
theorem opBox {t:TypeId} {x:Operand} (h:ZL P E ⟨dst,.box t x,ty,pos,af,gd⟩ st k=some r):ZD P E ⟨dst,.box t x,ty,pos,af,gd⟩ st k r:=by
 simp only[ZL] at h
 split at h
 case isFalse=>cases h
 rename_i hc
 refine ZD.one h λX w0=>box_new λstL g a w hr hR=>?_
 obtain⟨rc,_⟩:=Zb.cells hr hc.2 (hR x (by simp[Op.operands]))
 exact⟨(a.eval x).cells,ZaF rfl,rc⟩
theorem Ze.replicate {w:World} {I:Nat->Prop} {c:Array Value} {cts:List TypeId} {sz:Nat} {z:List C}:∀ (n p:Nat),(∀ j,j<n->Za P w I c z cts (p+j*sz) [])->Ze P w I c cts sz (List.replicate n z) p []
 |0,p,_=>by simp[Ze]
 |n+1,p,h=>by
  simp only[List.replicate_succ,Ze]
  refine⟨[],[],rfl,by simpa using h 0 (by omega),Ze.replicate n (p+sz) λj hj=>?_⟩
  have:=h (j+1) (by omega)
  rwa[Nat.succ_mul,show p+(j*sz+sz)=p+sz+j*sz from by omega] at this
theorem zeros_get {z:Array Value} {m n:Nat} (hz:z.size=m) (h0:0<m) {q j:Nat} (hq:q<n) {v:Value} (hv:z.toList[j]? = some v):
  ((Array.range (n*m)).map (z[·%z.size]!))[q*m+j]? = some v:=by
 obtain⟨hj,hv⟩:=List.getElem?_eq_some_iff.mp hv
 simp at hj
 have h1:q*m+j<n*m:=by
  have:q*m+m<=n*m:=by rw[<- Nat.succ_mul];exact Nat.mul_le_mul_right _ hq
  omega
 have h2:(q*m+j)%z.size=j:=by rw[hz,Nat.mul_comm,Nat.mul_add_mod,Nat.mod_eq_of_lt (by omega)]
 simp[h1,h2,hj]
 exact hv
theorem ZaI {t e:TypeId} (h:Zah P t=some e):Zl P t=P.cellsOf e:=by simp[Zl,h]
theorem Zca {t e:TypeId} (h:Zah P t=some e):ZQ P t=Zq P 6 e:=by simp[ZQ,h]
theorem opMakeSlice {t:TypeId} {l c:Operand} (hT:Zar P) (h:ZL P E ⟨dst,.makeSlice t l c,ty,pos,af,gd⟩ st k=some r):ZD P E ⟨dst,.makeSlice t l c,ty,pos,af,gd⟩ st k r:=by
 simp only[ZL] at h
 unfold makeDen at h
 split at h
 ·cases h
 rename_i e he
 have hu:=ZaG he
 split at h
 case isFalse=>cases h
 rename_i hc
 obtain⟨h0,hby⟩:=hc
 split at h
 ·cases h
 rename_i z hz
 obtain⟨f1,q1,n,hl1,h'⟩:=Zcl h
 clear h
 obtain⟨f2,q2,m,hl2,h⟩:=Zcl h'
 clear h'
 obtain⟨hg,h⟩:=Zp h
 unfold zeroCellsC at hz
 split at hz
 case isFalse=>cases hz
 rename_i hzo
 injection hz with hz
 obtain⟨i,zv,hi,hzv,hzs⟩:=Zbr hzo
 obtain⟨_,_,hzl,zow⟩:=Zaq hzs
 obtain⟨i',hi',hisz⟩:=Zb7 h0
 rw[hi] at hi'
 injection hi' with hi'
 subst hi'
 have hbyt:P.bytesOf e=i.bytes:=by simp[Program.bytesOf,hi]
 have hmost:Z8=68719476736:=rfl
 refine ZD.one h λX w0=>OpOk.one (mv:=[]) (by simp) λstL g a w hr hs hR hl hn=>?_
 have hv1:=Zb.scal_eq (d:=.int q1 n) rfl (hl1▸hR l (by simp[Op.operands]))
 have hv2:=Zb.scal_eq (d:=.int q2 m) rfl (hl2▸hR c (by simp[Op.operands]))
 obtain⟨nn,rfl⟩:∃ nn:Nat,n=nn:=⟨n.toNat,by omega⟩
 have hnm:m=(nn:Int):=by omega
 subst hnm
 have hnn:nn<=68719476736:=by omega
 have wl:IntKind.i64.wrap (nn:Int)=nn:=by
  have:(nn:Int)%18446744073709551616=nn:=Int.emod_eq_of_lt (by omega) (by omega)
  have h2:¬ ((nn:Int)>=9223372036854775808):=by omega
  simp[IntKind.wrap,IntKind.bits,IntKind.signed,this,h2]
 have hbb:i.bytes<=1000:=by omega
 have hprod:nn*i.bytes<=68719476736*1000:=Nat.mul_le_mul hnn hbb
 have hzsz:zv.cells.size=i.size:=by
  have h1:=hT t (by rw[ZaI he];omega)
  rw[Zca he,ZaI he] at h1
  have h2:(ZaM P e).length=P.cellsOf e:=by simp[ZaM,h1]
  have h3:zv.cells.size=(ZaM P e).length:=by simpa using hzl.symm
  omega
 have hrun:(Instr.makeSlice t (.int q1 nn) (.int q2 nn)).run P w=.ok (.slice (some ⟨w.heap.size,0,none⟩) nn nn)
   (w.alloc (.cells ((Array.range (nn*i.size)).map (((if nn*i.size=0 then #[] else zv.cells):Array Value)[·%((if nn*i.size=0 then #[] else zv.cells):Array Value).size]!)) e)):=by
  have n1:¬ ((nn:Int)<0):=by omega
  have n2:¬ (281474976710656<(i.bytes:Int)*(nn:Int)):=by
   have:(i.bytes:Int)*(nn:Int)=((nn*i.bytes:Nat):Int):=by push_cast;exact Int.mul_comm _ _
   rw[this];omega
  have n3:¬ (nn*i.bytes>roomBytes):=by simp only[roomBytes];omega
  by_cases hz0:nn*i.size=0
  ·simp[Instr.makeSlice,Zg hu,asInt,asIntOf,typeInfo,hi,sizeOf,wl,n1,n2,n3,hz0,newRow,askRoom]
  ·simp[Instr.makeSlice,Zg hu,asInt,asIntOf,typeInfo,hi,sizeOf,zeroValue,hzv,wl,n1,n2,n3,hz0,newRow,askRoom]
 have hkeep:∀ o:Go.Obj,∀ b,b<w.heap.size->b∉[].flatMap g.fp->(w.alloc o).heap[b]? = w.heap[b]?:=λo b hb _=>by rw[Zbj,if_neg (by omega)]
 have hrun':(execOp a.eval ⟨dst,.makeSlice t l c,ty,pos,af,gd⟩).run P w=_:=ZaF (show(Instr.makeSlice t (a.eval l) (a.eval c)).run P w=_ by rw[hv1,hv2];exact hrun)
 refine⟨_,_,[w.heap.size],.slice (some ⟨w.heap.size,0,none⟩) nn nn,Zl P t,hrun',by rw[ZaN];omega,rfl,rfl,rfl,hkeep _,by simp,λb hb=>?_,by simp,?_,?_⟩
 ·simp at hb;subst hb;exact⟨by rw[ZaN];omega,λh=>by omega⟩
 ·simp only[Zn]
  refine⟨⟨?_,G.one_sz⟩,λ_ b hb=>?_,by simp⟩
  case refine_2=>
   rw[G.one_fp] at hb;simp at hb;subst hb;exact .inl (Nat.le_trans hs.base hs.size)
  rw[G.one_hv,G.one_fp]
  simp only[OwC]
  refine⟨_,nn,by simp,.inr ⟨w.heap.size,0,_,e,[],rfl,λ_=>rfl,rfl,by rw[Zbj,if_pos rfl],by rw[ZaI he];omega,by rw[ZaI he];simp[hisz],by simp,?_⟩⟩
  simp only[Int.toNat_natCast]
  refine Ze.replicate nn 0 λj hj=>?_
  rw[<- hz]
  refine zow P _ _ _ _ _ ?_ λjj v hv=>?_
  ·rw[Zca he];simp only[ZaM,List.length_map] at hzl;exact hzl
  ·have hz0:¬ nn*i.size=0:=by
    have:0<nn*i.size:=Nat.mul_pos (by omega) (by omega)
    omega
   rw[if_neg hz0,ZaI he,<- hisz,Nat.zero_add]
   exact zeros_get hzsz (by omega) hj hv
 ·simp only[Zb]
  exact⟨G.one_B,G.one_hv.symm⟩
end
end Go.T
