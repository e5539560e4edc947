/- More operations that compute a value: conversions,lengths,structs. -/
import Derived.Test.YtlobhlnahhjpjaaGreatTStep
set_option linter.unusedVariables false
set_option linter.unusedSimpArgs false
namespace Go.T
theorem fold_splice (off:Nat):∀ (l:List Value) (k:Nat) (cells:Array Value),off+k+l.length<=cells.size->
  ((l.zipIdx k).foldl (λcs (p:Value×Nat)=>cs.setIfInBounds (off+p.2) p.1) cells).toList=Zs cells.toList (off+k) l
 |[],k,cells,_=>by simp[splice_nil]
 |v::l,k,cells,h=>by
  simp at h
  rw[List.zipIdx_cons,List.foldl_cons,fold_splice off l (k+1) _ (by simp;omega),splice_cons (by simp;omega)]
  simp[Nat.add_assoc]
theorem fold_splice' (off:Nat) (v:Array Value) (cells:Array Value) (h:off+v.size<=cells.size):
  (v.zipIdx.foldl (λcs (c,j)=>cs.setIfInBounds (off+j) c) cells).toList=Zs cells.toList off v.toList:=by
 have:=fold_splice off v.toList 0 cells (by simpa using h)
 rw[<- Array.foldl_toList,Array.toList_zipIdx]
 simpa using this
theorem Zh.cellsOf {X:Fix} {w:World} {g:G} {ts:List T} {vs:List Value} (h:Zh X w g ts vs):vs.length=ts.length:=Zh.length h
theorem fill_sound {P:Program} {X:Fix} {w:World} {g:G} {st:St} {a:Act} (hr:Rel P X w g st a) {fs:List (Nat×Nat×Bool)} {place:Nat->Option (Nat×Nat)} (hp:∀ i off n gg,fs[i]? = some (off,n,gg)->place i=some (off,n)):
  ∀ (ps:List (Nat×T)) (vs:List (Nat×Value)) (cs cs':List T) (cells:Array Value),fillT fs cs ps=some cs'->Zh X w g cs cells.toList->
   ps.length=vs.length->(∀ (j:Nat) (i:Nat) (t:T),ps[j]? = some (i,t)->∃ v,vs[j]? = some (i,v)/\Zb X w g t v)->
   ∃ cells',Instr.fill place cells vs=some cells'/\Zh X w g cs' cells'.toList
 |[],[],cs,cs',cells,h,r,_,_=>by
  simp only[fillT] at h
  injection h with h
  subst h
  exact⟨cells,rfl,r⟩
 |(i,x)::ps,(i',v)::vs,cs,cs',cells,h,r,hl,hv=>by
  obtain⟨v',he,rv⟩:=hv 0 i x (by simp)
  simp at he
  obtain⟨rfl,rfl⟩:=he
  simp only[fillT] at h
  split at h
  case h_2=>cases h
  rename_i off n gg hf
  split at h
  case isFalse=>cases h
  rename_i hc
  obtain⟨h1,h2,h3⟩:=hc
  obtain⟨rc,_⟩:=Zb.cells hr h2 rv
  have hlc:v.cells.size=n:=by have:=Zh.length rc;simp at this;omega
  have hls:cells.size=cs.length:=by have:=Zh.length r;simpa using this
  have hsp:=fold_splice' off v.cells cells (by omega)
  have r':Zh X w g (Zs cs off (Zy x)) (v.cells.zipIdx.foldl (λcs (c,j)=>cs.setIfInBounds (off+j) c) cells).toList:=by
   rw[hsp];exact Zh.splice r rc (by omega)
  obtain⟨cells',hf',rf⟩:=fill_sound hr hp ps vs _ cs' _ h r' (by simpa using hl) (λj i t hj=>by simpa using hv (j+1) i t (by simpa using hj))
  refine⟨cells',?_,rf⟩
  simp only[Instr.fill,hp i' off n gg hf]
  rw[if_neg (by simp;omega)]
  exact hf'
 |[],_::_,_,_,_,_,_,hl,_=>by simp at hl
 |_::_,[],_,_,_,_,_,hl,_=>by simp at hl
theorem underlying_info {P:Program} {t:TypeId} (h:(P.underlying t).isSome=true):∃ i,P.info? t=some i/\i.size=P.cellsOf t:=by
 unfold Program.underlying at h
 unfold Program.cellsOf
 cases hi:P.info? t with
 |none=>rw[hi] at h;simp at h
 |some i=>exact⟨i,rfl,by simp⟩
theorem run_sizeOf2 {P:Program} {t:TypeId} (h:(P.underlying t).isSome=true) (w:World):(sizeOf t).run P w=.ok (P.cellsOf t) w:=by
 obtain⟨i,hi,hs⟩:=underlying_info h
 show(Sem.bind (typeInfo t) _).run P w=_
 rw[Zm,ZcT hi]
 show Result.ok i.size w=_
 rw[hs]
theorem run_places {P:Program} (w:World):∀ (fs:List Field),(fs.all λf=>(P.underlying f.type).isSome)=true->
  (fs.mapM λf=>(do pure (f.offset,<- sizeOf f.type):Sem (Nat×Nat))).run P w=.ok (fs.map λf=>(f.offset,P.cellsOf f.type)) w
 |[],_=>rfl
 |f::fs,h=>by
  simp only[List.all_cons,Bool.and_eq_true] at h
  rw[List.mapM_cons,ZT,ZT,run_sizeOf2 h.1]
  simp only[]
  rw[ZM]
  simp only[]
  rw[ZT,run_places w fs h.2]
  rfl
theorem structFields_all {P:Program} {s:TypeId} {fs:List (Nat×Nat×Bool)} (h:Za5 P s=some fs):
  ∃ fields,P.underlying s=some (.struct fields)/\(fields.toList.all λf=>(P.underlying f.type).isSome)=true/\fs=fields.toList.map λf=>(f.offset,P.cellsOf f.type,ZU P f.type):=by
 unfold Za5 at h
 split at h
 ·rename_i fields hu
  split at h
  ·rename_i hall
   injection h with h
   exact⟨fields,hu,hall,h.symm⟩
  ·cases h
 ·cases h
section
variable {P:Program} {E:Env} {st:St} {β:Type} {k:St->Option β} {r:β} {dst:Option Nat} {ty:TypeId} {pos:String} {af:Array Edge} {gd:Option (Nat×Bool)}
theorem opBuild {t:TypeId} {parts:Array (Nat×Operand)} (h:ZL P E ⟨dst,.build t parts,ty,pos,af,gd⟩ st k=some r):ZD P E ⟨dst,.build t parts,ty,pos,af,gd⟩ st k r:=by
 simp only[ZL] at h
 split at h
 case h_2=>cases h
 rename_i fs z hfs hz
 split at h
 case h_2=>cases h
 rename_i cs hfill
 obtain⟨fields,hu,hall,hfe⟩:=structFields_all hfs
 unfold zeroCells at hz
 split at hz
 case isFalse=>cases hz
 rename_i hzo
 injection hz with hz
 subst hz
 obtain⟨i,zv,hi,hzv,hzs⟩:=Zbr hzo
 obtain⟨zr,_,_,_⟩:=Zaq hzs
 refine ZD.pure h λX stL g a w hr hR hl=>?_
 obtain⟨cells',hf,rc⟩:=fill_sound (P:=P) hr (fs:=fs) (place:=((fields.toList.map λf=>(f.offset,P.cellsOf f.type)).toArray[·]?)) (λi off n gg hi=>by
   rw[hfe,List.getElem?_map] at hi
   obtain⟨f,hf,he⟩:=Option.map_eq_some_iff.mp hi
   injection he with e1 e2
   injection e2 with e2 e3
   simp only[List.getElem?_toArray,List.getElem?_map,hf,Option.map_some,e1,e2]) _ (parts.toList.map λp=>(p.1,a.eval p.2)) _ _ zv.cells hfill (zr X w g) (by simp) (λj i t hj=>by
   rw[List.getElem?_map] at hj
   obtain⟨p,hp,he⟩:=Option.map_eq_some_iff.mp hj
   injection he with e1 e2
   refine⟨a.eval p.2,by rw[List.getElem?_map,hp,<- e1];rfl,?_⟩
   rw[<- e2]
   refine hR p.2 ?_
   have:=List.mem_of_getElem? hp
   simp only[Op.operands,Array.toList_map]
   exact List.mem_map.mpr ⟨p,this,rfl⟩)
 refine⟨.agg cells',ZaF ?_,by simp only[Zb];exact⟨cells'.toList,by simp,rc⟩⟩
 show(Sem.bind (zeroValue t) _).run P w=_
 rw[Zm,run_zeroValue hi hzv]
 show(Sem.bind (underlying t) _).run P w=_
 rw[Zm,Zg hu]
 show(Sem.bind (fields.mapM _) _).run P w=_
 rw[Zm]
 have hm:(fields.mapM λf=>(do pure (f.offset,<- sizeOf f.type):Sem (Nat×Nat))).run P w=.ok (fields.toList.map λf=>(f.offset,P.cellsOf f.type)).toArray w:=by
  rw[Array.mapM_eq_mapM_toList]
  show((List.toArray <$> _:Sem _)).run P w=_
  rw[map_eq_pure_bind,ZT,run_places w _ hall]
  rfl
 rw[hm]
 simp only[Array.toList_map,hf]
 rfl
theorem opMakeInterface {t:TypeId} {x:Operand} (h:ZL P E ⟨dst,.makeInterface t x,ty,pos,af,gd⟩ st k=some r):ZD P E ⟨dst,.makeInterface t x,ty,pos,af,gd⟩ st k r:=by
 simp only[ZL] at h
 split at h
 ·cases h
 ·rename_i d hni hu
  refine ZD.pure h λX stL g a w hr hR hl=>⟨.iface t (a.eval x),ZaF ?_,by simp[Zb]⟩
  show(Sem.bind (underlying t) _).run P w=_
  rw[Zm,Zg hu]
  cases d<;>first|rfl|exact absurd rfl (hni _)
 ·cases h
theorem bytesOf_some:∀ {xs:List (List D)} {k:List UInt8->Option β} {y:β},bytesOf xs k=some y->∃ ns:List Int,xs=ns.map (λn=>[.int .u8 n])/\k (ns.map λn=>UInt8.ofNat n.toNat)=some y
 |[],k,y,h=>⟨[],rfl,h⟩
 |x::xs,k,y,h=>by
  simp only[bytesOf] at h
  obtain⟨d,r,rfl,h⟩:=Zce h
  obtain⟨rfl,h⟩:=atEnd_some h
  obtain⟨n,rfl,h⟩:=dInt_some h
  obtain⟨ns,hx,h'⟩:=bytesOf_some h
  subst hx
  exact⟨n::ns,rfl,h'⟩
theorem run_bytes {P:Program} {w:World} {f:Value->ByteArray->Sem (ForInStep ByteArray)} (hf:∀ n s,f (.int .u8 n) s=pure (ForInStep.yield (s.push (UInt8.ofNat n.toNat)))):∀ (ns:List Int) (s:ByteArray),
  (forIn (m:=Sem) (ns.map λn=>Value.int .u8 n) s f).run P w=.ok ⟨s.data++(ns.map λn=>UInt8.ofNat n.toNat).toArray⟩ w
 |[],s=>by simp[ZM]
 |n::ns,s=>by
  rw[List.map_cons,List.forIn_cons,hf,ZT,ZM]
  show(forIn (m:=Sem) (ns.map λn=>Value.int .u8 n) (s.push (UInt8.ofNat n.toNat)) _).run P w=_
  rw[run_bytes hf ns]
  simp[ByteArray.push]
theorem cellD_sl {st stL:St} {X:Fix} {w:World} {g:G} {a:Act} {x:T} {f:Bool} {xs:List (List D)} {v:Value} (hT:Zar P) (hr:Rel P X w g stL a) (hs:ZW g stL st (ZE st x)) (h:cellD false st x=some (f,.sl xs)) (rv:Zb X w g x v):
  ∃ J:Nat->Prop,RdD w J (.sl xs) v:=by
 unfold cellD at h
 split at h
 ·injection h with h;injection h with h1 h2;subst h2
  simp only[Zb] at rv
  exact⟨_,rv⟩
 ·injection h with h;injection h with h1 h2;injection h2 with h2;subst h2
  simp only[Zb] at rv
  obtain⟨ad,rfl⟩:=rv
  exact⟨λ_=>False,by simp only[RdD];exact⟨ad,0,0,rfl,rfl,by omega,.inl trivial⟩⟩
 ·rename_i id
  simp only[Zb] at rv
  split at h
  ·rename_i ho
   simp only[cond_false] at h
   injection h with h;injection h with h1 h2;injection h2 with h2;subst h2
   obtain⟨_,_,⟨row,_⟩,_⟩:=hs.obj hr (by simp[ZE]) ho
   rw[rv.2]
   exact⟨λ_=>True,by have:=OwC.imm (J:=λ_=>True) (λ_ _=>trivial) (λ_ _=>trivial) hT row;simpa[C.imm] using this⟩
  ·rename_i ho
   injection h with h;injection h with h1 h2;injection h2 with h2;subst h2
   obtain⟨_,_,hrd,_⟩:=hs.obj hr (by simp[ZE]) ho
   rw[rv.2]
   exact⟨_,hrd⟩
  ·cases h
 ·cases h
theorem opConvert {s d:TypeId} {x:Operand} (hT:Zar P) (h:ZL P E ⟨dst,.convert s d x,ty,pos,af,gd⟩ st k=some r):ZD P E ⟨dst,.convert s d x,ty,pos,af,gd⟩ st k r:=by
 simp only[ZL] at h
 unfold convDen at h
 split at h
 ·rename_i q1 q2 ff q n h1 h2 hx
  refine ZD.pure h λX stL g a w hr hR hl=>⟨_,ZaF ?_,Zb.scal (d:=.int q2 (q2.wrap n)) rfl⟩
  have hv:=Zb.scal_eq (d:=.int q n) rfl (hx▸hR x (by simp[Op.operands]))
  show(Sem.bind (underlying s) _).run P w=_
  rw[Zm,Zg (ZcA h1)]
  show(Sem.bind (underlying d) _).run P w=_
  rw[Zm,Zg (ZcA h2),hv]
  rfl
 ·rename_i q1 ff q n h1 h2 hx
  refine ZD.pure h λX stL g a w hr hR hl=>⟨_,ZaF ?_,Zb.scal (d:=.str (Utf8.encode n)) rfl⟩
  have hv:=Zb.scal_eq (d:=.int q n) rfl (hx▸hR x (by simp[Op.operands]))
  show(Sem.bind (underlying s) _).run P w=_
  rw[Zm,Zg (ZcA h1)]
  show(Sem.bind (underlying d) _).run P w=_
  rw[Zm,Zg (Zbt h2),hv]
  rfl
 ·rename_i ff ss h1 h2 hx
  refine ZD.pure h λX stL g a w hr hR hl=>⟨_,ZaF ?_,Zb.scal (d:=.str ss) rfl⟩
  have hv:=Zb.scal_eq (d:=.str ss) rfl (hx▸hR x (by simp[Op.operands]))
  show(Sem.bind (underlying s) _).run P w=_
  rw[Zm,Zg (Zbt h1)]
  show(Sem.bind (underlying d) _).run P w=_
  rw[Zm,Zg (Zbt h2),hv]
  rfl
 ·rename_i h1 h2
  split at h
  case h_2=>cases h
  rename_i e hu
  split at h
  case isFalse=>cases h
  rename_i he
  split at h
  case h_2=>cases h
  rename_i f xs hx
  obtain⟨ns,hxs,h'⟩:=bytesOf_some h
  subst hxs
  refine ZD.pure h' λX stL g a w hr hR hl=>⟨_,ZaF ?_,Zb.scal (d:=.str ⟨(ns.map λn=>UInt8.ofNat n.toNat).toArray⟩) rfl⟩
  obtain⟨J,hrd⟩:=cellD_sl hT hr (hl.sub (ZaS (x:=x) (by simp[Op.operands]))) hx (hR x (by simp[Op.operands]))
  simp only[RdD] at hrd
  obtain⟨ad,len,cap,hv,hlen,_,hrd⟩:=hrd
  have hconv:(convert s d (a.eval x)).run P w=(Conv.bytesToString (a.eval x)).run P w:=by
   show(Sem.bind (underlying s) _).run P w=_
   rw[Zm,Zg hu]
   show(Sem.bind (underlying d) _).run P w=_
   rw[Zm,Zg (Zbt h2),hv]
   show(Sem.bind (underlying e) _).run P w=_
   rw[Zm,Zg (ZcA he)]
  rw[hconv,hv]
  rcases hrd with hnil|⟨b,off,c,ee,fr,sz,rfl,_,hb,hsz,rows⟩
  ·have:ns=[]:=by simpa using hnil
   subst this
   simp at hlen
   subst hlen
   cases ad with
   |none=>rfl
   |some ad=>rfl
  ·simp at hlen
   subst hlen
   show(Sem.bind (loadCells ⟨b,off,none⟩ ns.length) _).run P w=_
   have hvals:∀ (j:Nat) (v:Value),(ns.map λn=>Value.int .u8 n)[j]? = some v->c[off+j]? = some v:=by
    intro j v hj
    rw[List.getElem?_map] at hj
    obtain⟨n,hn,rfl⟩:=Option.map_eq_some_iff.mp hj
    obtain⟨h3,h4⟩:=ZC.get rows (i:=j) (x:=[.int .u8 n]) (by rw[List.getElem?_map,hn];rfl)
    simp at h3
    subst h3
    simp only[Zi,RdD] at h4
    obtain⟨⟨v,hv,rfl⟩,_⟩:=h4
    simpa using hv
   have:=ZcU (P:=P) hb (ns.map λn=>Value.int .u8 n) hvals
   rw[List.length_map] at this
   rw[Zm,this]
   show(Sem.bind (forIn (m:=Sem) (ns.map λn=>Value.int .u8 n).toArray ByteArray.empty _) _).run P w=_
   rw[Zm,List.forIn_toArray,run_bytes (λ_ _=>rfl) ns]
   show Result.ok (Value.string ⟨#[]++_⟩) w=_
   simp[Zav]
 ·cases h
theorem Zbs {c:Call} {dst:Option Nat} {ty:TypeId} {pos:String} {af:Array Edge} {gd:Option (Nat×Bool)} {x:Operand} {st:St} (hx:x∈c.args.toList):∀ id∈ZE st (st.ev x),id∈Za9 ⟨dst,.call c,ty,pos,af,gd⟩ st:=
 ZaS (o:=⟨dst,.call c,ty,pos,af,gd⟩) (by
  simp only[Op.operands,Call.operands]
  split<;>simp[Array.mem_toList_iff.mp hx])
theorem Z3 {c:Call} {x:Operand} (hx:x∈c.args.toList):x∈(Op.call c).operands.toList:=by
 simp only[Op.operands,Call.operands]
 split<;>simp[Array.mem_toList_iff.mp hx]
theorem ZcK {α:Type} {a:Array α} {x y:α} (h:a.toList=[x,y]):a=#[x,y]:=by
 apply Array.ext';simpa using h
theorem toList_one {α:Type} {a:Array α} {x:α} (h:a.toList=[x]):a=#[x]:=by
 apply Array.ext';simpa using h
theorem Zcf {P:Program} {a:Act} {w w':World} {dst:Option Nat} {ty:TypeId} {pos:String} {af:Array Edge} {gd:Option (Nat×Bool)} {c:Call} {b:Builtin} (hb:c.callee=.builtin b) {n:Next}
  (h:(builtin b c.argTypes ty (c.args.map fun|.const _=>true|_=>false) (c.args.map a.eval)).run P w=.ok n w'):(execOp a.eval ⟨dst,.call c,ty,pos,af,gd⟩).run P w=.ok n w':=by
 show(Sem.bind (resolve a.eval c ty) _).run P w=_
 rw[Zm]
 have:(resolve a.eval c ty).run P w=.ok { target:=.builtin b c.argTypes ty (c.args.map fun|.const _=>true|_=>false),args:=c.args.map a.eval } w:=by
  unfold resolve
  rw[hb]
  rfl
 rw[this]
 exact h
theorem opLen {c:Call} (hc:c.callee=.builtin .len) (h:ZL P E ⟨dst,.call c,ty,pos,af,gd⟩ st k=some r):ZD P E ⟨dst,.call c,ty,pos,af,gd⟩ st k r:=by
 simp only[ZL,hc] at h
 split at h
 case h_2=>cases h
 rename_i x t hx ht
 obtain⟨d,hk,hd,hs⟩:=len_sound (ty:=ty) h
 refine ZD.pure hk λX stL g a w hr hR hl=>⟨Zav d,Zcf hc ?_,Zb.scal hd⟩
 have hm:x∈c.args.toList:=by rw[hx];simp
 rw[toList_one hx,toList_one ht,show(#[x].map a.eval)=#[a.eval x] from by simp]
 exact ZaF (hs X w g stL a _ hr (hR x (Z3 hm)) (hl.sub (Zbs hm)))
theorem opCap {c:Call} (hc:c.callee=.builtin .cap) (h:ZL P E ⟨dst,.call c,ty,pos,af,gd⟩ st k=some r):ZD P E ⟨dst,.call c,ty,pos,af,gd⟩ st k r:=by
 simp only[ZL,hc] at h
 split at h
 case h_2=>cases h
 rename_i t hx ht
 split at h
 case isFalse=>cases h
 rename_i hk
 obtain⟨x,hxa,hxe⟩:=List.map_eq_singleton_iff.mp hx
 refine ZD.pure h λX stL g a w hr hR hl=>⟨.int .i64 0,Zcf hc ?_,Zb.scal (d:=.int .i64 0) rfl⟩
 have hm:x∈c.args.toList:=by rw[hxa];simp
 have rv:=hR x (Z3 hm)
 rw[hxe] at rv
 simp only[Zb] at rv
 obtain⟨ad,hv⟩:=rv
 obtain⟨e,hu⟩:=ZbR hk
 rw[toList_one hxa,toList_one ht]
 simp only[List.map_toArray,List.map_cons,List.map_nil,hv]
 refine ZaF ?_
 show(Sem.bind (underlying t) _).run P w=_
 rw[Zm,Zg hu]
 rfl
theorem opMin {c:Call} (hc:c.callee=.builtin .min) (h:ZL P E ⟨dst,.call c,ty,pos,af,gd⟩ st k=some r):ZD P E ⟨dst,.call c,ty,pos,af,gd⟩ st k r:=by
 simp only[ZL,hc] at h
 split at h
 case h_2=>cases h
 rename_i f1 q1 n1 f2 q2 n2 hx
 obtain⟨x,l,hxa,hxe,hl2⟩:=List.map_eq_cons_iff.mp hx
 obtain⟨y,hya,hye⟩:=List.map_eq_singleton_iff.mp hl2
 subst hya
 refine ZD.pure h λX stL g a w hr hR hl=>⟨_,Zcf hc ?_,Zb.scal (d:=.int q1 (if n2<n1 then n2 else n1)) rfl⟩
 have hv1:=Zb.scal_eq (d:=.int q1 n1) rfl (hxe▸hR x (Z3 (by rw[hxa];simp)))
 have hv2:=Zb.scal_eq (d:=.int q2 n2) rfl (hye▸hR y (Z3 (by rw[hxa];simp)))
 rw[ZcK hxa]
 simp only[List.map_toArray,List.map_cons,List.map_nil,hv1,hv2]
 exact ZaF rfl
theorem opMax {c:Call} (hc:c.callee=.builtin .max) (h:ZL P E ⟨dst,.call c,ty,pos,af,gd⟩ st k=some r):ZD P E ⟨dst,.call c,ty,pos,af,gd⟩ st k r:=by
 simp only[ZL,hc] at h
 split at h
 case h_2=>cases h
 rename_i f1 q1 n1 f2 q2 n2 hx
 obtain⟨x,l,hxa,hxe,hl2⟩:=List.map_eq_cons_iff.mp hx
 obtain⟨y,hya,hye⟩:=List.map_eq_singleton_iff.mp hl2
 subst hya
 refine ZD.pure h λX stL g a w hr hR hl=>⟨_,Zcf hc ?_,Zb.scal (d:=.int q1 (if n2>n1 then n2 else n1)) rfl⟩
 have hv1:=Zb.scal_eq (d:=.int q1 n1) rfl (hxe▸hR x (Z3 (by rw[hxa];simp)))
 have hv2:=Zb.scal_eq (d:=.int q2 n2) rfl (hye▸hR y (Z3 (by rw[hxa];simp)))
 rw[ZcK hxa]
 simp only[List.map_toArray,List.map_cons,List.map_nil,hv1,hv2]
 exact ZaF rfl
end
end Go.T
