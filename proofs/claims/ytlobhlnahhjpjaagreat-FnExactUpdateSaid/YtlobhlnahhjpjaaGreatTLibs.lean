/- Library functions that are not read by the evaluator: their contracts,proved by hand. -/
import Derived.Test.YtlobhlnahhjpjaaGreatTMark
import Derived.Lib.Bytealg
import Derived.Lib.Walk
import Derived.Tactics2
import Derived.Shelf.RegionOpenPlain
import Derived.WalkKit
import Derived.Deep.RegionLaw
import Derived.Deep.LoopGhost
import Derived.Shelf.Abstract
set_option linter.unusedVariables false
set_option linter.unusedSimpArgs false
namespace Go.T
open Go.Proofs
abbrev LD:=List (List D)
abbrev LC:=List (List C)
abbrev BA:=ByteArray
def cmpS (a b:ByteArray):Int:=Go.Lib.compareBytes a.data.toList b.data.toList
theorem strs_ok {P:Program} {f:FuncId} {t:TypeId} (hent:Zbo P f=true) (ht:(ZU P t||Zb5 P t)=false) (hf:Zq P 6 t=[t]) {g:ByteArray->ByteArray->Int} (h:∀ (a b:ByteArray) (w:World),Calls P f #[.string a,.string b] w λe w'=>e=.returned (.int .i64 (g a b))/\w'=w)
  {run:{β:Type}->List A->(List (List C)->List Out->Option β)->Option β} (hrun:∀ (β:Type) (aa:List A) (K:List (List C)->List Out->Option β) (r:β),run aa K=some r->∃ a b,aa=[.d (.str a),.d (.str b)]/\K [[.d (.int .i64 (g a b))]] []=some r):
  Zf P f { modes:=[(.imm,0),(.imm,0)],rts:=[t],al:=false,run:=run }:=by
 obtain⟨ht,hp⟩:=Bool.or_eq_false_iff.mp ht
 refine⟨hent,λβ aa K r hr=>?_,λL hL=>by cases hL⟩
 obtain⟨a,b,rfl,hk⟩:=hrun β aa K r hr
 refine⟨_,_,hk,λw I Q vs F hargs hnd hF hI=>?_⟩
 simp only[ZO,ZJ,RdD] at hargs
 obtain⟨v1,vs1,F1,F2,rfl,rfl,⟨rfl,rfl⟩,v2,vs2,F3,F4,rfl,rfl,⟨rfl,rfl⟩,rfl,rfl⟩:=hargs
 refine Calls.mono (h a b w) ?_
 rintro e w' ⟨rfl,rfl⟩
 refine⟨_,[.int .i64 (g a b)],I,[],[],rfl,rfl,Nat.le_refl _,rfl,rfl,rfl,λ_ _ _=>rfl,λ_ h=>h,λb hb=>⟨hI b hb,.inl hb⟩,by simp,by simp,?_,?_,by simp⟩
 ·simp[Z0]
 ·simp only[ZaO]
  refine⟨_,[],[],[],rfl,rfl,.inl ⟨hp,#[.int .i64 (g a b)],by rw[ht];rfl,rfl,?_⟩,by simp⟩
  rw[hf]
  simp only[Za,OwC,RdD]
  exact⟨t,[],_,[],[],rfl,rfl,rfl,⟨rfl,rfl⟩,by simp⟩
structure Hold (p:Prop):Prop where
 out:p
structure Only (b:Nat) (w w':World):Prop where
 size:w'.heap.size=w.heap.size
 os:w'.os=w.os
 tape:w'.tape=w.tape
 output:w'.output=w.output
 other:∀ b',b'≠b->w'.heap[b']? = w.heap[b']?
theorem Only.refl (b:Nat) (w:World):Only b w w:=⟨rfl,rfl,rfl,rfl,λ_ _=>rfl⟩
theorem Only.trans {b:Nat} {w w' w'':World} (h:Only b w w') (h':Only b w' w''):Only b w w'':=
 ⟨h'.size.trans h.size,h'.os.trans h.os,h'.tape.trans h.tape,h'.output.trans h.output,λb' hb=>(h'.other b' hb).trans (h.other b' hb)⟩
theorem Only.drew (b:Nat) (w:World):Only b w w.drew:=⟨rfl,rfl,rfl,rfl,λ_ _=>rfl⟩
def putA (c:Array Value):Nat->List Value->Array Value
 |_,[]=>c
 |o,v::r=>putA (c.setIfInBounds o v) (o+1) r
theorem Zab:∀ (vs:List Value) (c:Array Value) (o:Nat),(putA c o vs).size=c.size
 |[],_,_=>rfl
 |v::r,c,o=>by rw[putA,Zab r];simp
theorem Z6:∀ (vs:List Value) (c:Array Value) (o t:Nat),o+vs.length<=c.size->(putA c o vs)[t]? = if o<=t/\t<o+vs.length then vs[t-o]? else c[t]?
 |[],c,o,t,_=>by simp[putA];omega
 |v::r,c,o,t,h=>by
  rw[putA,Z6 r _ _ _ (by simp at h⊢;omega)]
  simp only[List.length_cons] at h⊢
  by_cases h1:o+1<=t/\t<o+1+r.length
  ·rw[if_pos h1,if_pos (by omega),show t-o=(t-(o+1))+1 from by omega,List.getElem?_cons_succ]
  ·rw[if_neg h1,Array.getElem?_setIfInBounds]
   by_cases h2:o=t
   ·subst h2
    rw[if_pos rfl,if_pos (by omega),if_pos (by omega)]
    simp
   ·rw[if_neg h2,if_neg (by omega)]
theorem Zaa {b:Nat} {e:TypeId} {f:Nat×Nat}:∀ (vs:List Value) {w:World} {c:Array Value} (o:Nat),w.heap[b]? = some (.cells c e f)->(w.setCells b o vs).heap[b]? = some (.cells (putA c o vs) e f)/\Only b w (w.setCells b o vs)
 |[],w,c,o,h=>⟨h,Only.refl b w⟩
 |v::r,w,c,o,h=>by
  have h1:(w.setCell ⟨b,o,none⟩ v).heap[b]? = some (.cells (c.setIfInBounds o v) e f):=by
   simp only[World.setCell]
   rw[Array.getElem?_modify,if_pos rfl,h]
   rfl
  obtain⟨h2,h3⟩:=Zaa r (o+1) h1
  refine⟨h2,Only.trans (w':=w.setCell ⟨b,o,none⟩ v) ⟨by simp[World.setCell],rfl,rfl,rfl,λb' hb'=>?_⟩ h3⟩
  simp only[World.setCell]
  rw[Array.getElem?_modify,if_neg (λe=>hb' e.symm)]
theorem Zax {w:World} {b:Nat} {c:Array Value} {e:TypeId} (h:w.heap[b]? = some (.cells c e (0,0))) (p:Nat):w.frozen? ⟨b,p,none⟩=false:=by
 simp[World.frozen?,h]
theorem run_clear_cells {P:Program} {w:World} {t e ty:TypeId} {i:TypeInfo} {z:Value} (ht:P.underlying t=some (.slice e)) (hi:P.info? e=some i) (hz:i.zero=some z) (h1:∀ v∈z.cells.toList,v.oneCell'=true) {b o n c:Nat} (hn:0<n)
  (hc:∀ j,j<n*z.cells.size->(w.cell? ⟨b,o+j,none⟩).isSome=true) (hf:∀ j,j<n*z.cells.size->w.frozen? ⟨b,o+j,none⟩=false):
  (Builtin.clear_ #[t] ty #[.slice (some ⟨b,o,none⟩) n c]).run P w=.ok (.tuple #[]) (w.setCells b o (Builtin.zeroCells z.cells n).toList):=by
 have hl:(Builtin.zeroCells z.cells n).toList.length=n*z.cells.size:=by simp[Zaj]
 have hst:=run_storeCells_cells (P:=P) b o (Builtin.zeroCells z.cells n).toList 0 w (by rw[hl];simpa using hc) (by rw[hl];simpa using hf) (λv hv=>by
  simp only[Builtin.zeroCells,Array.mem_toList_iff,Array.mem_map,Array.mem_range] at hv
  obtain⟨q,hq,rfl⟩:=hv
  by_cases h0:z.cells.size=0
  ·rw[h0] at hq;simp at hq
  ·refine h1 _ ?_
   rw[getElem!_pos z.cells _ (Nat.mod_lt _ (by omega))]
   simp)
 simp only[Nat.add_zero] at hst
 obtain⟨m,rfl⟩:∃ m,n=m+1:=⟨n-1,by omega⟩
 simp[Builtin.clear_,Zg ht,zeroValue,typeInfo,hi,hz,hst]
theorem Za.move {P:Program} {w:World} {I:Nat->Prop} {c c':Array Value}:∀ {xs:List C} {cts:List TypeId} {p p':Nat} {F:List Nat},Za P w I c xs cts p F->(∀ t,t<xs.length->c'[p'+t]? = c[p+t]?)->Za P w I c' xs cts p' F
 |[],_,_,_,_,r,_=>by simpa only[Za] using r
 |x::xs,cts,p,p',F,r,h=>by
  simp only[Za] at r⊢
  obtain⟨ct,cts',v,F1,F2,e1,e2,e3,r1,r2⟩:=r
  refine⟨ct,cts',v,F1,F2,e1,e2,by have:=h 0 (by simp);simp only[Nat.add_zero] at this;rw[this];exact e3,r1,Za.move r2 λt ht=>?_⟩
  have:=h (t+1) (by simp;omega)
  rwa[show p'+(t+1)=p'+1+t from by omega,show p+(t+1)=p+1+t from by omega] at this
theorem Ze.move {P:Program} {w:World} {I:Nat->Prop} {c c':Array Value} {cts:List TypeId} {sz:Nat} (hs:cts.length=sz):∀ {xs:List (List C)} {p p':Nat} {F:List Nat},Ze P w I c cts sz xs p F->(∀ t,t<xs.length*sz->c'[p'+t]? = c[p+t]?)->Ze P w I c' cts sz xs p' F
 |[],_,_,_,r,_=>by simpa only[Ze] using r
 |x::xs,p,p',F,r,h=>by
  simp only[Ze] at r⊢
  obtain⟨F1,F2,e,r1,r2⟩:=r
  have hl:x.length=sz:=by rw[Za.length r1,hs]
  refine⟨F1,F2,e,Za.move r1 λt ht=>h t (by simp only[List.length_cons,Nat.add_mul,Nat.one_mul];omega),Ze.move hs r2 λt ht=>?_⟩
  have:=h (sz+t) (by simp only[List.length_cons,Nat.add_mul,Nat.one_mul];omega)
  rwa[<- Nat.add_assoc,<- Nat.add_assoc] at this
structure Gr (b:Nat) (w w':World):Prop where
 size:w.heap.size<=w'.heap.size
 os:w'.os=w.os
 tape:w'.tape=w.tape
 output:w'.output=w.output
 other:∀ b',b'≠b->b'<w.heap.size->w'.heap[b']? = w.heap[b']?
theorem Gr.refl (b:Nat) (w:World):Gr b w w:=⟨Nat.le_refl _,rfl,rfl,rfl,λ_ _ _=>rfl⟩
theorem Gr.trans {b:Nat} {w w' w'':World} (h:Gr b w w') (h':Gr b w' w''):Gr b w w'':=
 ⟨Nat.le_trans h.size h'.size,h'.os.trans h.os,h'.tape.trans h.tape,h'.output.trans h.output,λb' hb hl=>(h'.other b' hb (Nat.lt_of_lt_of_le hl h.size)).trans (h.other b' hb hl)⟩
theorem Only.gr {b:Nat} {w w':World} (h:Only b w w'):Gr b w w':=⟨Nat.le_of_eq h.size.symm,h.os,h.tape,h.output,λb' hb _=>h.other b' hb⟩
structure Gs (w w':World):Prop where
 size:w.heap.size<=w'.heap.size
 os:w'.os=w.os
 tape:w'.tape=w.tape
 output:w'.output=w.output
 same:∀ b',b'<w.heap.size->w'.heap[b']? = w.heap[b']?
theorem Gs.gr {w w':World} (b:Nat) (h:Gs w w'):Gr b w w':=⟨h.size,h.os,h.tape,h.output,λb' _ hl=>h.same b' hl⟩
def kpt (p:Nat->Bool) (k0 n:Nat):List Nat:=(List.range k0)++((List.range' (k0+1) (n-(k0+1))).filter λj=>!p j)
theorem kpt_keep {p:Nat->Bool} {k0 j:Nat} (h:k0<j) (hp:p j=false):kpt p k0 (j+1)=kpt p k0 j++[j]:=by
 unfold kpt
 rw[show j+1-(k0+1)=(j-(k0+1))+1 from by omega,List.range'_concat,List.filter_append,<- List.append_assoc]
 congr 1
 rw[show k0+1+1*(j-(k0+1))=j from by omega]
 simp[hp]
theorem kpt_skip {p:Nat->Bool} {k0 j:Nat} (h:k0<j) (hp:p j=true):kpt p k0 (j+1)=kpt p k0 j:=by
 unfold kpt
 rw[show j+1-(k0+1)=(j-(k0+1))+1 from by omega,List.range'_concat,List.filter_append]
 rw[show k0+1+1*(j-(k0+1))=j from by omega]
 simp[hp]
theorem kpt_le {p:Nat->Bool} {k0 j:Nat} (h:k0<j):(kpt p k0 j).length<j/\k0<=(kpt p k0 j).length:=by
 unfold kpt
 have:=List.length_filter_le (λj=>!p j) (List.range' (k0+1) (j-(k0+1)))
 rw[List.length_range'] at this
 rw[List.length_append,List.length_range]
 omega
structure DfI (b k0:Nat) (c:Array Value) (e:TypeId) (p:Nat->Bool) (w wr:World) (i j:Nat) (ck:Array Value):Prop where
 lt:k0<j
 gr:Gr b w wr
 at_:wr.heap[b]? = some (.cells ck e (0,0))
 size:ck.size=c.size
 len:(kpt p k0 j).length=i
 high:∀ t,j<=t->ck[t]? = c[t]?
 low:∀ m k:Nat,(kpt p k0 j)[m]? = some k->ck[m]? = c[k]?
theorem caps_args {P:Program} {w:World} {I Q:Nat->Prop}:∀ {caps:List (List D)} {vs:List Value},Zay w I caps vs->ZO P w I Q (caps.map A.ip) (List.replicate caps.length (.imm,0)) vs []
 |[],vs,h=>by simpa[Zay,ZO] using h
 |x::xs,vs,h=>by
  simp only[Zay] at h
  obtain⟨b,off,c,e,fr,vs',rfl,h1,h2,h3,h4⟩:=h
  simp only[List.map_cons,List.length_cons,List.replicate_succ,ZO]
  exact⟨_,_,[],[],rfl,rfl,⟨rfl,b,off,c,e,fr,rfl,h1,h2,h3⟩,caps_args h4⟩
theorem enters {P:Program} {g:Nat} (he:Zbo P g=true) (aa:Array Value) (w:World):(callFunc g aa).run P w=.ok (.enter g aa) w:=by
 unfold Zbo at he
 split at he
 ·rename_i fn hfn
  simp only[Bool.and_eq_true,bne_iff_ne,ne_eq] at he
  obtain⟨h1,h2⟩:=he
  unfold callFunc
  show(Sem.bind program _).run P w=_
  rw[Zm]
  show(match P.funcs[g]? with|none=>_|some fn=>_:Sem Next).run P w=_
  rw[hfn]
  have h3:fn.body.isNone=false:=by simpa using h2
  simp only[beq_iff_eq,h1,if_false,h3,Bool.false_eq_true]
  rfl
 ·cases he
theorem quiet {P:Program} {f:Nat} {e:Zj} {aa:List A} {d:D} (h:CallsOK P f e aa [[.d d]] []) {w:World} {I:Nat->Prop} {vs:List Value} (ha:ZO P w I (λ_=>True) aa e.modes vs []) (hI:∀ b,I b->b<w.heap.size) (t:TypeId) (ht:e.rts=[t]) (hagg:(ZU P t||Zb5 P t)=false) (Q:Value->Prop) (hQ:∀ w I v,RdD w I d v->Q v):
  Calls P f vs.toArray w λex w'=>(∃ v,ex=.returned v/\Q v)/\Gs w w':=by
 obtain⟨hagg,hp⟩:=Bool.or_eq_false_iff.mp hagg
 refine Calls.mono (h w I (λ_=>True) vs [] ha List.nodup_nil (by simp) hI) ?_
 rintro ex w' ⟨v,vs',I',Fr,Fo,rfl,hv,h1,h2,h3,h4,h5,-,-,-,-,-,hr,-⟩
 refine⟨⟨v,rfl,?_⟩,h1,h2,h3,h4,λb hb=>h5 b hb (by simp)⟩
 rw[ht] at hr
 simp only[ZaO] at hr
 obtain⟨v',vs'',F1,F2,rfl,-,⟨-,cells,rfl,-,hc⟩|⟨hp',-⟩,rfl,-⟩:=hr
 rotate_left
 ·rw[hp] at hp';cases hp'
 subst hv
 rw[hagg]
 simp only[Za,OwC] at hc
 obtain⟨ct,cts',u,F3,F4,-,-,hu,⟨-,hd⟩,-⟩:=hc
 have:cells.getD 0 undef=u:=by rw[Array.getD_eq_getD_getElem?,hu];rfl
 show Q (cells.getD 0 undef)
 rw[this]
 exact hQ _ _ _ hd
structure DfK (K b k0:Nat) (c:Array Value) (e:TypeId) (p:Nat->Bool) (w wr:World) (i j:Nat) (ck:Array Value):Prop where
 lt:k0<j
 gr:Gr b w wr
 at_:wr.heap[b]? = some (.cells ck e (0,0))
 size:ck.size=c.size
 len:(kpt p k0 j).length=i
 high:∀ t,j*K<=t->ck[t]? = c[t]?
 low:∀ m k:Nat,(kpt p k0 j)[m]? = some k->∀ t,t<K->ck[m*K+t]? = c[k*K+t]?
theorem gs_alloc (w:World) (o:Go.Obj):Gs w (w.alloc o):=⟨by show w.heap.size<=(w.heap.push o).size;rw[Array.size_push];omega,rfl,rfl,rfl,λb' hb'=>by
 show(w.heap.push o)[b']? = w.heap[b']?
 rw[Array.getElem?_push_lt hb',Array.getElem?_eq_getElem hb']⟩
theorem alloc_at (w:World) (o:Go.Obj):(w.alloc o).heap[w.heap.size]? = some o:=by
 show(w.heap.push o)[w.heap.size]? = some o
 simp
def ZbS {α:Type} (q:Nat->Bool):Nat->List α->List α
 |_,[]=>[]
 |o,x::xs=>bif q o then x::ZbS q (o+1) xs else ZbS q (o+1) xs
theorem keepL_length {α:Type} (q:Nat->Bool):∀ (o:Nat) (xs:List α),(ZbS q o xs).length=((List.range' o xs.length).filter q).length
 |_,[]=>rfl
 |o,x::xs=>by
  rw[List.length_cons,List.range'_succ,List.filter_cons]
  unfold ZbS
  cases q o
  ·exact keepL_length q (o+1) xs
  ·show(x::ZbS q (o+1) xs).length=_
   rw[List.length_cons,keepL_length q (o+1) xs]
   rfl
theorem keepL_append {α:Type} (q:Nat->Bool):∀ (o:Nat) (xs ys:List α),ZbS q o (xs++ys)=ZbS q o xs++ZbS q (o+xs.length) ys
 |o,[],ys=>by simp[ZbS]
 |o,x::xs,ys=>by
  have e:∀ zs:List α,ZbS q o (x::zs)=bif q o then x::ZbS q (o+1) zs else ZbS q (o+1) zs:=λ_=>rfl
  rw[List.cons_append,e,e,keepL_append q (o+1) xs ys,List.length_cons,show o+1+xs.length=o+(xs.length+1) from by omega]
  cases q o<;>rfl
theorem keepL_filter {α:Type} {q:Nat->Bool} {f:α->Bool}:∀ {o:Nat} {xs:List α},(∀ j x,xs[j]? = some x->q (o+j)=f x)->ZbS q o xs=xs.filter f
 |_,[],_=>rfl
 |o,x::xs,h=>by
  have h0:q o=f x:=h 0 x rfl
  unfold ZbS
  rw[List.filter_cons,h0,keepL_filter (f:=f) (λj y hy=>by rw[show o+1+j=o+(j+1) from by omega];exact h (j+1) y (by simpa using hy))]
  cases f x<;>rfl
theorem Ze.pick {P:Program} {w:World} {I:Nat->Prop} {c c':Array Value} {cts:List TypeId} {sz:Nat} (hs:cts.length=sz) (q:Nat->Bool):∀ {xs:List (List C)} {o d:Nat} {F:List Nat},Ze P w I c cts sz xs (o*sz) F->
  (∀ m k:Nat,((List.range' o xs.length).filter q)[m]? = some k->∀ t,t<sz->c'[(d+m)*sz+t]? = c[k*sz+t]?)->∃ F',Ze P w I c' cts sz (ZbS q o xs) (d*sz) F'/\F'.Sublist F
 |[],o,d,F,r,h=>by
  simp only[Ze] at r
  subst r
  exact⟨[],by simp[ZbS,Ze],List.Sublist.refl _⟩
 |x::xs,o,d,F,r,h=>by
  simp only[Ze] at r
  obtain⟨F1,F2,rfl,r1,r2⟩:=r
  have hl:x.length=sz:=by rw[Za.length r1,hs]
  rw[show o*sz+sz=(o+1)*sz from by rw[Nat.succ_mul]] at r2
  rw[List.length_cons,List.range'_succ,List.filter_cons] at h
  unfold ZbS
  cases hq:q o with
  |false=>
   rw[hq] at h
   obtain⟨F',h1,h2⟩:=Ze.pick hs q (d:=d) r2 h
   exact⟨F',h1,h2.trans (List.sublist_append_right _ _)⟩
  |true=>
   rw[hq] at h
   obtain⟨F',h1,h2⟩:=Ze.pick hs q (d:=d+1) r2 (λm k hk t ht=>by
    have:=h (m+1) k (by simpa using hk) t ht
    rwa[show d+(m+1)=d+1+m from by omega] at this)
   refine⟨F1++F',?_,List.Sublist.append (List.Sublist.refl _) h2⟩
   simp only[cond_true,Ze]
   refine⟨F1,F',rfl,Za.move r1 λt ht=>?_,by rw[show d*sz+sz=(d+1)*sz from by rw[Nat.succ_mul]];exact h1⟩
   exact h 0 o rfl t (by omega)
theorem Ze.nth {P:Program} {w:World} {I:Nat->Prop} {c:Array Value} {cts:List TypeId} {sz:Nat}:∀ {xs:List (List C)} {p:Nat} {F:List Nat},Ze P w I c cts sz xs p F->∀ {j:Nat} {x:List C},xs[j]? = some x->∃ F',Za P w I c x cts (p+j*sz) F'/\∀ b∈F',b∈F
 |[],_,_,_,j,x,h=>by cases h
 |y::xs,p,F,r,j,x,h=>by
  simp only[Ze] at r
  obtain⟨F1,F2,rfl,r1,r2⟩:=r
  cases j with
  |zero=>
   simp at h
   subst h
   exact⟨F1,by simpa using r1,λb hb=>by simp[hb]⟩
  |succ j=>
   obtain⟨F',h1,h2⟩:=Ze.nth r2 (j:=j) (by simpa using h)
   exact⟨F',by rw[show p+(j+1)*sz=p+sz+j*sz from by rw[Nat.succ_mul];omega];exact h1,λb hb=>by simp[h2 b hb]⟩
def keptQ (p:Nat->Bool) (k0 j:Nat):Bool:=decide (j<k0)||(decide (k0<j)&&!p j)
theorem kpt_filter {p:Nat->Bool} {k0 n:Nat} (h:k0<n):kpt p k0 n=(List.range' 0 n).filter (keptQ p k0):=by
 have e:List.range' 0 n=List.range' 0 k0++k0::List.range' (k0+1) (n-(k0+1)):=by
  obtain⟨m,rfl⟩:∃ m,n=k0+(m+1):=⟨n-(k0+1),by omega⟩
  rw[<- List.range'_succ,show k0+(m+1)-(k0+1)+1=m+1 from by omega]
  have:=List.range'_append_1 (s:=0) (m:=k0) (n:=m+1)
  rw[Nat.zero_add] at this
  exact this.symm
 unfold kpt
 rw[e,List.filter_append,List.filter_cons,<- List.range_eq_range']
 have h1:(List.range k0).filter (keptQ p k0)=List.range k0:=by
  rw[List.filter_eq_self]
  intro x hx
  rw[List.mem_range] at hx
  simp[keptQ,hx]
 have h2:keptQ p k0 k0=false:=by simp[keptQ]
 rw[h1,h2]
 congr 1
 refine List.filter_congr λx hx=>?_
 rw[List.mem_range'_1] at hx
 have h3:¬ x<k0:=by omega
 have h4:k0<x:=by omega
 simp[keptQ,h3,h4]
def delR (pr:List D->Option Bool):List (List C)->Option (List (List C))
 |[]=>some []
 |s::r=>match pr (C.immCells s),delR pr r with
  |some true,some ys=>some ys
  |some false,some ys=>some (s::ys)
  |_,_=>none
theorem delR_some {pr:List D->Option Bool}:∀ {ss ys:List (List C)},delR pr ss=some ys->(∀ s∈ss,∃ q,pr (C.immCells s)=some q)/\ys=ss.filter λs=>!((pr (C.immCells s)).getD false)
 |[],ys,h=>by injection h with h;subst h;exact⟨by simp,rfl⟩
 |s::r,ys,h=>by
  unfold delR at h
  split at h
  ·rename_i zs h1 h2
   injection h with h;subst h
   obtain⟨h3,h4⟩:=delR_some h2
   refine⟨λx hx=>?_,?_⟩
   ·rcases List.mem_cons.mp hx with rfl|hx
    ·exact⟨_,h1⟩
    ·exact h3 x hx
   ·rw[List.filter_cons,h1,<- h4];rfl
  ·rename_i zs h1 h2
   injection h with h;subst h
   obtain⟨h3,h4⟩:=delR_some h2
   refine⟨λx hx=>?_,?_⟩
   ·rcases List.mem_cons.mp hx with rfl|hx
    ·exact⟨_,h1⟩
    ·exact h3 x hx
   ·rw[List.filter_cons,h1,<- h4];rfl
  ·cases h
def delK (ix:List (List D)->Option Int) (pr:List D->Option Bool) (xs:List (List C)):Option (List (List C)):=
 match ix (C.immRows xs) with
 |none=>none
 |some z=>if z = -1 then some xs else Zd (0<=z/\z<(xs.length:Int)/\xs.length<=1099511627776) (match delR pr (xs.drop (z.toNat+1)) with
  |none=>none
  |some ys=>some (xs.take z.toNat++ys))
def DfRawK (P:Program) (f fi K:Nat):Prop:=
 (∀ (a:Option Addr) (n cap:Nat) (w:World) (g:Nat) (lb:Array Value),n<=cap->Calls P fi #[.slice a n cap,.func (.func g) #[] lb] w (λe w'=>e=.returned (.int .i64 (-1))/\Gs w w')->Calls P f #[.slice a n cap,.func (.func g) #[] lb] w λex w'=>ex=.returned (.slice a n cap)/\Gs w w')/\
 ∀ (b cap n:Nat) (c:Array Value) (e:TypeId) (w:World) (g:Nat) (lb:Array Value) (p:Nat->Bool) (k0:Nat),w.heap[b]? = some (.cells c e (0,0))->c.size=cap*K->n<=cap->k0<n->n<=1099511627776->(∀ t,t<n*K->∃ v,c[t]? = some v/\v.oneCell'=true)->(∀ args w,(callFunc g args).run P w=.ok (.enter g args) w)->
  Calls P fi #[.slice (some ⟨b,0,none⟩) n cap,.func (.func g) #[] lb] w (λe w'=>e=.returned (.int .i64 k0)/\Gs w w')->
  (∀ j,k0<j->j<n->∀ W,Gr b w W->∀ vs:List Value,vs.length=K->(∀ t u,vs[t]? = some u->c[j*K+t]? = some u)->Calls P g (#[.agg vs.toArray]++lb) W λe w'=>e=.returned (.bool (p j))/\Gs W w')->
  Calls P f #[.slice (some ⟨b,0,none⟩) n cap,.func (.func g) #[] lb] w λex w'=>ex=.returned (.slice (some ⟨b,0,none⟩) (kpt p k0 n).length cap)/\Gr b w w'/\∃ c':Array Value,w'.heap[b]? = some (.cells c' e (0,0))/\c'.size=c.size/\∀ m k:Nat,(kpt p k0 n)[m]? = some k->∀ t,t<K->c'[m*K+t]? = c[k*K+t]?
set_option maxHeartbeats 400000 in
theorem delfuncK_ok {P:Program} (hT:Zar P) {f fi g ct K ti tb:Nat} (hK:Zl P ct=K) (hK0:0<K) (hent:Zbo P f=true) (raw:DfRawK P f fi K) (hbt:(ZU P tb||Zb5 P tb)=false) (hit:(ZU P ti||Zb5 P ti)=false)
  {ei ec:Zj} (hi:Zf P fi ei) (hc:Zf P g ec)
  {run:{β:Type}->List A->(List (List C)->Option β)->Option β} (hrun:∀ (β:Type) (aa:List A) (k:List (List C)->Option β) (r:β),run aa k=some r->∃ xs caps ix pr ys,aa=[.own false [.own xs],.d (.fn g caps)]/\delK ix pr xs=some ys/\k ys=some r/\
   ei.rts=[ti]/\ec.rts=[tb]/\ei.modes=[(.imm,0),(.imm,0)]/\ec.modes=List.replicate (caps.length+1) (.imm,0)/\
   (∀ ds z,ix ds=some z->ei.run [.d (.sl ds),.d (.fn g caps)] (λrs os=>some (rs,os))=some ([[.d (.int .i64 z)]],[]))/\∀ s q,pr s=some q->ec.run (.agg s::caps.map A.ip) (λrs os=>some (rs,os))=some ([[.d (.bool q)]],[])) (hcut:cutTy ct=false:=by rfl):
  Zf P f { modes:=[(.own,0)],rts:=[ct],al:=false,run:=λ_ _=>none,lib:=some ⟨[true,false],ct,run⟩ }:=by
 refine⟨hent,λβ aa K r hr=>(by cases hr),λL hL=>?_⟩
 injection hL with hL
 subst hL
 intro β aa k r hr
 obtain⟨xs,caps,ix,pr,ys,rfl,hdel,hk,hr3,hr4,hm3,hm4,hix,hpr⟩:=hrun β aa k r hr
 refine⟨_,hk,λw I J vs F hargs hnd hF hJI hI=>?_⟩
 simp only[LArgs,ZJ,RdD] at hargs
 obtain⟨v,vs1,F1,F2,rfl,rfl,hown,v2,vs2,rfl,⟨-,lb,rfl,hcaps⟩,rfl,rfl⟩:=hargs
 rw[List.append_nil] at hnd hF⊢
 unfold delK at hdel
 split at hdel
 ·cases hdel
 rename_i z hz
 have hown2:=hown
 obtain⟨a,cap,rfl,hrow⟩:=OwC.row0 hown hcut
 have hle:xs.length<=cap:=by
  rcases hrow with⟨rfl,rfl,_⟩|⟨_,_,_,_,_,_,_,_,_,h,_⟩
  ·simp
  ·exact h
 obtain⟨rs,os,hrs,hcallI⟩:=hi.2.1 _ _ _ _ (hix _ _ hz)
 injection hrs with hrs
 injection hrs with e1 e2
 subst e1 e2
 -- the search ahead
 have hIF:Calls P fi #[.slice a xs.length cap,.func (.func g) #[] lb.toArray] w λe w'=>e=.returned (.int .i64 z)/\Gs w w':=by
  have h2:RdD w (λx=>I x\/x∈F1) (.sl (C.immRows xs)) (.slice a xs.length cap):=by
   have:=OwC.imm (J:=λx=>I x\/x∈F1) (λb hb=>.inl (hJI b hb)) (λb hb=>.inr hb) hT hown2
   simpa only[C.imm] using this
  have h3:Zay w (λx=>I x\/x∈F1) caps lb:=Zay.mono ⟨λ_ h=>.inl h,λ_ _=>rfl⟩ hcaps
  refine Calls.mono (quiet hcallI (w:=w) (I:=λx=>I x\/x∈F1) (vs:=[.slice a xs.length cap,.func (.func g) #[] lb.toArray]) (by
   rw[hm3]
   simp only[ZO,ZJ]
   exact⟨_,_,[],[],rfl,rfl,⟨rfl,h2⟩,_,_,[],[],rfl,rfl,⟨rfl,by simp only[RdD];exact⟨lb,rfl,h3⟩⟩,rfl,rfl⟩) (λx hx=>hx.elim (hI x) (λe=>(hF x e).2)) ti hr3 hit (λv=>v=.int .i64 z) (λ_ _ v h=>by simpa only[RdD] using h)) ?_
  rintro e w' ⟨⟨v,rfl,rfl⟩,h⟩
  exact⟨rfl,h⟩
 by_cases hz1:z = -1
 ·rw[if_pos hz1] at hdel
  injection hdel with hdel
  subst hdel hz1
  refine Calls.mono (raw.1 a xs.length cap w g lb.toArray hle hIF) ?_
  rintro ex w' ⟨rfl,hg⟩
  refine⟨_,F1,rfl,hg.size,hg.os,hg.tape,hg.output,λb hb _=>hg.same b hb,hnd,λb hb=>⟨Nat.lt_of_lt_of_le (hF b hb).2 hg.size,λ_=>hb⟩,?_⟩
  exact OwC.mono ⟨⟨λ_ h=>h,λb hb=>hg.same b (hI b (hJI b hb))⟩,λb hb=>hg.same b (hF b hb).2⟩ hown
 rw[if_neg hz1] at hdel
 obtain⟨⟨h0,hzl,hmx⟩,hdel⟩:=Zp hdel
 split at hdel
 ·cases hdel
 rename_i zs hzs
 injection hdel with hdel
 subst hdel
 obtain⟨k0,rfl⟩:∃ m:Nat,z=m:=⟨z.toNat,by omega⟩
 rw[Int.toNat_natCast] at hzs
 obtain⟨hq,rfl⟩:=delR_some hzs
 have hk0:k0<xs.length:=by omega
 rcases hrow with⟨h1,-,-⟩|⟨b,c,e,F',rfl,rfl,hb,hz,hcs,hle',rows⟩
 ·rw[h1] at hk0;simp at hk0
 have hct:(ZQ P ct).length=K:=by rw[<- hK];exact hT ct (by omega)
 rw[hK] at rows hcs
 have hbl:b<w.heap.size:=(Array.getElem?_eq_some_iff.mp hb).1
 have hbI:¬ I b:=(hF b (by simp)).1
 have hnd2:=List.nodup_cons.mp hnd
 obtain⟨p,hp⟩:∃ p:Nat->Bool,∀ j,p j=match xs[j]? with|some s=>(pr (C.immCells s)).getD false|none=>false:=⟨_,λ_=>rfl⟩
 have hcall:=raw.2 b cap xs.length c e w g lb.toArray p k0 hb hcs hle (by omega) (by omega) (λt ht=>by
   have:=Ze.cell hct rows t ht
   simpa using this) (enters hc.1) hIF (λj hj1 hj2 W hW vs hvl hvs=>by
  have hsj:xs[j]? = some (xs[j]'hj2):=List.getElem?_eq_getElem _
  obtain⟨q,hq1⟩:=hq (xs[j]'hj2) (List.mem_of_getElem? (i:=j-(k0+1)) (by rw[List.getElem?_drop,show k0+1+(j-(k0+1))=j from by omega];exact hsj))
  have hpj:p j=q:=by rw[hp,hsj];show(pr _).getD false=q;rw[hq1];rfl
  obtain⟨rs,os,hrs,hcallC⟩:=hc.2.1 _ _ _ _ (hpr _ _ hq1)
  injection hrs with hrs
  injection hrs with e1 e2
  subst e1 e2
  obtain⟨Fj,r1,r2⟩:=Ze.nth rows hsj
  rw[Nat.zero_add] at r1
  have hlx:(xs[j]'hj2).length=K:=by rw[Za.length r1,hct]
  have hFb:∀ x∈F',x≠b:=λx hx e=>hnd2.1 (e▸hx)
  have r3:=Za.move (c':=vs.toArray) (p':=0) r1 (λt ht=>by
   rw[Nat.zero_add]
   have hvt:vs[t]? = some (vs[t]'(by omega)):=List.getElem?_eq_getElem _
   rw[show vs.toArray[t]? = vs[t]? from by simp,hvt]
   exact(hvs t _ hvt).symm)
  have hcell:=Za.imm (J:=λx=>I x\/x∈F') (λb hb=>.inl (hJI b hb)) (λb hb=>.inr (r2 b hb)) hT r3
  have hKp:Keeps w W (λx=>I x\/x∈F') (λx=>I x\/x∈F'):=⟨λ_ h=>h,λx hx=>hx.elim (λhx=>hW.other x (λe=>hbI (e▸hx)) (hI x hx)) (λhx=>hW.other x (hFb x hx) (hF x (by simp[hx])).2)⟩
  rw[show(#[Value.agg vs.toArray]++lb.toArray:Array Value)=(Value.agg vs.toArray::lb).toArray from by simp]
  refine Calls.mono (quiet hcallC (w:=W) (I:=λx=>I x\/x∈F') (vs:=.agg vs.toArray::lb) (by
   rw[hm4,List.replicate_succ]
   simp only[ZO,ZJ]
   exact⟨_,_,[],[],rfl,rfl,⟨rfl,vs,rfl,by rw[C.immCells_length,hlx,hvl],Zi.mono hKp hcell⟩,caps_args (Zay.mono hKp (Zay.mono ⟨λ_ h=>.inl h,λ_ _=>rfl⟩ hcaps))⟩) (λx hx=>Nat.lt_of_lt_of_le (hx.elim (hI x) (λhx=>(hF x (by simp[hx])).2)) hW.size) tb hr4 hbt (λv=>v=.bool q) (λ_ _ v h=>by simpa only[RdD] using h)) ?_
  rintro ex w' ⟨⟨v,rfl,rfl⟩,h⟩
  exact⟨by rw[hpj],h⟩)
 refine Calls.mono hcall ?_
 rintro ex w' ⟨rfl,hg,c',hb',hsz,hget⟩
 have hkl:xs.take k0++((xs.drop (k0+1)).filter λs=>!((pr (C.immCells s)).getD false))=ZbS (keptQ p k0) 0 xs:=by
  have h5:xs=xs.take k0++(xs[k0]'hk0::xs.drop (k0+1)):=by rw[List.getElem_cons_drop,List.take_append_drop]
  have hl0:(xs.take k0).length=k0:=by rw[List.length_take];omega
  conv=>rhs;rw[h5]
  rw[keepL_append,hl0,Nat.zero_add]
  congr 1
  ·rw[keepL_filter (f:=λ_=>true) (λj x hx=>by
    have:=(List.getElem?_eq_some_iff.mp hx).1
    have:j<k0:=by omega
    simp[keptQ,this])]
   rw[List.filter_eq_self.mpr λ_ _=>rfl]
  ·show _=bif keptQ p k0 k0 then _ else _
   rw[show keptQ p k0 k0=false from by simp[keptQ]]
   show _=ZbS (keptQ p k0) (k0+1) (xs.drop (k0+1))
   rw[keepL_filter (f:=λs=>!((pr (C.immCells s)).getD false)) (λj x hx=>by
    rw[List.getElem?_drop] at hx
    have h6:¬ k0+1+j<k0:=by omega
    have h7:k0<k0+1+j:=by omega
    simp[keptQ,h6,h7,hp,hx])]
 obtain⟨F2,r5,r6⟩:=Ze.pick (c':=c') (d:=0) hct (keptQ p k0) (o:=0) (xs:=xs) (by rw[Nat.zero_mul];exact rows) (λm k hk t ht=>by
  rw[Nat.zero_add]
  exact hget m k (by rw[kpt_filter hk0];exact hk) t ht)
 rw[Nat.zero_mul] at r5
 rw[Int.toNat_natCast,hkl]
 have hlen:(kpt p k0 xs.length).length=(ZbS (keptQ p k0) 0 xs).length:=by rw[kpt_filter hk0,keepL_length]
 have hF2:∀ x∈F2,x∈F':=λx hx=>r6.subset hx
 refine⟨_,b::F2,rfl,hg.size,hg.os,hg.tape,hg.output,λx hx hxb=>hg.other x (λe=>hxb (by simp[e])) hx,?_,λx hx=>?_,?_⟩
 ·exact List.nodup_cons.mpr ⟨λq=>hnd2.1 (hF2 b q),hnd2.2.sublist r6⟩
 ·have:x∈b::F':=by
   rcases List.mem_cons.mp hx with rfl|hx
   ·simp
   ·simp[hF2 x hx]
  exact⟨Nat.lt_of_lt_of_le (hF x this).2 hg.size,λ_=>this⟩
 ·refine OwC.mk0 ?_
  refine⟨_,cap,by rw[hlen],.inr ⟨b,c',e,F2,rfl,rfl,hb',hz,by rw[hsz,hcs,hK],?_,?_⟩⟩
  ·have:=(kpt_le (p:=p) (j:=xs.length) (k0:=k0) (by omega)).1
   omega
  ·rw[hK]
   refine Ze.mono ⟨⟨λ_ h=>h,λx hx=>hg.other x (λe=>hbI (e▸hJI x hx)) (hI x (hJI x hx))⟩,λx hx=>hg.other x (λe=>hnd2.1 (e▸hF2 x hx)) (hF x (by simp[hF2 x hx])).2⟩ r5
end Go.T
