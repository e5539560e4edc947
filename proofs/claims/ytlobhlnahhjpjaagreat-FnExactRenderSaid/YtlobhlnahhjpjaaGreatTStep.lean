/- Cells: of values,of zeros; stores. -/
import Derived.Test.YtlobhlnahhjpjaaGreatTPure
set_option linter.unusedVariables false
set_option linter.unusedSimpArgs false
namespace Go.T
theorem RdD.one {w:World} {I:Nat->Prop} {d:D} {v:Value} (r:RdD w I d v):v.oneCell'=true:=by
 cases d with
 |bool b=>simp only[RdD] at r;subst r;rfl
 |int q n=>simp only[RdD] at r;subst r;rfl
 |str s=>simp only[RdD] at r;subst r;rfl
 |sl xs=>simp only[RdD] at r;obtain⟨_,_,_,rfl,_⟩:=r;rfl
 |fn f c=>simp only[RdD] at r;obtain⟨_,rfl,_⟩:=r;rfl
 |un=>simp only[RdD] at r;obtain⟨_,_,_,rfl⟩:=r;rfl
theorem OwC.one {P:Program} {w:World} {I:Nat->Prop} {x:C} {ct:TypeId} {v:Value} {F:List Nat} (r:OwC P w I x ct v F):v.oneCell'=true:=by
 cases x with
 |d x=>simp only[OwC] at r;exact r.2.one
 |own xs=>obtain⟨_,_,rfl,_⟩:=OwC.row r;rfl
theorem Zn.one {P:Program} {X:Fix} {w:World} {g:G} {id:Nat} {o:Obj} (r:Zn P X w g id o):(g.hv id).oneCell'=true:=by
 cases o with
 |box og t cs=>simp only[Zn] at r;obtain⟨⟨_,_,_,h,_⟩,_⟩:=r;rw[h];rfl
 |row og fr ct xs=>simp only[Zn] at r;exact r.1.1.one
 |frz fr xs=>simp only[Zn] at r;exact r.1.one
 |fbx fr cs=>simp only[Zn] at r;obtain⟨⟨_,_,_,_,h,_⟩,_⟩:=r;rw[h];rfl
 |gone=>simp only[Zn] at r;exact r.2
theorem Zb.one {P:Program} {X:Fix} {w:World} {g:G} {st:St} {a:Act} (hr:Rel P X w g st a) {t:T} {v:Value} (h:Za8 t=true) (r:Zb X w g t v):v.oneCell'=true:=by
 cases t with
 |d fr x=>simp only[Zb] at r;exact r.one
 |nil=>simp only[Zb] at r;obtain⟨_,rfl⟩:=r;rfl
 |row id=>
  simp only[Zb] at r
  obtain⟨hB,rfl⟩:=r
  obtain⟨o,_,ro⟩:=hr.obs id hB
  exact ro.one
 |bp id off=>simp only[Zb] at r;obtain⟨_,_,_,rfl⟩:=r;rfl
 |ep id i off=>simp only[Zb] at r;obtain⟨_,_,_,_,_,_,_,rfl⟩:=r;rfl
 |ip fr cs=>simp only[Zb] at r;obtain⟨_,_,_,_,_,rfl,_⟩:=r;rfl
 |clo f c=>simp only[Zb] at r;obtain⟨_,rfl,_⟩:=r;rfl
 |_=>simp[Za8] at h
theorem Zb.cells {P:Program} {X:Fix} {w:World} {g:G} {st:St} {a:Act} (hr:Rel P X w g st a) {t:T} {v:Value} (h:(Zy t).all Za8=true) (r:Zb X w g t v):
  Zh X w g (Zy t) v.cells.toList/\∀ u∈v.cells.toList,u.oneCell'=true:=by
 have many:∀ (ts:List T) (vs:List Value),ts.all Za8=true->Zh X w g ts vs->∀ u∈vs,u.oneCell'=true:=by
  intro ts
  induction ts with
  |nil=>intro vs _ r u hu;simp only[Zh] at r;subst r;cases hu
  |cons t ts ih=>
   intro vs hp r u hu
   simp only[Zh] at r
   obtain⟨v,vs',rfl,_,r1,r2⟩:=r
   simp at hp
   rcases List.mem_cons.mp hu with rfl|hu
   ·exact Zb.one hr hp.1 r1
   ·exact ih vs' (by simpa using hp.2) r2 u hu
 have single:∀ t,Zy t=[t]->Za8 t=true->Zb4 t=false->Zb X w g t v->Zh X w g (Zy t) v.cells.toList/\∀ u∈v.cells.toList,u.oneCell'=true:=by
  intro t ht hp hs r
  have ho:=Zb.one hr hp r
  have hc:v.cells.toList=[v]:=by cases v<;>simp_all [Value.cells,Value.oneCell']
  rw[hc,ht]
  exact⟨by simp only[Zh];exact⟨v,[],rfl,hs,r,rfl⟩,by simpa using ho⟩
 cases t with
 |agg ts=>
  simp only[Zb] at r
  obtain⟨cs,rfl,r⟩:=r
  simp only[Zy] at h⊢
  simp only[Value.cells]
  exact⟨r,many ts cs h r⟩
 |tup ts=>simp[Zy,Za8] at h
 |sub _ _ _=>simp[Zy,Za8] at h
 |undef=>simp[Zy,Za8] at h
 |ub=>simp[Zy,Za8] at h
 |any=>simp[Zy,Za8] at h
 |_=>exact single _ rfl (by simpa[Zy] using h) rfl r
theorem Zbf {α:Type} {l new:List α} {off:Nat} (h:off+new.length<=l.length):(Zs l off new).length=l.length:=by
 simp[Zs];omega
theorem ZaK {α:Type} {l new:List α} {off:Nat} (h:off+new.length<=l.length) (j:Nat):(Zs l off new)[j]? = if off<=j/\j<off+new.length then new[j-off]? else l[j]?:=by
 unfold Zs
 have h1:(l.take off).length=off:=by simp;omega
 rcases Nat.lt_or_ge j off with q|q
 ·rw[List.append_assoc,List.getElem?_append_left (by omega),if_neg (by omega),List.getElem?_take,if_pos q]
 ·rcases Nat.lt_or_ge j (off+new.length) with q2|q2
  ·rw[if_pos ⟨q,q2⟩,List.getElem?_append_left (by simp;omega),List.getElem?_append_right (by omega),h1]
  ·rw[if_neg (by omega),List.getElem?_append_right (by simp;omega)]
   simp only[List.length_append,h1,List.getElem?_drop]
   congr 1
   omega
theorem splice_nil {α:Type} {l:List α} {off:Nat}:Zs l off []=l:=by simp[Zs]
theorem splice_cons {α:Type} {l:List α} {off:Nat} {x:α} {r:List α} (h:off+(r.length+1)<=l.length):Zs l off (x::r)=Zs (l.set off x) (off+1) r:=by
 apply List.ext_getElem?
 intro j
 rw[ZaK (by simp;omega),ZaK (by simp;omega)]
 rw[List.getElem?_set]
 by_cases h1:j=off
 ·subst h1
  rw[if_pos (by simp),if_neg (by omega),if_pos rfl]
  simp;omega
 ·rw[if_neg (show ¬ off=j by omega)]
  by_cases h2:off+1<=j/\j<off+1+r.length
  ·rw[if_pos h2,if_pos (by simp;omega)]
   rw[show j-off=(j-(off+1))+1 from by omega]
   simp
  ·rw[if_neg h2,if_neg (by simp;omega)]
theorem Zh.splice {X:Fix} {w:World} {g:G} {ts new:List T} {vs nv:List Value} {off:Nat} (r:Zh X w g ts vs) (rn:Zh X w g new nv) (h:off+new.length<=ts.length):
  Zh X w g (Zs ts off new) (Zs vs off nv):=by
 have l1:=Zh.length r
 have l2:=Zh.length rn
 refine Zh.mk (by rw[Zbf (by omega),Zbf (by omega),l1]) λi t ht=>?_
 rw[ZaK (by omega)] at ht
 rw[ZaK (by omega),l2]
 split at ht
 ·rename_i hi
  rw[if_pos hi];exact Zh.get rn ht
 ·rename_i hi
  rw[if_neg hi];exact Zh.get r ht
structure CellsSet (w w':World) (b:Nat) (c':Array Value) (e:TypeId):Prop where
 at_:w'.heap[b]? = some (.cells c' e (0,0))
 keep:∀ b',b'≠b->w'.heap[b']? = w.heap[b']?
 size:w'.heap.size=w.heap.size
 os:w'.os=w.os
 tape:w'.tape=w.tape
 output:w'.output=w.output
theorem setCell_set {w:World} {b off:Nat} {c:Array Value} {e:TypeId} (h:w.heap[b]? = some (.cells c e (0,0))) (v:Value):CellsSet w (w.setCell ⟨b,off,none⟩ v) b (c.setIfInBounds off v) e:=by
 refine⟨?_,λb' hb=>?_,?_,rfl,rfl,rfl⟩
 ·show(w.heap.modify b _)[b]? = _
  rw[Array.getElem?_modify]
  simp[h]
 ·show(w.heap.modify b _)[b']? = _
  rw[Array.getElem?_modify]
  simp[Ne.symm hb]
 ·show(w.heap.modify b _).size=_
  simp
theorem ZbK {P:Program} {b off:Nat} {e:TypeId}:∀ (vs:List Value) (i:Nat) (w:World) (c:Array Value),w.heap[b]? = some (.cells c e (0,0))->off+i+vs.length<=c.size->(∀ v∈vs,v.oneCell'=true)->
  ∃ w' c',(storeCells ⟨b,off,none⟩ vs i).run P w=.ok () w'/\CellsSet w w' b c' e/\c'.toList=Zs c.toList (off+i) vs
 |[],i,w,c,hb,_,_=>⟨w,c,rfl,⟨hb,λ_ _=>rfl,rfl,rfl,rfl,rfl⟩,by rw[splice_nil]⟩
 |v::vs,i,w,c,hb,hl,h1=>by
  simp at hl
  have hs:=setCell_set (off:=off+i) hb v
  have hrun:(store ((⟨b,off,none⟩:Addr).add i) v).run P w=.ok () (w.setCell ⟨b,off+i,none⟩ v):=by
   rw[Zb8,run_store _ _ _ _ _ (h1 v (by simp)),Zat hb]
   have:(c[off+i]?)=some (c[off+i]'(by omega)):=by simp
   rw[this]
   simp[World.frozen?,hb]
  obtain⟨w',c',hr,hc,hl'⟩:=ZbK (P:=P) (off:=off) vs (i+1) _ _ hs.at_ (by simp;omega) (λu hu=>h1 u (by simp[hu]))
  refine⟨w',c',?_,⟨hc.at_,λb' hb'=>(hc.keep b' hb').trans (hs.keep b' hb'),hc.size.trans hs.size,hc.os,hc.tape,hc.output⟩,?_⟩
  ·show(Sem.bind (store _ v) _).run P w=_
   rw[Zm,hrun]
   exact hr
  ·rw[hl',splice_cons (by simp;omega)]
   simp[Nat.add_assoc]
theorem run_storeAt {P:Program} {b off:Nat} {e t:TypeId} {w:World} {c:Array Value} {v:Value} (hb:w.heap[b]? = some (.cells c e (0,0))) (h0:0<P.cellsOf t) (hl:v.cells.size=P.cellsOf t) (hle:off+P.cellsOf t<=c.size)
  (h1:∀ u∈v.cells.toList,u.oneCell'=true):
  ∃ w' c',(Instr.storeAt t (.pointer (some ⟨b,off,none⟩)) v).run P w=.ok () w'/\CellsSet w w' b c' e/\c'.toList=Zs c.toList off v.cells.toList:=by
 obtain⟨w',c',hr,hc,hl'⟩:=ZbK (P:=P) v.cells.toList 0 w c hb (by simp[hl];omega) h1
 refine⟨w',c',?_,hc,by simpa using hl'⟩
 show(Sem.bind (Instr.sureAddr _) _).run P w=_
 rw[Zm]
 show(Sem.bind (sizeOf t) _).run P w=_
 rw[Zm,ZbQ h0]
 simp only[hl,ne_eq,not_true_eq_false,if_false]
 exact hr
theorem isZeroV_rel {q:CK} {v:Value} (h:isZeroV q v=true):(∀ (X:Fix) (w:World) (g:G),Zb X w g (zeroT q) v/\Zb4 (zeroT q)=false)/\v.oneCell'=true/\
  ∃ c,zeroC q=some c/\∀ (P:Program) (w:World) (I:Nat->Prop) (ct:TypeId),OwC P w I c ct v []:=by
 unfold isZeroV at h
 split at h
 ·rename_i k k' n
  simp at h
  obtain⟨rfl,rfl⟩:=h
  exact⟨λX w g=>⟨by simp[zeroT,Zb,RdD],rfl⟩,rfl,_,rfl,λP w I ct=>by simp[OwC,RdD]⟩
 ·rename_i b
  simp at h
  subst h
  exact⟨λX w g=>⟨by simp[zeroT,Zb,RdD],rfl⟩,rfl,_,rfl,λP w I ct=>by simp[OwC,RdD]⟩
 ·rename_i s
  simp at h
  have:s=⟨#[]⟩:=h
  subst this
  exact⟨λX w g=>⟨by simp[zeroT,Zb,RdD],rfl⟩,rfl,_,rfl,λP w I ct=>by simp[OwC,RdD]⟩
 ·exact⟨λX w g=>⟨by simp[zeroT,Zb],rfl⟩,rfl,_,rfl,λP w I ct=>by simp[OwC]⟩
 ·cases h
theorem Zaq:∀ {qs:List CK} {vs:List Value},Zcs qs vs=true->(∀ (X:Fix) (w:World) (g:G),Zh X w g (qs.map zeroT) vs)/\(∀ v∈vs,v.oneCell'=true)/\qs.length=vs.length/\
  ∀ (P:Program) (w:World) (I:Nat->Prop) (c:Array Value) (cts:List TypeId) (p:Nat),cts.length=vs.length->(∀ (j:Nat) (v:Value),vs[j]? = some v->c[p+j]? = some v)->Za P w I c (qs.filterMap zeroC) cts p []
 |[],[],_=>⟨λX w g=>by simp[Zh],by simp,rfl,λP w I c cts p hl _=>by
   have:cts=[]:=by simpa using hl
   subst this
   simp[Za]⟩
 |q::qs,v::vs,h=>by
  simp only[Zcs,Bool.and_eq_true] at h
  obtain⟨h1,h2⟩:=h
  obtain⟨a1,a2,c0,a3,a4⟩:=isZeroV_rel h1
  obtain⟨b1,b2,b3,b4⟩:=Zaq h2
  refine⟨λX w g=>?_,?_,by simp[b3],λP w I c cts p hl hc=>?_⟩
  ·simp only[List.map_cons,Zh]
   exact⟨v,vs,rfl,(a1 X w g).2,(a1 X w g).1,b1 X w g⟩
  ·intro u hu
   rcases List.mem_cons.mp hu with rfl|hu
   ·exact a2
   ·exact b2 u hu
  ·cases cts with
   |nil=>simp at hl
   |cons ct cts=>
    rw[List.filterMap_cons,a3]
    simp only[Za]
    exact⟨ct,cts,v,[],[],rfl,rfl,by simpa using hc 0 v (by simp),a4 P w I ct,b4 P w I c cts (p+1) (by simpa using hl) λj u hu=>by
     have:=hc (j+1) u (by simpa using hu)
     rwa[show p+1+j=p+(j+1) from by omega]⟩
 |[],_::_,h=>by simp[Zcs] at h
 |_::_,[],h=>by simp[Zcs] at h
theorem Zbr {P:Program} {t:TypeId} (h:zeroOk P t=true):∃ i z,P.info? t=some i/\i.zero=some z/\Zcs (ZaM P t) z.cells.toList=true:=by
 unfold zeroOk at h
 split at h
 ·rename_i z hz
  cases hi:P.info? t with
  |none=>rw[hi] at hz;simp at hz
  |some i=>
   rw[hi] at hz
   exact⟨i,z,rfl,by simpa using hz,h⟩
 ·cases h
theorem run_zeroValue {P:Program} {t:TypeId} {i:TypeInfo} {z:Value} (hi:P.info? t=some i) (hz:i.zero=some z) (w:World):(zeroValue t).run P w=.ok z w:=by
 show(Sem.bind (typeInfo t) _).run P w=_
 rw[Zm,ZcT hi]
 simp only[hz]
 rfl
end Go.T
