/- Loads,addresses,elements. -/
import Derived.Test.YtlobhlnahhjpjaaGreatTOp1
set_option linter.unusedVariables false
set_option linter.unusedSimpArgs false
namespace Go.T
theorem Zb7 {P:Program} {t:TypeId} (h:0<P.cellsOf t):∃ i,P.info? t=some i/\i.size=P.cellsOf t:=by
 unfold Program.cellsOf at *
 cases hi:P.info? t with
 |none=>simp[hi] at h
 |some i=>exact⟨i,rfl,by simp⟩
theorem ZcT {P:Program} {t:TypeId} {i:TypeInfo} (h:P.info? t=some i) (w:World):(typeInfo t).run P w=.ok i w:=by
 show(Sem.bind program _).run P w=_
 rw[Zm]
 show (match P.info? t with | some i => (pure i : Sem TypeInfo) | none => stuck "no such type").run P w = _
 rw[h]
 rfl
theorem ZbQ {P:Program} {t:TypeId} (h:0<P.cellsOf t) (w:World):(sizeOf t).run P w=.ok (P.cellsOf t) w:=by
 obtain⟨i,hi,hs⟩:=Zb7 h
 show(Sem.bind (typeInfo t) _).run P w=_
 rw[Zm,ZcT hi]
 show Result.ok i.size w=_
 rw[hs]
theorem run_isAgg {P:Program} {t:TypeId} (h:(P.underlying t).isSome=true) (w:World):(isAgg t).run P w=.ok (ZU P t) w:=by
 obtain⟨d,hd⟩:=Option.isSome_iff_exists.mp h
 show(Sem.bind (underlying t) _).run P w=_
 rw[Zm,Zg hd]
 unfold ZU
 rw[hd]
 cases d<;>rfl
theorem Zb8 (b off k:Nat):(⟨b,off,none⟩:Addr).add k=⟨b,off+k,none⟩:=by
 unfold Addr.add
 split
 ·subst_vars;rfl
 ·rfl
theorem Zat {w:World} {b:Nat} {c:Array Value} {e:TypeId} {f:Nat×Nat} (h:w.heap[b]? = some (.cells c e f)) (off:Nat):w.cell? ⟨b,off,none⟩=c[off]?:=by
 simp[World.cell?,h]
theorem run_load' {P:Program} {w:World} {a:Addr} {v:Value} (h:w.cell? a=some v):(load a).run P w=.ok v w:=by
 show(Sem.load .plain a .pure).run P w=_
 simp[Sem.run,h]
theorem ZcN {P:Program} {w:World} {b off:Nat} {c:Array Value} {e:TypeId} {f:Nat×Nat} (h:w.heap[b]? = some (.cells c e f)):
  ∀ (vs:List Value) (i:Nat) (acc:Array Value),(∀ j v,vs[j]? = some v->c[off+i+j]? = some v)->(loadCellsFrom ⟨b,off,none⟩ i vs.length acc).run P w=.ok (acc++vs.toArray) w
 |[],i,acc,_=>by simp[loadCellsFrom,ZM]
 |v::vs,i,acc,hv=>by
  have h0:=hv 0 v (by simp)
  show(Sem.bind (load ((⟨b,off,none⟩:Addr).add i)) _).run P w=_
  rw[Zm,run_load' (v:=v) (by rw[Zb8,Zat h];simpa using h0)]
  show(loadCellsFrom ⟨b,off,none⟩ (i+1) vs.length (acc.push v)).run P w=_
  rw[ZcN h vs (i+1) (acc.push v) (λj u hu=>by have:=hv (j+1) u (by simpa using hu);rwa[show off+(i+1)+j=off+i+(j+1) from by omega])]
  simp
theorem ZcU {P:Program} {w:World} {b off:Nat} {c:Array Value} {e:TypeId} {f:Nat×Nat} (h:w.heap[b]? = some (.cells c e f)) (vs:List Value)
  (hv:∀ j v,vs[j]? = some v->c[off+j]? = some v):(loadCells ⟨b,off,none⟩ vs.length).run P w=.ok vs.toArray w:=by
 unfold loadCells
 rw[ZcN h vs 0 #[] (by simpa using hv)]
 simp
theorem Za7 {P:Program} {w:World} {b off:Nat} {c:Array Value} {e:TypeId} {f:Nat×Nat} {t:TypeId} (h:w.heap[b]? = some (.cells c e f)) (hu:(P.underlying t).isSome=true)
  (vs:List Value) (hl:vs.length=P.cellsOf t) (h0:0<P.cellsOf t) (h1:ZU P t=false->P.cellsOf t=1) (hv:∀ j v,vs[j]? = some v->c[off+j]? = some v):
  (Instr.loadAt t (.pointer (some ⟨b,off,none⟩))).run P w=.ok (if ZU P t then .agg vs.toArray else vs.headD Go.undef) w:=by
 show(Sem.bind (Instr.sureAddr _) _).run P w=_
 rw[Zm]
 show(loadVar t ⟨b,off,none⟩).run P w=_
 show(Sem.bind (isAgg t) _).run P w=_
 rw[Zm,run_isAgg hu]
 cases hg:ZU P t with
 |true=>
  simp only[if_true]
  show(Sem.bind (sizeOf t) _).run P w=_
  rw[Zm,ZbQ h0]
  show(Sem.bind (loadCells ⟨b,off,none⟩ (P.cellsOf t)) _).run P w=_
  rw[<- hl,Zm,ZcU h vs hv]
  rfl
 |false=>
  have hone:=h1 hg
  match vs,hl with
  |[v],_=>
   simp only[Bool.false_eq_true,if_false]
   show(load ⟨b,off,none⟩).run P w=_
   rw[run_load' (v:=v) (by rw[Zat h];simpa using hv 0 v (by simp))]
   rfl
  |[],hl=>simp at hl;omega
  |_::_::_,hl=>simp at hl;omega
theorem Zi.get {w:World} {I:Nat->Prop} {c:Array Value}:∀ {ds:List D} {p:Nat},Zi w I c p ds->∀ {j:Nat} {d:D},ds[j]? = some d->∃ v,c[p+j]? = some v/\RdD w I d v
 |[],_,_,j,d,h=>by simp at h
 |x::ds,p,r,j,d,h=>by
  simp only[Zi] at r
  cases j with
  |zero=>simp at h;subst h;simpa using r.1
  |succ j=>
   obtain⟨v,hv,hr⟩:=Zi.get r.2 (j:=j) (by simpa using h)
   exact⟨v,by rwa[show p+(j+1)=p+1+j from by omega],hr⟩
theorem Zi.vals {w:World} {I:Nat->Prop} {c:Array Value}:∀ {ds:List D} {p:Nat},Zi w I c p ds->∃ vs:List Value,vs.length=ds.length/\(∀ (j:Nat) (v:Value),vs[j]? = some v->c[p+j]? = some v)/\∀ (j:Nat) (d:D),ds[j]? = some d->∃ v,vs[j]? = some v/\RdD w I d v
 |[],_,_=>⟨[],rfl,by simp,by simp⟩
 |x::ds,p,r=>by
  simp only[Zi] at r
  obtain⟨⟨v,hv,r1⟩,r2⟩:=r
  obtain⟨vs,hl,h1,h2⟩:=Zi.vals r2
  refine⟨v::vs,by simp[hl],?_,?_⟩
  ·intro j u hu
   cases j with
   |zero=>simp at hu;subst hu;simpa using hv
   |succ j=>have:=h1 j u (by simpa using hu);rwa[show p+(j+1)=p+1+j from by omega]
  ·intro j d hd
   cases j with
   |zero=>simp at hd;subst hd;exact⟨v,by simp,r1⟩
   |succ j=>obtain⟨u,hu,hr⟩:=h2 j d (by simpa using hd);exact⟨u,by simpa using hu,hr⟩
theorem Zi.drop {w:World} {I:Nat->Prop} {c:Array Value}:∀ {n:Nat} {ds:List D} {p:Nat},Zi w I c p ds->Zi w I c (p+n) (ds.drop n)
 |0,_,_,r=>by simpa using r
 |n+1,[],_,_=>by simp[Zi]
 |n+1,d::ds,p,r=>by
  simp only[Zi] at r
  have:=Zi.drop (n:=n) r.2
  simpa[Nat.add_assoc,Nat.add_comm 1 n] using this
theorem ZC.get {w:World} {I:Nat->Prop} {c:Array Value} {sz:Nat}:∀ {xs:List (List D)} {p:Nat},ZC w I c sz p xs->∀ {i:Nat} {x:List D},xs[i]? = some x->x.length=sz/\Zi w I c (p+i*sz) x
 |[],_,_,i,x,h=>by simp at h
 |y::xs,p,r,i,x,h=>by
  simp only[ZC] at r
  cases i with
  |zero=>simp at h;subst h;simpa using r.1
  |succ i=>
   have:=ZC.get r.2 (i:=i) (by simpa using h)
   refine⟨this.1,?_⟩
   rw[show p+(i+1)*sz=p+sz+i*sz from by rw[Nat.succ_mul];omega]
   exact this.2
theorem Ze.get {P:Program} {w:World} {I:Nat->Prop} {c:Array Value} {cts:List TypeId} {sz:Nat}:∀ {xs:List (List C)} {p:Nat} {F:List Nat},Ze P w I c cts sz xs p F->
  ∀ {i:Nat} {x:List C},xs[i]? = some x->∃ F',Za P w I c x cts (p+i*sz) F'/\∀ b∈F',b∈F
 |[],_,_,_,i,x,h=>by simp at h
 |y::xs,p,F,r,i,x,h=>by
  simp only[Ze] at r
  obtain⟨F1,F2,rfl,r1,r2⟩:=r
  cases i with
  |zero=>simp at h;subst h;exact⟨F1,by simpa using r1,λb hb=>by simp[hb]⟩
  |succ i=>
   obtain⟨F',h1,h2⟩:=Ze.get r2 (i:=i) (by simpa using h)
   refine⟨F',?_,λb hb=>by simp[h2 b hb]⟩
   rwa[show p+(i+1)*sz=p+sz+i*sz from by rw[Nat.succ_mul];omega]
theorem Za.get {P:Program} {w:World} {I:Nat->Prop} {c:Array Value}:∀ {xs:List C} {cts:List TypeId} {p:Nat} {F:List Nat},Za P w I c xs cts p F->
  ∀ {j:Nat} {x:C},xs[j]? = some x->∃ ct v F',cts[j]? = some ct/\c[p+j]? = some v/\OwC P w I x ct v F'/\∀ b∈F',b∈F
 |[],_,_,_,_,j,x,h=>by simp at h
 |y::xs,cts,p,F,r,j,x,h=>by
  simp only[Za] at r
  obtain⟨ct,cts',v,F1,F2,rfl,rfl,hv,r1,r2⟩:=r
  cases j with
  |zero=>simp at h;subst h;exact⟨ct,v,F1,by simp,by simpa using hv,r1,λb hb=>by simp[hb]⟩
  |succ j=>
   obtain⟨ct',v',F',h1,h2,h3,h4⟩:=Za.get r2 (j:=j) (by simpa using h)
   exact⟨ct',v',F',by simpa using h1,by rwa[show p+(j+1)=p+1+j from by omega],h3,λb hb=>by simp[h4 b hb]⟩
section
variable {β:Type}
theorem dInt_some {q:IntKind} {d:D} {k:Int->Option β} {y:β} (h:dInt q d k=some y):∃ n,d=.int q n/\k n=some y:=by
 unfold dInt at h
 split at h
 ·split at h
  ·subst_vars;exact⟨_,rfl,h⟩
  ·cases h
 ·cases h
theorem dBool_some {d:D} {k:Bool->Option β} {y:β} (h:dBool d k=some y):∃ b,d=.bool b/\k b=some y:=by
 unfold dBool at h
 split at h
 ·exact⟨_,rfl,h⟩
 ·cases h
theorem dStr_some {d:D} {k:ByteArray->Option β} {y:β} (h:dStr d k=some y):∃ s,d=.str s/\k s=some y:=by
 unfold dStr at h
 split at h
 ·exact⟨_,rfl,h⟩
 ·cases h
theorem dSl_some {d:D} {k:List (List D)->Option β} {y:β} (h:dSl d k=some y):∃ s,d=.sl s/\k s=some y:=by
 unfold dSl at h
 split at h
 ·exact⟨_,rfl,h⟩
 ·cases h
theorem Zce {α:Type} {l:List α} {k:α->List α->Option β} {y:β} (h:ZaJ l k=some y):∃ x r,l=x::r/\k x r=some y:=by
 unfold ZaJ at h
 split at h
 ·exact⟨_,_,rfl,h⟩
 ·cases h
theorem atEnd_some {α:Type} {l:List α} {k:Option β} {y:β} (h:atEnd l k=some y):l=[]/\k=some y:=by
 unfold atEnd at h
 split at h
 ·exact⟨rfl,h⟩
 ·cases h
theorem cD_some {c:C} {k:D->Option β} {y:β} (h:cD c k=some y):∃ d,c=.d d/\k d=some y:=by
 unfold cD at h
 split at h
 ·exact⟨_,rfl,h⟩
 ·cases h
theorem Zcx {c:C} {k:List (List C)->Option β} {y:β} (h:cOwn c k=some y):∃ d,c=.own d/\k d=some y:=by
 unfold cOwn at h
 split at h
 ·exact⟨_,rfl,h⟩
 ·cases h
theorem atNat_some {α:Type} {xs:List α} {i:Nat} {k:α->Option β} {y:β} (h:ZaR xs i k=some y):∃ x,xs[i]? = some x/\k x=some y:=by
 unfold ZaR at h
 split at h
 ·exact⟨_,‹_›,h⟩
 ·cases h
theorem atRow_some {α:Type} {xs:List α} {i:Int} {k:α->Option β} {y:β} (h:atRow xs i k=some y):0<=i/\∃ x,xs[i.toNat]? = some x/\k x=some y:=by
 unfold atRow at h
 split at h
 ·exact⟨‹_›,atNat_some h⟩
 ·cases h
theorem asKind_some {q:CK} {d:D} {k:D->Option β} {y:β} (h:asKind q d k=some y):k d=some y:=by
 unfold asKind at h
 split at h
 ·obtain⟨n,rfl,h'⟩:=dInt_some h;exact h'
 ·obtain⟨n,rfl,h'⟩:=dBool_some h;exact h'
 ·obtain⟨n,rfl,h'⟩:=dStr_some h;exact h'
 ·obtain⟨n,rfl,h'⟩:=dSl_some h;exact h'
 ·cases h
theorem asCells_some:∀ {qs:List CK} {l:List D} {k:List D->Option β} {y:β},asCells qs l k=some y->k l=some y/\l.length=qs.length
 |[],l,k,y,h=>by
  simp only[asCells] at h
  obtain⟨rfl,h⟩:=atEnd_some h
  exact⟨h,rfl⟩
 |q::qs,l,k,y,h=>by
  simp only[asCells] at h
  obtain⟨d,r,rfl,h'⟩:=Zce h
  obtain⟨h1,h2⟩:=asCells_some (asKind_some h')
  exact⟨h1,by simp[h2]⟩
theorem Zcl {x:T} {k:Int->Option β} {y:β} (h:asIntT x k=some y):∃ f q n,x=.d f (.int q n)/\k n=some y:=by
 unfold asIntT at h
 split at h
 ·exact⟨_,_,_,rfl,h⟩
 ·cases h
theorem asCellsC_some {fr:Bool}:∀ {qs:List CK} {l:List C} {k:List T->Option β} {y:β},asCellsC fr qs l k=some y->
  ∃ ds:List D,k (ds.map (.d fr))=some y/\ds.length=qs.length/\l.take qs.length=ds.map .d
 |[],l,k,y,h=>by simp only[asCellsC] at h;exact⟨[],h,rfl,by simp⟩
 |q::qs,l,k,y,h=>by
  simp only[asCellsC] at h
  obtain⟨c,r,rfl,h'⟩:=Zce h
  unfold asKindC at h'
  obtain⟨d,rfl,h''⟩:=cD_some h'
  obtain⟨ds,h1,h2,h3⟩:=asCellsC_some (asKind_some h'')
  exact⟨d::ds,h1,by simp[h2],by simp[h3]⟩
end
end Go.T
