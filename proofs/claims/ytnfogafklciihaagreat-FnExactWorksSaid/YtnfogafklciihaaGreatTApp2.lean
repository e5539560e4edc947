/- The evaluator and why it is right. -/
import Derived.Test.YtnfogafklciihaaGreatTInv
import Derived.Laws.StructEq
set_option linter.unusedVariables false
set_option linter.unusedSimpArgs false
namespace Go.T
structure Eff where
 t:T
 chg:List (Nat×Obj)
 news:List Obj
def ZI (l:List (Nat×Obj)) (t:T):T:=l.foldl (λt p=>Zaa p.1 t) t
def ZS (ob:List Obj) (l:List (Nat×Obj)):List Obj:=l.foldl (λob p=>ob.set p.1 p.2) ob
def Zbx (ob:List Obj) (n:Nat):List Obj->List Obj
 |[]=>ob
 |o::os=>Zbx (ob.set n o) (n+1) os
def St.eff (st:St) (dst:Option Nat) (n:Nat) (e:Eff):St:=
 (St.mk (st.tm.map (ZI e.chg)) (Zbx (ZS st.ob e.chg) n e.news)).put dst e.t
def St.pad (st:St) (m:Nat):St:=⟨st.tm,st.ob++List.replicate m .gone⟩
def Z9 (g:G) (stL st:St) (l:List Nat):Prop:=∀ id∈l,(st.ob[id]?).isSome->stL.ob[id]? = st.ob[id]?/\g.B id
def Zbh (P:Program) (X:Fix) (w0:World) (o:Oper) (st:St) (e:Eff):Prop:=
 ∀ (stL:St) (g:G) (a:Act) (w:World),Rel P X w g stL a->Zal X w0 w->
  (∀ x∈o.op.operands.toList,stL.ev x=st.ev x\/st.ev x=.any)->Z9 g stL st (Zbm o st)->
  (∀ j,j<e.news.length->stL.ob[st.ob.length+j]? = some .gone/\¬ g.B (st.ob.length+j))->
  ∀ (K:Act->World->Prop) (Q:Exit->Act->World->Prop),
   (∀ g' w' a',Rel P X w' g' (stL.eff o.dst st.ob.length e) a'->Zal X w0 w'->
    (∀ id,g'.B id↔g.B id\/(st.ob.length<=id/\id<st.ob.length+e.news.length))->K a' w')->
   o.wp P a w K Q
theorem Zbh.args {P:Program} {X:Fix} {w:World} {g:G} {stL st:St} {a:Act} (hr:Rel P X w g stL a) {x:Operand} (h:stL.ev x=st.ev x\/st.ev x=.any):Zi X w g (st.ev x) (a.eval x):=by
 rcases h with h|h
 ·rw[<- h];exact hr.ev x
 ·rw[h];simp[Zi]
theorem eff_pure (st:St) (dst:Option Nat) (n:Nat) (t:T):st.eff dst n ⟨t,[],[]⟩=st.put dst t:=by
 have h:(st.tm.map (ZI []))=st.tm:=by
  have:ZI []=id:=funext λt=>rfl
  rw[this,List.map_id]
 simp[St.eff,h,Zbx,ZS]
theorem wp_val {P:Program} {o:Oper} {a:Act} {w w':World} {v:Value} {K:Act->World->Prop} {Q:Exit->Act->World->Prop}
  (h:(execOp a.eval o).run P w=.ok (.value v) w') (hk:K (a.put o.dst v) w'):o.wp P a w K Q:=by
 unfold Oper.wp;rw[h];exact hk
theorem Zbh.pure {P:Program} {X:Fix} {w0:World} {o:Oper} {st:St} {t:T}
  (h:∀ (stL:St) (g:G) (a:Act) (w:World),Rel P X w g stL a->(∀ x∈o.op.operands.toList,Zi X w g (st.ev x) (a.eval x))->
   Z9 g stL st (Zbm o st)->∃ v,(execOp a.eval o).run P w=.ok (.value v) w/\Zi X w g t v):
  Zbh P X w0 o st ⟨t,[],[]⟩:=by
 intro stL g a w hr hs ha hl _ K Q hK;obtain⟨v,hv,hR⟩:=h stL g a w hr (λx hx=>Zbh.args hr (ha x hx)) hl;refine wp_val hv (hK g w _ ?_ hs (λid=>by simp;omega));rw[eff_pure];exact hr.put _ hR
theorem Zz {α β:Type} (P:Program) (s:Sem α) (f:α->Sem β):∀ (w:World),(s.bind f).run P w=match s.run P w with|.ok a w'=>(f a).run P w'|.halt h w'=>.halt h w':=by
 induction s with
 |pure a=>intro w;rfl
 |load m a k ih=>
  intro w;simp only[Sem.bind,Sem.run]
  cases w.cell? a with
  |some v=>exact ih v w
  |none=>
   simp only[]
   cases w.farLoad P a (m==.atomic) with
   |ok r=>exact ih r.1 w
   |error e=>rfl
 |store m a v k ih=>
  intro w;cases v<;>simp only[Sem.bind,Sem.run]<;>(try rfl)<;>
   (cases w.cell? a with
    |some u=>simp only[];split<;>first|rfl|exact ih _
    |none=>simp only[];cases w.farStore P a _ (m==.atomic) with
     |ok r=>exact ih r.1
     |error e=>rfl)
 |new o k ih=>intro w;exact ih _ _
 |shape r k ih=>intro w;exact ih _ _
 |freeze a n k ih=>intro w;exact ih _
 |frozen a k ih=>intro w;exact ih _ _
 |getObj r k ih=>
  intro w;simp only[Sem.bind,Sem.run]
  split<;>first|rfl|exact ih _ _
 |setObj r o k ih=>
  intro w;simp only[Sem.bind,Sem.run]
  split<;>first|rfl|exact ih _
 |choose q k ih=>
  intro w;simp only[Sem.bind,Sem.run]
  split
  ·exact ih _ _
  ·exact ih _ _
 |sys c k ih=>intro w;exact ih _ _
 |program k ih=>intro w;exact ih _ _
 |mark m k ih=>intro w;exact ih _
 |halt h=>intro w;rfl
theorem ZT {α β:Type} (P:Program) (s:Sem α) (f:α->Sem β) (w:World):(s >>= f).run P w=match s.run P w with|.ok a w'=>(f a).run P w'|.halt h w'=>.halt h w':=Zz P s f w
theorem ZZ {α:Type} (P:Program) (a:α) (w:World):(pure a:Sem α).run P w=.ok a w:=rfl
theorem Zk {P:Program} {t:TypeId} {d:TypeDesc} (h:P.underlying t=some d) (w:World):(underlying t).run P w=.ok d w:=by
 show(Sem.bind program _).run P w=_;rw[Zz]
 show (match P.underlying t with | some d => (pure d : Sem TypeDesc) | none => stuck "no such type").run P w = _
 rw[h];rfl
theorem ZB {β:Type} {c:Prop} [Decidable c] {k:Option β} {y:β} (h:Z0 c k=some y):c/\k=some y:=by
 unfold Z0 at h;split at h
 ·exact⟨‹c›,h⟩
 ·cases h
def ZaJ:D->Value
 |.bool b=>.bool b
 |.int k n=>.int k n
 |.str s=>.string s
 |_=>Go.undef
theorem RdD.scal {w:World} {I:Nat->Prop} {d:D} (h:Zak d=true):RdD w I d (ZaJ d):=by
 cases d<;>simp[Zak] at h<;>simp[RdD,ZaJ]
theorem Zi.scal {X:Fix} {w:World} {g:G} {fr:Bool} {d:D} (h:Zak d=true):Zi X w g (.d fr d) (ZaJ d):=by
 simp only[Zi];exact RdD.scal h
theorem Zi.scal_eq {X:Fix} {w:World} {g:G} {fr:Bool} {d:D} {v:Value} (h:Zak d=true) (r:Zi X w g (.d fr d) v):v=ZaJ d:=by
 simp only[Zi] at r;cases d<;>simp[Zak] at h<;>simpa[RdD,ZaJ] using r
theorem binInt_sound {β:Type} {op:BinOp} {q:IntKind} {a b:Int} {k:D->Option β} {y:β} (h:binInt op q a b k=some y) (h1:op≠.shl) (h2:op≠.shr):
  ∃ d,k d=some y/\Zak d=true/\∀ (P:Program) (w:World) (t:TypeId),(binOp op t (.int q a) (.int q b)).run P w=.ok (ZaJ d) w:=by
 cases op with
 |quo=>
  simp only[binInt] at h;obtain⟨hc,h⟩:=ZB h;exact⟨_,h,rfl,λP w t=>by simp[binOp,Op.intDiv,hc,ZZ,ZaJ]⟩
 |rem=>
  simp only[binInt] at h;obtain⟨hc,h⟩:=ZB h;exact⟨_,h,rfl,λP w t=>by simp[binOp,Op.intDiv,hc,ZZ,ZaJ]⟩
 |shl=>exact absurd rfl h1
 |shr=>exact absurd rfl h2
 |add=>exact⟨_,h,rfl,λP w t=>by simp[binOp,Op.intArith,ZZ,ZaJ]⟩
 |sub=>exact⟨_,h,rfl,λP w t=>by simp[binOp,Op.intArith,ZZ,ZaJ]⟩
 |mul=>exact⟨_,h,rfl,λP w t=>by simp[binOp,Op.intArith,ZZ,ZaJ]⟩
 |and=>exact⟨_,h,rfl,λP w t=>by simp[binOp,Op.intBits,ZZ,ZaJ]⟩
 |or=>exact⟨_,h,rfl,λP w t=>by simp[binOp,Op.intBits,ZZ,ZaJ]⟩
 |xor=>exact⟨_,h,rfl,λP w t=>by simp[binOp,Op.intBits,ZZ,ZaJ]⟩
 |andNot=>exact⟨_,h,rfl,λP w t=>by simp[binOp,Op.intBits,ZZ,ZaJ]⟩
 |eql=>exact⟨_,h,rfl,λP w t=>by simp[binOp,Op.intCmp,ZZ,ZaJ]⟩
 |neq=>exact⟨_,h,rfl,λP w t=>by simp[binOp,Op.intCmp,ZZ,ZaJ]⟩
 |lss=>exact⟨_,h,rfl,λP w t=>by simp[binOp,Op.intCmp,ZZ,ZaJ]⟩
 |leq=>exact⟨_,h,rfl,λP w t=>by simp[binOp,Op.intCmp,ZZ,ZaJ]⟩
 |gtr=>exact⟨_,h,rfl,λP w t=>by simp[binOp,Op.intCmp,ZZ,ZaJ]⟩
 |geq=>exact⟨_,h,rfl,λP w t=>by simp[binOp,Op.intCmp,ZZ,ZaJ]⟩
theorem binStr_sound {β:Type} {op:BinOp} {a b:ByteArray} {k:D->Option β} {y:β} (h:binStr op a b k=some y):
  ∃ d,k d=some y/\Zak d=true/\∀ (P:Program) (w:World) (t:TypeId),(binOp op t (.string a) (.string b)).run P w=.ok (ZaJ d) w:=by
 cases op with
 |add=>
  simp only[binStr] at h;obtain⟨hc,h⟩:=ZB h;refine⟨_,h,rfl,λP w t=>?_⟩
  have hm:¬ (((a.size+b.size:Nat):Int)>IntKind.i64.max):=by
   have:IntKind.i64.max=9223372036854775807:=by decide
   rw[this];omega
  simp only[binOp,Op.stringOp,hm,if_false,ZZ,ZaJ]
 |eql=>exact⟨_,h,rfl,λP w t=>rfl⟩
 |neq=>exact⟨_,h,rfl,λP w t=>rfl⟩
 |lss=>exact⟨_,h,rfl,λP w t=>rfl⟩
 |leq=>exact⟨_,h,rfl,λP w t=>rfl⟩
 |gtr=>exact⟨_,h,rfl,λP w t=>rfl⟩
 |geq=>exact⟨_,h,rfl,λP w t=>rfl⟩
 |_=>simp[binStr] at h
theorem Zcd {op:BinOp} {t:TypeId} {x y:Operand} {a b:Value} (P:Program) (w:World)
  (ha:(∀ n cs,a≠.agg cs/\b≠.agg n)/\a≠.nilIface):(eqGuard op t x y a b).run P w=.ok () w:=by
 obtain⟨h1,h2⟩:=ha;unfold eqGuard;cases op<;>(try rfl)<;>cases a<;>cases b<;>first|rfl|exact absurd rfl h2|exact absurd rfl (h1 #[] _).1
theorem kind_int {P:Program} {t:TypeId} {q:IntKind} (h:Zaj P t=.int q):P.underlying t=some (.int q):=by
 unfold Zaj at h;split at h<;>first|(injection h with h;subst h;assumption)|cases h
theorem part_int {P:Program} {t:TypeId} {q:IntKind} (h:Zaj P t=.int q) {cs:Array Value} {off:Nat} {v:Value} (hv:cs[off]? = some v) (w:World):(part t cs off).run P w=.ok v w:=by
 simp[part,isAgg,Zk (kind_int h),hv]
theorem two_eq {P:Program} {t:TypeId} {q1 q2:IntKind} (h:twoInts P t q1 q2=true) (a1 a2 b1 b2:Int) (w:World):
  (Op.equalIn 10000 t (.agg #[.int q1 a1,.int q2 a2]) (.agg #[.int q1 b1,.int q2 b2])).run P w=.ok (a1==b1&&a2==b2) w/\P.eqGuardType P.depth t=false:=by
 unfold twoInts at h;simp only[Bool.and_eq_true,Bool.not_eq_true'] at h;obtain⟨⟨h1,h2⟩,h3⟩:=h;refine⟨?_,h2⟩
 split at h3
 ·rename_i fs hu;split at h3
  ·rename_i f1 f2 hfs;simp only[Bool.and_eq_true,bne_iff_ne,ne_eq,decide_eq_true_eq] at h3;obtain⟨⟨n1,n2⟩,o1,o2,k1,k2⟩:=h3;have hf:P.fieldsOf t=fs:=by unfold Program.fieldsOf;rw[hu]
   rw[run_equalIn_struct w 9999 t _ _ (by rw[hf];exact hu) h1,hf,hfs];simp only[Op.eqFields,ne_eq,n1,n2,not_false_eq_true,if_true,o1,o2]
   rw[ZT,part_int k1 (v:=.int q1 a1) rfl];simp only[Result.andThen]
   rw[ZT,part_int k1 (v:=.int q1 b1) rfl];simp only[Result.andThen]
   rw[ZT,show(Op.equalIn 9999 f1.type (.int q1 a1) (.int q1 b1)).run P w=.ok (a1==b1) w from run_equalIn_int w 9998 f1.type q1 q1 a1 b1 (kind_int k1)];simp only[Result.andThen]
   cases hc:(a1==b1) with
   |false=>rfl
   |true=>
    simp only[Bool.not_true,Bool.false_eq_true,if_false]
    rw[ZT,part_int k2 (v:=.int q2 a2) rfl];simp only[Result.andThen]
    rw[ZT,part_int k2 (v:=.int q2 b2) rfl];simp only[Result.andThen]
    rw[ZT,show(Op.equalIn 9999 f2.type (.int q2 a2) (.int q2 b2)).run P w=.ok (a2==b2) w from run_equalIn_int w 9998 f2.type q2 q2 a2 b2 (kind_int k2)];simp only[Result.andThen]
    cases hc2:(a2==b2)<;>rfl
  ·cases h3
 ·cases h3
theorem bin_sound {β:Type} {P:Program} {op:BinOp} {t:TypeId} {x y:T} {k:T->Option β} {r:β} (h:binDen P op t x y k=some r):
  ∃ d,k (.d true d)=some r/\Zak d=true/\∀ (X:Fix) (g:G) (w:World) (xo yo:Operand) (vx vy:Value),Zi X w g x vx->Zi X w g y vy->
   ((do eqGuard op t xo yo vx vy;binOp op t vx vy:Sem Value)).run P w=.ok (ZaJ d) w:=by
 unfold binDen at h;split at h
 ·rename_i f1 q1 a1 f2 q2 a2 f3 q1' b1 f4 q2' b2;split at h
  ·rename_i hq;obtain⟨h2,rfl,rfl⟩:=hq;have rel:∀ (X:Fix) (g:G) (w:World) (f f':Bool) (u v:Int) (z:Value),Zi X w g (.agg [.d f (.int q1' u),.d f' (.int q2' v)]) z->z=.agg #[.int q1' u,.int q2' v]:=λX g w f f' u v z r=>by
    simp only[Zi,Zo,RdD] at r;obtain⟨cs,rfl,v1,vs1,rfl,-,rfl,v2,vs2,rfl,-,rfl,rfl⟩:=r;rfl
   split at h
   ·refine⟨_,h,rfl,λX g w xo yo vx vy rx ry=>?_⟩
    obtain⟨he,hg⟩:=two_eq h2 a1 a2 b1 b2 w;rw[rel _ _ _ _ _ _ _ _ rx,rel _ _ _ _ _ _ _ _ ry,ZT,run_eqGuard_agg w _ _ _ _ _ _ hg];simp only[Result.andThen]
    rw[run_eql_struct,he];rfl
   ·refine⟨_,h,rfl,λX g w xo yo vx vy rx ry=>?_⟩
    obtain⟨he,hg⟩:=two_eq h2 a1 a2 b1 b2 w;rw[rel _ _ _ _ _ _ _ _ rx,rel _ _ _ _ _ _ _ _ ry,ZT,run_eqGuard_agg w _ _ _ _ _ _ hg];simp only[Result.andThen]
    rw[run_neq_struct,he];rfl
   ·cases h
  ·cases h
 ·rename_i f q a f' q' b;have key:∀ d,Zak d=true->(∀ w,(binOp op t (.int q a) (.int q' b)).run P w=.ok (ZaJ d) w)->∀ (X:Fix) (g:G) (w:World) (xo yo:Operand) (vx vy:Value),Zi X w g (.d f (.int q a)) vx->Zi X w g (.d f' (.int q' b)) vy->
   ((do eqGuard op t xo yo vx vy;binOp op t vx vy:Sem Value)).run P w=.ok (ZaJ d) w:=by
   intro d hd hrun X g w xo yo vx vy rx ry;rw[Zi.scal_eq rfl rx,Zi.scal_eq rfl ry];rw[ZT,Zcd P w ⟨λ_ _=>⟨by simp[ZaJ],by simp[ZaJ]⟩,by simp[ZaJ]⟩];exact hrun w
  split at h
  ·obtain⟨hc,h⟩:=ZB h;refine⟨_,h,rfl,key _ rfl λw=>?_⟩
   have:¬ b<0:=by omega
   simp[binOp,Op.shift,this,ZZ,ZaJ]
  ·obtain⟨hc,h⟩:=ZB h;refine⟨_,h,rfl,key _ rfl λw=>?_⟩
   have:¬ b<0:=by omega
   simp[binOp,Op.shift,this,ZZ,ZaJ]
  ·rename_i h1 h2;split at h
   ·rename_i hq;subst hq;obtain⟨d,hk,hd,hrun⟩:=binInt_sound h h1 h2;exact⟨d,hk,hd,key d hd λw=>hrun P w t⟩
   ·cases h
 ·rename_i f a f' b;obtain⟨d,hk,hd,hrun⟩:=binStr_sound h;refine⟨d,hk,hd,λX g w xo yo vx vy rx ry=>?_⟩
  rw[Zi.scal_eq rfl rx,Zi.scal_eq rfl ry];rw[ZT,Zcd P w ⟨λ_ _=>⟨by simp[ZaJ],by simp[ZaJ]⟩,by simp[ZaJ]⟩];exact hrun P w t
 ·rename_i f a f' b;split at h
  ·rename_i hk;have hu:P.underlying t=some .bool:=by
    unfold Zaj at hk;split at hk<;>first|assumption|cases hk
   have heq:∀ w,(Op.equal t (.bool a) (.bool b)).run P w=.ok (a==b) w:=by
    intro w;unfold Op.equal Op.maxDepth Op.equalIn;rw[ZT,Zk hu];rfl
   split at h
   ·refine⟨_,h,rfl,λX g w xo yo vx vy rx ry=>?_⟩
    rw[Zi.scal_eq rfl rx,Zi.scal_eq rfl ry];rw[ZT,Zcd P w ⟨λ_ _=>⟨by simp[ZaJ],by simp[ZaJ]⟩,by simp[ZaJ]⟩];show((Op.equal t (.bool a) (.bool b)) >>= λr=>pure (.bool r):Sem Value).run P w=_;rw[ZT,heq];rfl
   ·refine⟨_,h,rfl,λX g w xo yo vx vy rx ry=>?_⟩
    rw[Zi.scal_eq rfl rx,Zi.scal_eq rfl ry];rw[ZT,Zcd P w ⟨λ_ _=>⟨by simp[ZaJ],by simp[ZaJ]⟩,by simp[ZaJ]⟩];show((Op.equal t (.bool a) (.bool b)) >>= λr=>pure (.bool !r):Sem Value).run P w=_;rw[ZT,heq];rfl
   ·cases h
  ·cases h
 ·cases h
theorem un_sound {β:Type} {op:UnOp} {x:T} {k:T->Option β} {r:β} (h:unDen op x k=some r):
  ∃ d,k (.d true d)=some r/\Zak d=true/\∀ (P:Program) (X:Fix) (g:G) (w:World) (v:Value),Zi X w g x v->(Op.unary op v).run P w=.ok (ZaJ d) w:=by
 unfold unDen at h;split at h
 ·exact⟨_,h,rfl,λP X g w v rx=>by rw[Zi.scal_eq rfl rx];rfl⟩
 ·exact⟨_,h,rfl,λP X g w v rx=>by rw[Zi.scal_eq rfl rx];rfl⟩
 ·cases h
end Go.T
namespace Go.T
theorem Zcr {P:Program} {t:TypeId} (h:0<P.cellsOf t):∃ i,P.info? t=some i/\i.size=P.cellsOf t:=by
 unfold Program.cellsOf at *
 cases hi:P.info? t with
 |none=>simp[hi] at h
 |some i=>exact⟨i,rfl,by simp⟩
theorem Zde {P:Program} {t:TypeId} {i:TypeInfo} (h:P.info? t=some i) (w:World):(typeInfo t).run P w=.ok i w:=by
 show(Sem.bind program _).run P w=_;rw[Zz]
 show (match P.info? t with | some i => (pure i : Sem TypeInfo) | none => stuck "no such type").run P w = _
 rw[h];rfl
theorem Zb9 {P:Program} {t:TypeId} (h:0<P.cellsOf t) (w:World):(sizeOf t).run P w=.ok (P.cellsOf t) w:=by
 obtain⟨i,hi,hs⟩:=Zcr h;show(Sem.bind (typeInfo t) _).run P w=_;rw[Zz,Zde hi];show Result.ok i.size w=_;rw[hs]
theorem run_isAgg {P:Program} {t:TypeId} (h:(P.underlying t).isSome=true) (w:World):(isAgg t).run P w=.ok (Z4 P t) w:=by
 obtain⟨d,hd⟩:=Option.isSome_iff_exists.mp h;show(Sem.bind (underlying t) _).run P w=_;rw[Zz,Zk hd];unfold Z4;rw[hd];cases d<;>rfl
theorem ZbW (b off k:Nat):(⟨b,off,none⟩:Addr).add k=⟨b,off+k,none⟩:=by
 unfold Addr.add;split
 ·subst_vars;rfl
 ·rfl
theorem ZbP {w:World} {b:Nat} {c:Array Value} {e:TypeId} {f:Nat×Nat} (h:w.heap[b]? = some (.cells c e f)) (off:Nat):w.cell? ⟨b,off,none⟩=c[off]?:=by
 simp[World.cell?,h]
theorem run_load' {P:Program} {w:World} {a:Addr} {v:Value} (h:w.cell? a=some v):(load a).run P w=.ok v w:=by
 show(Sem.load .plain a .pure).run P w=_;simp[Sem.run,h]
theorem Zdb {P:Program} {w:World} {b off:Nat} {c:Array Value} {e:TypeId} {f:Nat×Nat} (h:w.heap[b]? = some (.cells c e f)):
  ∀ (vs:List Value) (i:Nat) (acc:Array Value),(∀ j v,vs[j]? = some v->c[off+i+j]? = some v)->(loadCellsFrom ⟨b,off,none⟩ i vs.length acc).run P w=.ok (acc++vs.toArray) w
 |[],i,acc,_=>by simp[loadCellsFrom,ZZ]
 |v::vs,i,acc,hv=>by
  have h0:=hv 0 v Sp;show(Sem.bind (load ((⟨b,off,none⟩:Addr).add i)) _).run P w=_;rw[Zz,run_load' (v:=v) (by rw[ZbW,ZbP h];simpa using h0)];show(loadCellsFrom ⟨b,off,none⟩ (i+1) vs.length (acc.push v)).run P w=_;rw[Zdb h vs (i+1) (acc.push v) (λj u hu=>by have:=hv (j+1) u (by simpa using hu);rwa[show off+(i+1)+j=off+i+(j+1) from by omega])];simp
theorem Zdf {P:Program} {w:World} {b off:Nat} {c:Array Value} {e:TypeId} {f:Nat×Nat} (h:w.heap[b]? = some (.cells c e f)) (vs:List Value)
  (hv:∀ j v,vs[j]? = some v->c[off+j]? = some v):(loadCells ⟨b,off,none⟩ vs.length).run P w=.ok vs.toArray w:=by
 unfold loadCells;rw[Zdb h vs 0 #[] (by simpa using hv)];simp
theorem Za8 {P:Program} {w:World} {b off:Nat} {c:Array Value} {e:TypeId} {f:Nat×Nat} {t:TypeId} (h:w.heap[b]? = some (.cells c e f)) (hu:(P.underlying t).isSome=true)
  (vs:List Value) (hl:vs.length=P.cellsOf t) (h0:0<P.cellsOf t) (h1:Z4 P t=false->P.cellsOf t=1) (hv:∀ j v,vs[j]? = some v->c[off+j]? = some v):
  (Instr.loadAt t (.pointer (some ⟨b,off,none⟩))).run P w=.ok (if Z4 P t then .agg vs.toArray else vs.headD Go.undef) w:=by
 show(Sem.bind (Instr.sureAddr _) _).run P w=_;rw[Zz];show(loadVar t ⟨b,off,none⟩).run P w=_;show(Sem.bind (isAgg t) _).run P w=_;rw[Zz,run_isAgg hu];cases hg:Z4 P t with
 |true=>
  simp only[if_true]
  show(Sem.bind (sizeOf t) _).run P w=_;rw[Zz,Zb9 h0];show(Sem.bind (loadCells ⟨b,off,none⟩ (P.cellsOf t)) _).run P w=_;rw[<- hl,Zz,Zdf h vs hv];rfl
 |false=>
  have hone:=h1 hg
  match vs,hl with
  |[v],_=>
   simp only[Bool.false_eq_true,if_false]
   show(load ⟨b,off,none⟩).run P w=_;rw[run_load' (v:=v) (by rw[ZbP h];simpa using hv 0 v Sp)];rfl
  |[],hl=>simp at hl;omega
  |_::_::_,hl=>simp at hl;omega
theorem Zt.get {w:World} {I:Nat->Prop} {c:Array Value}:∀ {ds:List D} {p:Nat},Zt w I c p ds->∀ {j:Nat} {d:D},ds[j]? = some d->∃ v,c[p+j]? = some v/\RdD w I d v
 |[],_,_,j,d,h=>by simp at h
 |x::ds,p,r,j,d,h=>by
  simp only[Zt] at r;cases j with
  |zero=>simp at h;subst h;simpa using r.1
  |succ j=>
   obtain⟨v,hv,hr⟩:=Zt.get r.2 (j:=j) (by simpa using h);exact⟨v,by rwa[show p+(j+1)=p+1+j from by omega],hr⟩
theorem Zt.vals {w:World} {I:Nat->Prop} {c:Array Value}:∀ {ds:List D} {p:Nat},Zt w I c p ds->∃ vs:List Value,vs.length=ds.length/\(∀ (j:Nat) (v:Value),vs[j]? = some v->c[p+j]? = some v)/\∀ (j:Nat) (d:D),ds[j]? = some d->∃ v,vs[j]? = some v/\RdD w I d v
 |[],_,_=>⟨[],rfl,by simp,by simp⟩
 |x::ds,p,r=>by
  simp only[Zt] at r;obtain⟨⟨v,hv,r1⟩,r2⟩:=r;obtain⟨vs,hl,h1,h2⟩:=Zt.vals r2;refine⟨v::vs,by simp[hl],?_,?_⟩
  ·intro j u hu;cases j with
   |zero=>simp at hu;subst hu;simpa using hv
   |succ j=>have:=h1 j u (by simpa using hu);rwa[show p+(j+1)=p+1+j from by omega]
  ·intro j d hd;cases j with
   |zero=>simp at hd;subst hd;exact⟨v,by simp,r1⟩
   |succ j=>obtain⟨u,hu,hr⟩:=h2 j d (by simpa using hd);exact⟨u,by simpa using hu,hr⟩
theorem Zt.drop {w:World} {I:Nat->Prop} {c:Array Value}:∀ {n:Nat} {ds:List D} {p:Nat},Zt w I c p ds->Zt w I c (p+n) (ds.drop n)
 |0,_,_,r=>by simpa using r
 |n+1,[],_,_=>by simp[Zt]
 |n+1,d::ds,p,r=>by
  simp only[Zt] at r;have:=Zt.drop (n:=n) r.2;simpa[Nat.add_assoc,Nat.add_comm 1 n] using this
theorem ZM.get {w:World} {I:Nat->Prop} {c:Array Value} {sz:Nat}:∀ {xs:List (List D)} {p:Nat},ZM w I c sz p xs->∀ {i:Nat} {x:List D},xs[i]? = some x->x.length=sz/\Zt w I c (p+i*sz) x
 |[],_,_,i,x,h=>by simp at h
 |y::xs,p,r,i,x,h=>by
  simp only[ZM] at r;cases i with
  |zero=>simp at h;subst h;simpa using r.1
  |succ i=>
   have:=ZM.get r.2 (i:=i) (by simpa using h);refine⟨this.1,?_⟩
   rw[show p+(i+1)*sz=p+sz+i*sz from by rw[Nat.succ_mul];omega];exact this.2
theorem Zj.get {P:Program} {w:World} {I:Nat->Prop} {c:Array Value} {cts:List TypeId} {sz:Nat}:∀ {xs:List (List C)} {p:Nat} {F:List Nat},Zj P w I c cts sz xs p F->
  ∀ {i:Nat} {x:List C},xs[i]? = some x->∃ F',Zf P w I c x cts (p+i*sz) F'/\∀ b∈F',b∈F
 |[],_,_,_,i,x,h=>by simp at h
 |y::xs,p,F,r,i,x,h=>by
  simp only[Zj] at r;obtain⟨F1,F2,rfl,r1,r2⟩:=r;cases i with
  |zero=>simp at h;subst h;exact⟨F1,by simpa using r1,λb hb=>by simp[hb]⟩
  |succ i=>
   obtain⟨F',h1,h2⟩:=Zj.get r2 (i:=i) (by simpa using h);refine⟨F',?_,λb hb=>by simp[h2 b hb]⟩
   rwa[show p+(i+1)*sz=p+sz+i*sz from by rw[Nat.succ_mul];omega]
theorem Zf.get {P:Program} {w:World} {I:Nat->Prop} {c:Array Value}:∀ {xs:List C} {cts:List TypeId} {p:Nat} {F:List Nat},Zf P w I c xs cts p F->
  ∀ {j:Nat} {x:C},xs[j]? = some x->∃ ct v F',cts[j]? = some ct/\c[p+j]? = some v/\OwC P w I x ct v F'/\∀ b∈F',b∈F
 |[],_,_,_,_,j,x,h=>by simp at h
 |y::xs,cts,p,F,r,j,x,h=>by
  simp only[Zf] at r;obtain⟨ct,cts',v,F1,F2,rfl,rfl,hv,r1,r2⟩:=r;cases j with
  |zero=>simp at h;subst h;exact⟨ct,v,F1,by simp,by simpa using hv,r1,λb hb=>by simp[hb]⟩
  |succ j=>
   obtain⟨ct',v',F',h1,h2,h3,h4⟩:=Zf.get r2 (j:=j) (by simpa using h);exact⟨ct',v',F',by simpa using h1,by rwa[show p+(j+1)=p+1+j from by omega],h3,λb hb=>by simp[h4 b hb]⟩
section
variable {β:Type}
theorem dInt_some {q:IntKind} {d:D} {k:Int->Option β} {y:β} (h:dInt q d k=some y):∃ n,d=.int q n/\k n=some y:=by
 unfold dInt at h;split at h
 ·split at h
  ·subst_vars;exact⟨_,rfl,h⟩
  ·cases h
 ·cases h
theorem dBool_some {d:D} {k:Bool->Option β} {y:β} (h:dBool d k=some y):∃ b,d=.bool b/\k b=some y:=by
 unfold dBool at h;split at h
 ·exact⟨_,rfl,h⟩
 ·cases h
theorem dStr_some {d:D} {k:ByteArray->Option β} {y:β} (h:dStr d k=some y):∃ s,d=.str s/\k s=some y:=by
 unfold dStr at h;split at h
 ·exact⟨_,rfl,h⟩
 ·cases h
theorem dSl_some {d:D} {k:List (List D)->Option β} {y:β} (h:dSl d k=some y):∃ s,d=.sl s/\k s=some y:=by
 unfold dSl at h;split at h
 ·exact⟨_,rfl,h⟩
 ·cases h
theorem ZbC {α:Type} {l:List α} {k:α->List α->Option β} {y:β} (h:Zct l k=some y):∃ x r,l=x::r/\k x r=some y:=by
 unfold Zct at h;split at h
 ·exact⟨_,_,rfl,h⟩
 ·cases h
theorem atEnd_some {α:Type} {l:List α} {k:Option β} {y:β} (h:atEnd l k=some y):l=[]/\k=some y:=by
 unfold atEnd at h;split at h
 ·exact⟨rfl,h⟩
 ·cases h
theorem cD_some {c:C} {k:D->Option β} {y:β} (h:cD c k=some y):∃ d,c=.d d/\k d=some y:=by
 unfold cD at h;split at h
 ·exact⟨_,rfl,h⟩
 ·cases h
theorem Zcx {c:C} {k:List (List C)->Option β} {y:β} (h:cOwn c k=some y):∃ d,c=.own d/\k d=some y:=by
 unfold cOwn at h;split at h
 ·exact⟨_,rfl,h⟩
 ·cases h
theorem Zc4 {α:Type} {xs:List α} {i:Nat} {k:α->Option β} {y:β} (h:Za7 xs i k=some y):∃ x,xs[i]? = some x/\k x=some y:=by
 unfold Za7 at h;split at h
 ·exact⟨_,‹_›,h⟩
 ·cases h
theorem atRow_some {α:Type} {xs:List α} {i:Int} {k:α->Option β} {y:β} (h:Zam xs i k=some y):0<=i/\∃ x,xs[i.toNat]? = some x/\k x=some y:=by
 unfold Zam at h;split at h
 ·exact⟨‹_›,Zc4 h⟩
 ·cases h
theorem asKind_some {q:CK} {d:D} {k:D->Option β} {y:β} (h:asKind q d k=some y):k d=some y:=by
 unfold asKind at h;split at h
 ·obtain⟨n,rfl,h'⟩:=dInt_some h;exact h'
 ·obtain⟨n,rfl,h'⟩:=dBool_some h;exact h'
 ·obtain⟨n,rfl,h'⟩:=dStr_some h;exact h'
 ·obtain⟨n,rfl,h'⟩:=dSl_some h;exact h'
 ·cases h
theorem asCells_some:∀ {qs:List CK} {l:List D} {k:List D->Option β} {y:β},asCells qs l k=some y->k l=some y/\l.length=qs.length
 |[],l,k,y,h=>by
  simp only[asCells] at h;obtain⟨rfl,h⟩:=atEnd_some h;exact⟨h,rfl⟩
 |q::qs,l,k,y,h=>by
  simp only[asCells] at h;obtain⟨d,r,rfl,h'⟩:=ZbC h;obtain⟨h1,h2⟩:=asCells_some (asKind_some h');exact⟨h1,by simp[h2]⟩
theorem ZcI {x:T} {k:Int->Option β} {y:β} (h:asIntT x k=some y):∃ f q n,x=.d f (.int q n)/\k n=some y:=by
 unfold asIntT at h;split at h
 ·exact⟨_,_,_,rfl,h⟩
 ·cases h
theorem asCellsC_some {fr:Bool}:∀ {qs:List CK} {l:List C} {k:List T->Option β} {y:β},asCellsC fr qs l k=some y->
  ∃ ds:List D,k (ds.map (.d fr))=some y/\ds.length=qs.length/\l.take qs.length=ds.map .d
 |[],l,k,y,h=>by simp only[asCellsC] at h;exact⟨[],h,rfl,by simp⟩
 |q::qs,l,k,y,h=>by
  simp only[asCellsC] at h;obtain⟨c,r,rfl,h'⟩:=ZbC h;unfold asKindC at h';obtain⟨d,rfl,h''⟩:=cD_some h';obtain⟨ds,h1,h2,h3⟩:=asCellsC_some (asKind_some h'');exact⟨d::ds,h1,by simp[h2],by simp[h3]⟩
end
end Go.T
namespace Go.T
theorem Z9.obj {P:Program} {X:Fix} {w:World} {g:G} {stL st:St} {a:Act} {l:List Nat} (h:Z9 g stL st l) (hr:Rel P X w g stL a) {id:Nat} {o:Obj} (hid:id∈l) (ho:st.ob[id]? = some o):
  stL.ob[id]? = some o/\g.B id/\Zy P X w g id o:=by
 obtain⟨h1,h2⟩:=h id hid (by rw[ho];rfl);rw[ho] at h1;obtain⟨o',h3,h4⟩:=hr.obs id h2;rw[h1] at h3;injection h3 with h3;subst h3;exact⟨h1,h2,h4⟩
theorem ZbN {α:Type} {l:List α} {off n j:Nat} {x:α} (h:((l.drop off).take n)[j]? = some x):j<n/\l[off+j]? = some x:=by
 rw[List.getElem?_take] at h;split at h
 ·exact⟨‹_›,by simpa using h⟩
 ·cases h
theorem OwC.row {P:Program} {w:World} {I:Nat->Prop} {xs:List (List C)} {ct:TypeId} {v:Value} {F:List Nat} (h:OwC P w I (.own xs) ct v F):
  ∃ a cap,v=.slice a xs.length cap/\((xs=[]/\cap=0/\F=[])\/
    ∃ b o c e F',a=some ⟨b,o,none⟩/\(cutTy ct=false->o=0)/\F=b::F'/\w.heap[b]? = some (.cells c e (0,0))/\0<Zs P ct/\c.size=o+cap*Zs P ct/\xs.length<=cap/\
     Zj P w I c (ZX P ct) (Zs P ct) xs o F'):=by
 simpa only[OwC] using h
theorem OwC.row0 {P:Program} {w:World} {I:Nat->Prop} {xs:List (List C)} {ct:TypeId} {v:Value} {F:List Nat} (h:OwC P w I (.own xs) ct v F) (h0:cutTy ct=false):
  ∃ a cap,v=.slice a xs.length cap/\((xs=[]/\cap=0/\F=[])\/
    ∃ b c e F',a=some ⟨b,0,none⟩/\F=b::F'/\w.heap[b]? = some (.cells c e (0,0))/\0<Zs P ct/\c.size=cap*Zs P ct/\xs.length<=cap/\
     Zj P w I c (ZX P ct) (Zs P ct) xs 0 F'):=by
 obtain⟨a,cap,hv,h⟩:=OwC.row h;refine⟨a,cap,hv,?_⟩
 rcases h with h|⟨b,o,c,e,F',ha,ho,hF,hb,hz,hs,hl,r⟩
 ·exact .inl h
 ·obtain rfl:=ho h0;exact .inr ⟨b,c,e,F',ha,hF,hb,hz,Om,hl,r⟩
theorem OwC.mk0 {P:Program} {w:World} {I:Nat->Prop} {xs:List (List C)} {ct:TypeId} {v:Value} {F:List Nat} (h:∃ a cap,v=.slice a xs.length cap/\((xs=[]/\cap=0/\F=[])\/
    ∃ b c e F',a=some ⟨b,0,none⟩/\F=b::F'/\w.heap[b]? = some (.cells c e (0,0))/\0<Zs P ct/\c.size=cap*Zs P ct/\xs.length<=cap/\
     Zj P w I c (ZX P ct) (Zs P ct) xs 0 F')):OwC P w I (.own xs) ct v F:=by
 obtain⟨a,cap,hv,h⟩:=h;simp only[OwC]
 refine⟨a,cap,hv,?_⟩
 rcases h with h|⟨b,c,e,F',ha,hF,hb,hz,hs,hl,r⟩
 ·exact .inl h
 ·exact .inr ⟨b,0,c,e,F',ha,λ_=>rfl,hF,hb,hz,Om,hl,r⟩
theorem load_fbx {β:Type} {P:Program} {st:St} {t:TypeId} {id off:Nat} {fr:Bool} {ds:List D} {k:T->Option β} {r:β} (h0:0<P.cellsOf t) (h1:Z4 P t=false->P.cellsOf t=1) (hu:(P.underlying t).isSome=true)
  (h:(if Z4 P t then(if off+P.cellsOf t<=ds.length then k (.agg (((ds.drop off).take (P.cellsOf t)).map (.d fr))) else none)
   else match ds[off]? with
    |some c=>k (.d fr c)
    |none=>none)=some r) (ho:st.ob[id]? = some (.fbx fr ds)):
  ∃ u,k u=some r/\∀ (X:Fix) (w:World) (g:G) (stL:St) (act:Act) (va:Value),Rel P X w g stL act->Zi X w g (.bp id off) va->Z9 g stL st (ZO st (.bp id off))->
   ∃ v,(Instr.loadAt t va).run P w=.ok v w/\Zi X w g u v:=by
 split at h
 ·rename_i hg;split at h;case isFalse=>cases h
  rename_i hlen;refine⟨_,h,λX w g stL act va hr ra hs=>?_⟩
  obtain⟨_,hB,⟨b',c,e,f,hh,hI,hb',rc⟩,_⟩:=hs.obj hr (by simp[ZO]) ho;simp only[Zi] at ra;obtain⟨_,b,hh',rfl⟩:=ra;rw[hh] at hh';injection hh' with hh';injection hh' with hh';injection hh' with hh' _ _;subst hh';obtain⟨vs,hvl,hv1,hv2⟩:=Zt.vals rc;have hl:((vs.drop off).take (P.cellsOf t)).length=P.cellsOf t:=by simp;omega
  refine⟨_,Za8 hb' hu _ hl h0 h1 (λj v hv=>?_),?_⟩
  ·have:=hv1 _ _ (ZbN hv).2;simpa using this
  ·simp only[hg,if_true,Zi]
   refine⟨_,rfl,Zo.mk (by simp[hvl]) λj u hu'=>?_⟩
   rw[List.getElem?_map] at hu';obtain⟨d,hd,rfl⟩:=Option.map_eq_some_iff.mp hu';obtain⟨hj,hd⟩:=ZbN hd;obtain⟨v,hv,rv⟩:=hv2 _ d hd;refine⟨rfl,v,?_,by simpa only[Zi] using rv⟩
   rw[List.getElem?_take,if_pos hj];simpa using hv
 ·rename_i hg;have hg':Z4 P t=false:=by simpa using hg
  split at h;case h_2=>cases h
  rename_i d hd;refine⟨_,h,λX w g stL act va hr ra hs=>?_⟩
  obtain⟨_,hB,⟨b',c,e,f,hh,hI,hb',rc⟩,_⟩:=hs.obj hr (by simp[ZO]) ho;simp only[Zi] at ra;obtain⟨_,b,hh',rfl⟩:=ra;rw[hh] at hh';injection hh' with hh';injection hh' with hh';injection hh' with hh' _ _;subst hh';obtain⟨v,hv,rv⟩:=Zt.get rc hd;refine⟨_,Za8 hb' hu [v] (by simp[h1 hg']) h0 h1 (λj x hx=>?_),?_⟩
  ·cases j with
   |zero=>simp at hx;subst hx;simpa using hv
   |succ j=>simp at hx
  ·simpa[hg',Zi] using rv
theorem load_sound {β:Type} {P:Program} {st:St} {t:TypeId} {a:T} {k:T->Option β} {r:β} (h:loadDen P st t a k=some r):
  ∃ u,k u=some r/\∀ (X:Fix) (w:World) (g:G) (stL:St) (act:Act) (va:Value),Rel P X w g stL act->Zi X w g a va->Z9 g stL st (ZO st a)->
   ∃ v,(Instr.loadAt t va).run P w=.ok v w/\Zi X w g u v:=by
 unfold loadDen at h;split at h;case isFalse=>cases h
 rename_i hc;obtain⟨hu,h0,hfl,h1⟩:=hc;split at h
 ·-- a box
  rename_i id off;split at h;case h_3=>cases h
  case h_2=>
   rename_i fr ds ho;exact load_fbx h0 h1 hu h ho
  rename_i og bt cs ho;split at h
  ·rename_i hg;split at h;case isFalse=>cases h
   rename_i hlen;refine⟨_,h,λX w g stL act va hr ra hs=>?_⟩
   obtain⟨_,hB,⟨b',c,e,hh,hfp,hb',rc⟩,_⟩:=hs.obj hr (by simp[ZO]) ho;simp only[Zi] at ra;obtain⟨_,b,hh',rfl⟩:=ra;rw[hh] at hh';injection hh' with hh';injection hh' with hh';injection hh' with hh' _ _;subst hh';have hcl:=Zo.length rc;have hl:((c.toList.drop off).take (P.cellsOf t)).length=P.cellsOf t:=by simp at hcl⊢;omega
   refine⟨_,Za8 hb' hu _ hl h0 h1 (λj v hv=>?_),?_⟩
   ·have:=(ZbN hv).2;simpa using this
   ·simp only[hg,if_true,Zi]
    refine⟨_,rfl,Zo.mk (by simp at hl⊢;omega) λj u hu'=>?_⟩
    obtain⟨hj,hu'⟩:=ZbN hu';obtain⟨hs1,v,hv,rv⟩:=Zo.get rc hu';refine⟨hs1,v,?_,rv⟩
    rw[List.getElem?_take,if_pos hj];simpa using hv
  ·rename_i hg;have hg':Z4 P t=false:=by simpa using hg
   split at h;case h_2=>cases h
   rename_i u hcu;refine⟨_,h,λX w g stL act va hr ra hs=>?_⟩
   obtain⟨_,hB,⟨b',c,e,hh,hfp,hb',rc⟩,_⟩:=hs.obj hr (by simp[ZO]) ho;simp only[Zi] at ra;obtain⟨_,b,hh',rfl⟩:=ra;rw[hh] at hh';injection hh' with hh';injection hh' with hh';injection hh' with hh' _ _;subst hh';obtain⟨hs1,v,hv,rv⟩:=Zo.get rc hcu;refine⟨_,Za8 hb' hu [v] (by simp[h1 hg']) h0 h1 (λj x hx=>?_),?_⟩
   ·cases j with
    |zero=>simp at hx;subst hx;simpa using hv
    |succ j=>simp at hx
   ·simpa[hg'] using rv
 ·-- immutable cells
  rename_i fr ds;split at h
  ·rename_i hg;split at h;case isFalse=>cases h
   rename_i hlen;refine⟨_,h,λX w g stL act va hr ra hs=>?_⟩
   simp only[Zi] at ra;obtain⟨b,off,c,e,f,rfl,hI,hb,rc⟩:=ra;obtain⟨vs,hvl,hv1,hv2⟩:=Zt.vals rc;refine⟨_,Za8 hb hu (vs.take (P.cellsOf t)) (by simp[hvl];omega) h0 h1 (λj v hv=>?_),?_⟩
   ·rw[List.getElem?_take] at hv;split at hv
    ·exact hv1 j v hv
    ·cases hv
   ·simp only[hg,if_true,Zi]
    refine⟨_,rfl,Zo.mk (by simp[hvl]) λj u hu'=>?_⟩
    rw[List.getElem?_map] at hu';obtain⟨d,hd,rfl⟩:=Option.map_eq_some_iff.mp hu';rw[List.getElem?_take] at hd;split at hd
    ·rename_i hj;obtain⟨v,hv,rv⟩:=hv2 j d hd;refine⟨rfl,v,by rw[List.getElem?_take,if_pos hj];exact hv,?_⟩
     simpa only[Zi] using rv
    ·cases hd
  ·rename_i hg;have hg':Z4 P t=false:=by simpa using hg
   split at h;case h_2=>cases h
   rename_i d ds';refine⟨_,h,λX w g stL act va hr ra hs=>?_⟩
   simp only[Zi] at ra;obtain⟨b,off,c,e,f,rfl,hI,hb,rc⟩:=ra;obtain⟨v,hv,rv⟩:=Zt.get rc (j:=0) (d:=d) Sp;refine⟨_,Za8 hb hu [v] (by simp[h1 hg']) h0 h1 (λj x hx=>?_),?_⟩
   ·cases j with
    |zero=>simp at hx;subst hx;simpa using hv
    |succ j=>simp at hx
   ·simpa[hg',Zi] using rv
 ·-- an element of an own row
  rename_i id i off;split at h;case h_2=>cases h
  rename_i og fr rt xs ho;split at h
  ·rename_i hk;split at h;case isFalse=>cases h
   rename_i hoff;refine⟨_,h,λX w g stL act va hr ra hs=>?_⟩
   obtain⟨_,hB,⟨row,hsz⟩,_⟩:=hs.obj hr (by simp[ZO]) ho;simp only[Zi] at ra;obtain⟨_,b,o,len,cap,hh,hi,rfl⟩:=ra;obtain⟨a',cap',hv',hrow⟩:=OwC.row row;rw[hh] at hv';injection hv' with e1 e2 e3;subst e1 e2 e3;rcases hrow with⟨rfl,_,_⟩|⟨b',o',c,e,F',ea,ho0,hF,hb',hz,hcs,hle,rows⟩
   ·simp at hi
   ·injection ea with ea;injection ea with ea eo _;subst ea eo;have hlt:o+(i*Zs P rt+off)<c.size:=by
     have h3:off<(ZX P rt).length:=(List.getElem?_eq_some_iff.mp hoff.1).1;rw[hoff.2] at h3;have h4:i*Zs P rt+Zs P rt<=cap*Zs P rt:=by rw[<- Nat.succ_mul];exact Nat.mul_le_mul_right _ Om
     omega
    have hg':Z4 P t=false:=by
     unfold Zaj at hk;unfold Z4;split at hk<;>first|(rename_i hq;rw[hq])|cases hk
    rw[hsz];refine⟨_,Za8 hb' hu [c[o+(i*Zs P rt+off)]] (by simp[h1 hg']) h0 h1 (λj x hx=>?_),?_⟩
    ·cases j with
     |zero=>simp at hx;subst hx;simp[hlt]
     |succ j=>simp at hx
    ·simp only[hg',Bool.false_eq_true,if_false,List.headD_cons,Zi]
     exact⟨hB,b,o,xs.length,cap,c,e,(0,0),hh,by rw[hF];simp,hb',by rw[hsz];simp[hlt]⟩
  ·rename_i hk;split at h;case isFalse=>cases h
   rename_i hoff;obtain⟨x,hx,h⟩:=Zc4 h;obtain⟨ds,hk',hdl,hdt⟩:=asCellsC_some h;refine⟨_,hk',λX w g stL act va hr ra hs=>?_⟩
   obtain⟨_,hB,⟨row,hsz⟩,_⟩:=hs.obj hr (by simp[ZO]) ho;simp only[Zi] at ra;obtain⟨_,b,o,len,cap,hh,hi,rfl⟩:=ra;obtain⟨a',cap',hv',hrow⟩:=OwC.row row;rw[hh] at hv';injection hv' with e1 e2 e3;subst e1 e2 e3;rcases hrow with⟨rfl,_,_⟩|⟨b',o',c,e,F',ea,ho0,hF,hb',hz,hcs,hle,rows⟩
   ·simp at hi
   ·injection ea with ea;injection ea with ea eo _;subst ea eo;obtain⟨Fx,cells,_⟩:=Zj.get rows hx;have hkl:(ZaC P t).length=P.cellsOf t:=by simp[ZaC,hfl]
    have get:∀ j d,ds[j]? = some d->∃ v,c[o+(i*Zs P rt+off)+j]? = some v/\RdD w (g.IM X fr) d v:=by
     intro j d hd;have h5:((x.drop off).take (ZaC P t).length)[j]? = some (.d d):=by rw[hdt];simp[hd]
     obtain⟨_,h6⟩:=ZbN h5;obtain⟨ct,v,F1,_,hv,ow,_⟩:=Zf.get cells h6;simp only[OwC] at ow;exact⟨v,by rw[<- hv];congr 1;omega,ow.2⟩
    have:∃ vs:List Value,vs.length=ds.length/\∀ (j:Nat) (d:D),ds[j]? = some d->∃ v,vs[j]? = some v/\c[o+(i*Zs P rt+off)+j]? = some v/\RdD w (g.IM X fr) d v:=by
     clear hk' hdl hdt h;have gen:∀ (ds:List D) (n:Nat),(∀ j d,ds[j]? = some d->∃ v,c[n+j]? = some v/\RdD w (g.IM X fr) d v)->
       ∃ vs:List Value,vs.length=ds.length/\∀ (j:Nat) (d:D),ds[j]? = some d->∃ v,vs[j]? = some v/\c[n+j]? = some v/\RdD w (g.IM X fr) d v:=by
      intro ds;induction ds with
      |nil=>intro n _;exact⟨[],rfl,by simp⟩
      |cons d ds ih=>
       intro n hget;obtain⟨v,hv,rv⟩:=hget 0 d Sp;obtain⟨vs,hl,hvs⟩:=ih (n+1) (λj d' hd=>by have:=hget (j+1) d' (by simpa using hd);rwa[show n+1+j=n+(j+1) from by omega]);refine⟨v::vs,by simp[hl],λj d' hd=>?_⟩
       cases j with
       |zero=>simp at hd;subst hd;exact⟨v,by simp,by simpa using hv,rv⟩
       |succ j=>
        obtain⟨u,h1,h2,h3⟩:=hvs j d' (by simpa using hd);exact⟨u,by simpa using h1,by rwa[show n+(j+1)=n+1+j from by omega],h3⟩
     exact gen ds _ get
    obtain⟨vs,hvl,hvs⟩:=this;rw[hsz];have hvl':vs.length=P.cellsOf t:=by rw[hvl,hdl,hkl]
    refine⟨_,Za8 hb' hu vs hvl' h0 h1 (λj v hv=>?_),?_⟩
    ·have hj:j<ds.length:=by rw[<- hvl];exact(List.getElem?_eq_some_iff.mp hv).1
     obtain⟨u,h1',h2',_⟩:=hvs j ds[j] (by simp[hj]);rw[hv] at h1';injection h1' with h1';subst h1';exact h2'
    ·unfold wrapT;have rel:Zo X w g (ds.map (.d fr)) vs:=Zo.mk (by simp[hvl]) λj u hu'=>by
      rw[List.getElem?_map] at hu';obtain⟨d,hd,rfl⟩:=Option.map_eq_some_iff.mp hu';obtain⟨v,h1',_,rv⟩:=hvs j d hd;exact⟨rfl,v,h1',by simpa only[Zi] using rv⟩
     cases hg:Z4 P t with
     |true=>simp only[if_true,Zi];exact⟨vs,rfl,rel⟩
     |false=>
      have hone:=h1 hg;rw[hone] at hvl'
      match vs,ds,hvl',hvl,rel with
      |[v],[d],_,_,rel=>
       simp only[List.map_cons,List.map_nil,Zo] at rel;obtain⟨v',vs',hv,_,rv,hn⟩:=rel;simp at hv;obtain⟨rfl,_⟩:=hv;simpa using rv
 ·cases h
end Go.T
namespace Go.T
theorem Zda {P:Program} {s:TypeId} {fs:List (Nat×Nat×Bool)} (h:Zbi P s=some fs) {f off n:Nat} {g:Bool} (hf:fs[f]? = some (off,n,g)):
  ∃ fields fld,P.underlying s=some (.struct fields)/\fields[f]? = some fld/\off=fld.offset/\n=P.cellsOf fld.type/\g=Z4 P fld.type/\(P.underlying fld.type).isSome=true:=by
 unfold Zbi at h;split at h
 ·rename_i fields hu;split at h
  ·rename_i hall;injection h with h;subst h;rw[List.getElem?_map] at hf;obtain⟨fld,hfl,he⟩:=Option.map_eq_some_iff.mp hf;injection he with e1 e2;injection e2 with e2 e3;refine⟨fields,fld,hu,by simpa using hfl,e1.symm,e2.symm,e3.symm,?_⟩
   rw[List.all_eq_true] at hall;exact hall fld (List.mem_of_getElem? hfl)
  ·cases h
 ·cases h
theorem run_fieldAt {P:Program} {s:TypeId} {fields:Array Field} {fld:Field} {f b off:Nat} (hu:P.underlying s=some (.struct fields)) (hf:fields[f]? = some fld) (h0:0<P.cellsOf fld.type) (w:World):
  (Instr.fieldAt s (.pointer (some ⟨b,off,none⟩)) f).run P w=.ok (.pointer (some ⟨b,off+fld.offset,none⟩)) w:=by
 show(Sem.bind (underlying s) _).run P w=_;rw[Zz,Zk hu];simp only[hf]
 show(Sem.bind (Instr.sureAddr _) _).run P w=_;rw[Zz];show(Sem.bind (fieldPlace ⟨b,off,none⟩ fld) _).run P w=_;rw[Zz];have:(fieldPlace ⟨b,off,none⟩ fld).run P w=.ok ⟨b,off+fld.offset,none⟩ w:=by
  show(Sem.bind (sizeOf fld.type) _).run P w=_;rw[Zz,Zb9 h0];simp only[show ¬ P.cellsOf fld.type=0 from by omega,if_false]
  rw[ZbW];rfl
 rw[this];rfl
theorem run_field {P:Program} {s:TypeId} {fields:Array Field} {fld:Field} {f:Nat} {cs:List Value} (hu:P.underlying s=some (.struct fields)) (hf:fields[f]? = some fld) (h0:0<P.cellsOf fld.type)
  (hg:(P.underlying fld.type).isSome=true) (hl:fld.offset+P.cellsOf fld.type<=cs.length) (w:World):
  (Instr.field s (.agg cs.toArray) f).run P w=.ok (if Z4 P fld.type then .agg ((cs.drop fld.offset).take (P.cellsOf fld.type)).toArray else(cs.drop fld.offset).headD Go.undef) w:=by
 show(Sem.bind (underlying s) _).run P w=_;rw[Zz,Zk hu];simp only[hf]
 show(Sem.bind (isAgg fld.type) _).run P w=_;rw[Zz,run_isAgg hg];cases Z4 P fld.type with
 |true=>
  simp only[if_true]
  show(Sem.bind (sizeOf fld.type) _).run P w=_;rw[Zz,Zb9 h0];show Result.ok (Value.agg (cs.toArray.extract fld.offset (fld.offset+P.cellsOf fld.type))) w=_;have:cs.toArray.extract fld.offset (fld.offset+P.cellsOf fld.type)=((cs.drop fld.offset).take (P.cellsOf fld.type)).toArray:=by
   apply Array.ext';simp
  rw[this]
 |false=>
  simp only[Bool.false_eq_true,if_false]
  have:fld.offset<cs.length:=by omega
  have h1:cs.toArray[fld.offset]? = some cs[fld.offset]:=by simp[this]
  rw[h1];show Result.ok _ w=_;congr 1;rw[List.drop_eq_getElem_cons this];rfl
theorem run_asIntOf {P:Program} {k:IntKind} {n:Int} (w:World):(asIntOf (.int k n)).run P w=.ok (k,n) w:=rfl
theorem ZaS {P:Program} {t e:TypeId} (h:Zaq P t=some e):P.underlying t=some (.slice e):=by
 unfold Zaq at h;split at h
 ·split at h
  ·injection h with h;subst h;assumption
  ·cases h
 ·cases h
theorem run_indexAt {P:Program} {t e:TypeId} {k:IntKind} {n:Int} {b off len cap:Nat} (hu:P.underlying t=some (.slice e)) (h0:0<P.cellsOf e) (h1:0<=n) (h2:n<len) (w:World):
  (Instr.indexAt t (.slice (some ⟨b,off,none⟩) len cap) (.int k n)).run P w=.ok (.pointer (some ⟨b,off+n.toNat*P.cellsOf e,none⟩)) w:=by
 show(Sem.bind (asIntOf _) _).run P w=_;rw[Zz,run_asIntOf];show(Sem.bind (underlying t) _).run P w=_;rw[Zz,Zk hu];show(Sem.bind (underlying t) _).run P w=_;rw[Zz,Zk hu];simp only[Bool.and_false,h1,h2,and_self,if_true]
 show(Sem.bind (sizeOf e) _).run P w=_;rw[Zz,Zb9 h0];show Result.ok (Value.pointer (some ((⟨b,off,none⟩:Addr).add (n.toNat*P.cellsOf e)))) w=_;rw[ZbW]
theorem indexAddr_sound {β:Type} {P:Program} {st:St} {t:TypeId} {x i:T} {k:T->Option β} {r:β} (h:indexAddrDen P st t x i k=some r):
  ∃ u,k u=some r/\∀ (X:Fix) (w:World) (g:G) (stL:St) (act:Act) (vx vi:Value),Rel P X w g stL act->Zi X w g x vx->Zi X w g i vi->Z9 g stL st (ZO st x)->
   ∃ v,(Instr.indexAt t vx vi).run P w=.ok v w/\Zi X w g u v:=by
 unfold indexAddrDen at h;split at h
 ·cases h
 rename_i e he;have hu:=ZaS he;split at h;case isFalse=>cases h
 rename_i hc;obtain⟨h0,hfl⟩:=hc;obtain⟨f,q,n,rfl,h'⟩:=ZcI h;clear h;have imm:∀ (fr:Bool) (xs:List (List D)) ,(Zam xs n λc=>asCells (ZaC P e) c λds=>k (.ip fr ds))=some r->
   ∃ u,k u=some r/\∀ (X:Fix) (w:World) (g:G) (vx vi:Value),RdD w (g.IM X fr) (.sl xs) vx->Zi X w g (.d f (.int q n)) vi->
   ∃ v,(Instr.indexAt t vx vi).run P w=.ok v w/\Zi X w g u v:=by
  intro fr xs h;obtain⟨hn,c,hc,h⟩:=atRow_some h;obtain⟨h,hl⟩:=asCells_some h;refine⟨_,h,λX w g vx vi rx ri=>?_⟩
  obtain rfl:=Zi.scal_eq (d:=.int q n) rfl ri;simp only[RdD] at rx;obtain⟨a,len,cap,rfl,rfl,hcap,rx⟩:=rx;rcases rx with rfl|⟨b,off,cc,ee,ff,sz,rfl,hI,hb,hsz,rows⟩
  ·simp at hc
  ·obtain⟨hcl,cells⟩:=ZM.get rows hc;have hlt:n.toNat<xs.length:=(List.getElem?_eq_some_iff.mp hc).1;have hse:sz=P.cellsOf e:=by rw[<- hcl,hl];simp[ZaC,hfl]
   refine⟨_,run_indexAt (k:=q) hu h0 hn Om w,?_⟩
   simp only[Zi]
   exact⟨b,_,cc,ee,ff,rfl,hI,hb,by rw[<- hse];exact cells⟩
 split at h'
 ·rename_i fr xs;obtain⟨u,hk,hrun⟩:=imm fr xs h';refine⟨u,hk,λX w g stL act vx vi hr rx ri hs=>hrun X w g vx vi ?_ ri⟩
  simpa only[Zi] using rx
 ·rename_i id;split at h'
  ·rename_i og fr rt xs ho;split at h';case isFalse=>cases h'
   rename_i hsz;obtain⟨hn,h⟩:=ZB h';refine⟨_,h,λX w g stL act vx vi hr rx ri hs=>?_⟩
   obtain rfl:=Zi.scal_eq (d:=.int q n) rfl ri;obtain⟨_,hB,⟨row,hgs⟩,_⟩:=hs.obj hr (by simp[ZO]) ho;simp only[Zi] at rx;obtain⟨_,rfl⟩:=rx;obtain⟨a,cap,hv,hrow⟩:=OwC.row row;rcases hrow with⟨rfl,_,_⟩|⟨b,o,c,e',F',ea,ho0,hF,hb,hz,hcs,hle,rows⟩
   ·simp at hn;omega
   ·subst ea;rw[hv];refine⟨_,run_indexAt (k:=q) hu h0 hn.1 Om w,?_⟩
    simp only[Zi]
    refine⟨hB,b,o,xs.length,cap,hv,Om,?_⟩
    rw[hgs,hsz];simp
  ·rename_i fr xs ho;obtain⟨u,hk,hrun⟩:=imm fr xs h';refine⟨u,hk,λX w g stL act vx vi hr rx ri hs=>?_⟩
   obtain⟨_,hB,hrd⟩:=hs.obj hr (by simp[ZO]) ho;simp only[Zi] at rx;obtain⟨_,rfl⟩:=rx;exact hrun X w g _ vi hrd.1 ri
  ·cases h'
 ·cases h'
theorem run_index {P:Program} {t:TypeId} {q:IntKind} {n:Int} {s:ByteArray} {b:UInt8} (hu:P.underlying t=some .string) (hn:0<=n) (hb:s[n.toNat]? = some b) (w:World):
  (Instr.index t (.string s) (.int q n)).run P w=.ok (.int .u8 b.toNat) w:=by
 show(Sem.bind (asIntOf _) _).run P w=_;rw[Zz,run_asIntOf];show(Sem.bind (underlying t) _).run P w=_;rw[Zz,Zk hu];simp only[hn,if_true,hb]
 rfl
theorem ZbE {P:Program} {t:TypeId} (h:Zaj P t=.str):P.underlying t=some .string:=by
 unfold Zaj at h;split at h<;>first|assumption|cases h
theorem Zca {P:Program} {t:TypeId} (h:Zaj P t=.sl):∃ e,P.underlying t=some (.slice e):=by
 unfold Zaj at h;split at h<;>first|(exact⟨_,by assumption⟩)|cases h
theorem ZcX {P:Program} {t:TypeId} {q:IntKind} (h:Zaj P t=.int q):P.underlying t=some (.int q):=by
 unfold Zaj at h;split at h<;>first|(injection h with h;subst h;assumption)|cases h
theorem index_sound {β:Type} {P:Program} {t:TypeId} {x i:T} {k:T->Option β} {r:β} (h:indexDen P t x i k=some r):
  ∃ d,k (.d true d)=some r/\Zak d=true/\∀ (X:Fix) (w:World) (g:G) (vx vi:Value),Zi X w g x vx->Zi X w g i vi->(Instr.index t vx vi).run P w=.ok (ZaJ d) w:=by
 unfold indexDen at h;split at h
 ·rename_i f s;split at h
  ·rename_i hk;obtain⟨f',q,n,rfl,h'⟩:=ZcI h;clear h;unfold atStr at h';split at h'
   ·rename_i hn;split at h'
    ·rename_i b hb;refine⟨_,h',rfl,λX w g vx vi rx ri=>?_⟩
     obtain rfl:=Zi.scal_eq (d:=.int q n) rfl ri;obtain rfl:=Zi.scal_eq (d:=.str s) rfl rx;exact run_index (ZbE hk) hn hb w
    ·cases h'
   ·cases h'
  ·cases h
 ·cases h
theorem Zbt {P:Program} {t ty e:TypeId} {a:Option Addr} {len cap:Nat} (hu:P.underlying t=some (.slice e)) (w:World):
  (Builtin.len_ #[t] ty #[.slice a len cap]).run P w=.ok (.int .i64 len) w:=by
 show(Sem.bind (underlying t) _).run P w=_;rw[Zz,Zk hu];rfl
theorem run_len_str {P:Program} {t ty:TypeId} {s:ByteArray} (hu:P.underlying t=some .string) (w:World):
  (Builtin.len_ #[t] ty #[.string s]).run P w=.ok (.int .i64 s.size) w:=by
 show(Sem.bind (underlying t) _).run P w=_;rw[Zz,Zk hu];rfl
theorem sub_cell {P:Program} {X:Fix} {w:World} {g:G} {stL st:St} {act:Act} {id i off:Nat} {og:Option Nat} {fr:Bool} {rt:TypeId} {xs:List (List C)} {c:List C} {x:C} {rest:List C} {v:Value}
  (hr:Rel P X w g stL act) (hs:Z9 g stL st [id]) (ho:st.ob[id]? = some (.row og fr rt xs)) (hc:xs[i]? = some c) (hd:c.drop off=x::rest) (rv:Zi X w g (.sub id i off) v):
  ∃ ct F',OwC P w (g.IM X fr) x ct v F'/\(ZX P rt)[off]? = some ct/\∀ b∈F',b∈g.fp id:=by
 obtain⟨_,hB,⟨row,hgs⟩,_⟩:=hs.obj hr Sp ho;simp only[Zi] at rv;obtain⟨_,b,o,len,cap,cc,e,f,hh,hfp,hb,hv⟩:=rv;obtain⟨a',cap',hv',hrow⟩:=OwC.row row;rw[hh] at hv';injection hv' with e1 e2 e3;subst e1 e2 e3;rcases hrow with⟨rfl,_,_⟩|⟨b',o',c',e',F',ea,ho0,hF,hb',hz,hcs,hle,rows⟩
 ·simp at hc
 ·injection ea with ea;injection ea with ea eo _;subst ea eo;rw[hb] at hb';injection hb' with hb';injection hb' with hb' _ _;subst hb';obtain⟨Fx,cells,hFx⟩:=Zj.get rows hc;have hx:c[off]? = some x:=by
   have:=congrArg (·[0]?) hd;simpa using this
  obtain⟨ct,v',F1,hct,hv',ow,hF1⟩:=Zf.get cells hx;rw[hgs] at hv;have:v'=v:=by
   rw[show o+i*Zs P rt+off=o+(i*Zs P rt+off) from by omega] at hv';rw[hv'] at hv;exact Option.some.inj hv
  subst this;exact⟨ct,F1,ow,hct,λz hz=>by rw[hF];exact List.mem_cons_of_mem _ (hFx z (hF1 z hz))⟩
theorem subD_some {β:Type} {st:St} {id i off:Nat} {k:Bool->List (List D)->Option β} {y:β} (h:subD st id i off k=some y):
  ∃ og fr rt xs c x rest ys,st.ob[id]? = some (.row og fr rt xs)/\xs[i]? = some c/\c.drop off=x::rest/\x.imm=.sl ys/\k fr ys=some y:=by
 unfold subD at h;split at h
 ·rename_i og fr rt xs ho;obtain⟨c,hc,h⟩:=Zc4 h;obtain⟨x,rest,hd,h⟩:=ZbC h;obtain⟨ys,hy,h⟩:=dSl_some h;exact⟨og,fr,rt,xs,c,x,rest,ys,ho,hc,hd,hy,h⟩
 ·cases h
theorem len_sound {β:Type} {P:Program} {st:St} {t ty:TypeId} {x:T} {k:T->Option β} {r:β} (h:lenDen P st t x k=some r):
  ∃ d,k (.d true d)=some r/\Zak d=true/\∀ (X:Fix) (w:World) (g:G) (stL:St) (act:Act) (vx:Value),Rel P X w g stL act->Zi X w g x vx->Z9 g stL st (ZO st x)->
   (Builtin.len_ #[t] ty #[vx]).run P w=.ok (ZaJ d) w:=by
 unfold lenDen at h;split at h
 ·rename_i f s hk;refine⟨_,h,rfl,λX w g stL act vx hr rx hs=>?_⟩
  obtain rfl:=Zi.scal_eq (d:=.str s) rfl rx;exact run_len_str (ZbE hk) w
 ·rename_i f xs hk;obtain⟨e,hu⟩:=Zca hk;refine⟨_,h,rfl,λX w g stL act vx hr rx hs=>?_⟩
  simp only[Zi,RdD] at rx;obtain⟨a,len,cap,rfl,rfl,_⟩:=rx;exact Zbt hu w
 ·rename_i hk;obtain⟨e,hu⟩:=Zca hk;refine⟨_,h,rfl,λX w g stL act vx hr rx hs=>?_⟩
  simp only[Zi] at rx;obtain⟨a,rfl⟩:=rx;exact Zbt hu w
 ·rename_i id hk;obtain⟨e,hu⟩:=Zca hk;split at h
  ·rename_i og fr rt xs ho;refine⟨_,h,rfl,λX w g stL act vx hr rx hs=>?_⟩
   obtain⟨_,hB,⟨row,hgs⟩,_⟩:=hs.obj hr (by simp[ZO]) ho;simp only[Zi] at rx;obtain⟨_,rfl⟩:=rx;obtain⟨a,cap,hv,_⟩:=OwC.row row;rw[hv];exact Zbt hu w
  ·rename_i fr xs ho;refine⟨_,h,rfl,λX w g stL act vx hr rx hs=>?_⟩
   obtain⟨_,hB,hrd⟩:=hs.obj hr (by simp[ZO]) ho;simp only[Zi] at rx;obtain⟨_,rfl⟩:=rx;simp only[Zy,RdD] at hrd;obtain⟨⟨a,len,cap,hv,rfl,_⟩,_⟩:=hrd;rw[hv];exact Zbt hu w
  ·cases h
 ·rename_i id i off hk;obtain⟨e,hu⟩:=Zca hk;obtain⟨og,fr,rt,xs,c,x,rest,ys,ho,hc,hd,hy,h⟩:=subD_some h;refine⟨_,h,rfl,λX w g stL act vx hr rx hs=>?_⟩
  obtain⟨ct,F',ow,_,_⟩:=sub_cell hr (by simpa[ZO] using hs) ho hc hd rx;cases x with
  |d dd=>
   simp only[C.imm] at hy;subst hy;simp only[OwC,RdD] at ow;obtain⟨_,a,len,cap,rfl,rfl,_⟩:=ow;exact Zbt hu w
  |own zs=>
   simp only[C.imm] at hy;injection hy with hy;subst hy;obtain⟨a,cap,rfl,_⟩:=OwC.row ow;rw[C.immRows_length];exact Zbt hu w
 ·cases h
end Go.T
namespace Go.T
theorem Zy.mono {P:Program} {X:Fix} {w w':World} {g g':G} {S:Nat->Prop} (h:Ext w w' g g' S) {id:Nat} {o:Obj} (hB:g.B id) (hfp:g'.fp id=g.fp id)
  (hS:∀ b,b∈g.fp id->¬ S b/\b<w.heap.size) (r:Zy P X w g id o):Zy P X w' g' id o:=by
 cases o with
 |box og t cs=>
  simp only[Zy] at r⊢;obtain⟨⟨b,c,e,hh,hf,hb,rc⟩,ho⟩:=r;obtain⟨h1,h2⟩:=hS b (by simp[hf]);exact⟨⟨b,c,e,by rw[h.hv id hB];exact hh,by rw[hfp];exact hf,by rw[h.same b h2 h1];exact hb,Zo.mono h rc⟩,λj hj=>by rw[h.hv id hB];exact ho j hj⟩
 |row og fr ct xs=>
  simp only[Zy] at r⊢;obtain⟨⟨row,hz⟩,hfr,ho⟩:=r;refine⟨⟨?_,by rw[h.sz id hB];exact hz⟩,by rw[hfp];exact hfr,λj hj=>by rw[h.hv id hB];exact ho j hj⟩
  rw[h.hv id hB,hfp];exact OwC.mono ⟨h.keeps fr,λb hb=>by obtain⟨h1,h2⟩:=hS b hb;exact h.same b h2 h1⟩ row
 |frz fr xs=>
  simp only[Zy] at r⊢;rw[h.hv id hB,hfp];exact⟨RdD.mono (h.keeps fr) r.1,r.2⟩
 |fbx fr cs=>
  simp only[Zy] at r⊢;obtain⟨⟨b,c,e,f,hh,hI,hb,rc⟩,hf⟩:=r;rw[h.hv id hB,hfp];exact⟨⟨b,c,e,f,hh,h.imp b hI,by rw[h.same b (h.lt b hI) (h.notS b hI)];exact hb,Zt.mono (h.keeps fr) rc⟩,hf⟩
 |gone=>simp only[Zy] at r⊢;rw[hfp,h.hv id hB];exact r
def Pool (g:G) (U:Nat->Prop) (b:Nat):Prop:=∃ id,U id/\g.B id/\b∈g.fp id
structure Turn (X:Fix) (w w':World) (g g':G) (U:Nat->Prop):Prop where
 size:w.heap.size<=w'.heap.size
 os:w'.os=w.os
 tape:w'.tape=w.tape
 output:w'.output=w.output
 keep:∀ b,b<w.heap.size->¬ Pool g U b->w'.heap[b]? = w.heap[b]?
 imp:∀ b,g.I b->g'.I b
 B:∀ id,g.B id->g'.B id
 hv:∀ id,g.B id->g'.hv id=g.hv id
 sz:∀ id,g.B id->g'.sz id=g.sz id
 un:∀ id,¬ U id->(g'.B id->g.B id)/\(g.B id->g'.fp id=g.fp id)
 new:∀ id,U id->g'.B id->(g'.fp id).Nodup/\∀ b,b∈g'.fp id->¬ g'.I b/\b<w'.heap.size/\(b<w.heap.size->Pool g U b)
 pair:∀ id id',U id->U id'->id≠id'->g'.B id->g'.B id'->∀ b,b∈g'.fp id->b∉g'.fp id'
 inew:∀ b,g'.I b->b<w'.heap.size/\(g.I b\/w.heap.size<=b\/Pool g U b)
theorem Turn.ext {X:Fix} {w w':World} {g g':G} {U:Nat->Prop} (h:Turn X w w' g g' U) (s:Sep X w g):Ext w w' g g' (Pool g U):=
 ⟨h.imp,h.keep,λb hb ⟨id,_,hB,hm⟩=>(s.mine id hB b hm).1 hb,s.imm,h.B,h.hv,h.sz⟩
theorem Turn.apart {X:Fix} {w w':World} {g g':G} {U:Nat->Prop} (s:Sep X w g) {id b:Nat} (hU:¬ U id) (hB:g.B id) (hb:b∈g.fp id):¬ Pool g U b:=
 λ⟨id',hU',hB',hm⟩=>s.apart id id' hB hB' (λe=>hU (e▸hU')) b hb hm
theorem Turn.since {X:Fix} {w0 w w':World} {g g':G} {U:Nat->Prop} (h:Turn X w w' g g' U) (s:Sep X w g) (hs:Zal X w0 w):Zal X w0 w':=
 ⟨h.os.trans hs.os,h.tape.trans hs.tape,h.output.trans hs.output,Nat.le_trans hs.size h.size,hs.base,λb h1 h2=>by
  rw[<- hs.block b h1 h2];refine h.keep b (Nat.lt_of_lt_of_le h1 (Nat.le_trans hs.base hs.size)) ?_;rintro⟨id,_,hB,hm⟩;rcases(s.mine id hB b hm).2.2 with q|q
  ·omega
  ·exact h2 q⟩
theorem Turn.sep {X:Fix} {w0 w w':World} {g g':G} {U:Nat->Prop} (h:Turn X w w' g g' U) (s:Sep X w g) (hs:Zal X w0 w):Sep X w' g':=by
 have cross:∀ id id',U id->¬ U id'->g'.B id->g'.B id'->∀ b,b∈g'.fp id->b∉g'.fp id':=by
  intro id id' hU hU' hB hB' b hb hb';obtain⟨h2,h3⟩:=h.un id' hU';rw[h3 (h2 hB')] at hb';exact Turn.apart (w':=w') (g':=g') s hU' (h2 hB') hb' (((h.new id hU hB).2 b hb).2.2 (s.mine id' (h2 hB') b hb').2.1)
 refine⟨λid hB=>?_,λid id' hB hB' hne b hb hb'=>?_,λid hB b hb=>?_,λb hb=>(h.inew b hb).1,λb hb=>?_,λb hb=>h.imp b (s.keep b hb)⟩
 ·by_cases hU:U id
  ·exact(h.new id hU hB).1
  ·obtain⟨h2,h3⟩:=h.un id hU;rw[h3 (h2 hB)];exact s.nodup id (h2 hB)
 ·by_cases hU:U id
  ·by_cases hU':U id'
   ·exact h.pair id id' hU hU' hne hB hB' b hb hb'
   ·exact cross id id' hU hU' hB hB' b hb hb'
  ·by_cases hU':U id'
   ·exact cross id' id hU' hU hB' hB b hb' hb
   ·obtain⟨h2,h3⟩:=h.un id hU;obtain⟨h2',h3'⟩:=h.un id' hU';rw[h3 (h2 hB)] at hb;rw[h3' (h2' hB')] at hb';exact s.apart id id' (h2 hB) (h2' hB') hne b hb hb'
 ·by_cases hU:U id
  ·obtain⟨h1,h2,h3⟩:=(h.new id hU hB).2 b hb;refine⟨h1,h2,?_⟩
   by_cases hlt:b<w.heap.size
   ·obtain⟨id0,_,hB0,hm⟩:=h3 hlt;exact(s.mine id0 hB0 b hm).2.2
   ·exact .inl (Nat.le_trans hs.base (Nat.le_trans hs.size (Nat.le_of_not_lt hlt)))
  ·obtain⟨h2,h3⟩:=h.un id hU;rw[h3 (h2 hB)] at hb;obtain⟨m1,m2,m3⟩:=s.mine id (h2 hB) b hb;refine⟨λhI'=>?_,Nat.lt_of_lt_of_le m2 h.size,m3⟩
   rcases(h.inew b hI').2 with q|q|q
   ·exact m1 q
   ·omega
   ·exact Turn.apart (w':=w') (g':=g') s hU (h2 hB) hb q
 ·rcases(h.inew b hb).2 with q|q|⟨id,_,hB,hm⟩
  ·exact s.old b q
  ·exact .inr (.inl (Nat.le_trans hs.base (Nat.le_trans hs.size q)))
  ·exact .inr (s.mine id hB b hm).2.2
theorem Rel.update {P:Program} {X:Fix} {w0 w w':World} {g g':G} {stL:St} {a a':Act} {tm':List T} {ob':List Obj} (U:Nat->Prop)
  (hr:Rel P X w g stL a) (hs:Zal X w0 w) (hx:Turn X w w' g g' U)
  (hd:a'.defers=a.defers)
  (htm:tm'.length=a'.tmps.size/\∀ (i:Nat) (t:T),tm'[i]? = some t->t=.any/\(∃ v,a'.tmps[i]? = some v)\/(∃ v,a'.tmps[i]? = some v/\Zi X w' g' t v)\/
   (stL.tm[i]? = some t/\a'.tmps[i]? = a.tmps[i]?/\∀ id j off,t=.sub id j off->¬ U id))
  (hun:∀ id,¬ U id->ob'[id]? = stL.ob[id]?)
  (hup:∀ id,U id->g'.B id->∃ o,ob'[id]? = some o/\Zy P X w' g' id o):Rel P X w' g' ⟨tm',ob'⟩ a':=by
 have ext:=hx.ext hr.sep;refine⟨⟨htm.1.symm,λi t ht=>?_⟩,λid hB=>?_,hx.sep hr.sep hs,by rw[hd];exact hr.def_⟩
 ·rcases htm.2 i t ht with⟨rfl,v,hv⟩|h|⟨h1,h2,h3⟩
  ·exact⟨v,hv,by simp[Zi]⟩
  ·exact h
  ·obtain⟨v,hv,rv⟩:=hr.tms.2 i t h1;refine⟨v,by rw[h2];exact hv,Zi.mono ext (λid j off e b hb=>?_) rv⟩
   have hU:=h3 id j off e;subst e;have hBid:g.B id:=by simp only[Zi] at rv;exact rv.1
   exact⟨by rw[(hx.un id hU).2 hBid];exact hb,(hr.sep.mine id hBid b hb).2.1,Turn.apart (w':=w') (g':=g') hr.sep hU hBid hb⟩
 ·by_cases hU:U id
  ·exact hup id hU hB
  ·obtain⟨h2,h3⟩:=hx.un id hU;obtain⟨o,ho,rel⟩:=hr.obs id (h2 hB);exact⟨o,by rw[hun id hU];exact ho,Zy.mono ext (h2 hB) (h3 (h2 hB)) (λb hb=>⟨Turn.apart (w':=w') (g':=g') hr.sep hU (h2 hB) hb,(hr.sep.mine id (h2 hB) b hb).2.1⟩) rel⟩
theorem Zbw (w:World) (o:Go.Obj) (b:Nat):(w.alloc o).heap[b]? = if b=w.heap.size then some o else w.heap[b]?:=by
 show(w.heap.push o)[b]? = _;rw[Array.getElem?_push]
theorem ZaX (w:World) (o:Go.Obj):(w.alloc o).heap.size=w.heap.size+1:=by
 show(w.heap.push o).size=_;simp
end Go.T
namespace Go.T
theorem Zay:∀ (l:List (Nat×Obj)) (ob:List Obj) (id:Nat),(∀ p∈l,p.1≠id)->(ZS ob l)[id]? = ob[id]?
 |[],_,_,_=>rfl
 |p::l,ob,id,h=>by
  show(ZS (ob.set p.1 p.2) l)[id]? = _;rw[Zay l _ id (λq hq=>h q (by simp[hq])),List.getElem?_set_ne (h p Sp)]
theorem ZH:∀ (l:List (Nat×Obj)) (ob:List Obj),(ZS ob l).length=ob.length
 |[],_=>rfl
 |p::l,ob=>by show(ZS (ob.set p.1 p.2) l).length=_;rw[ZH l];simp
theorem ZbZ:∀ (l:List (Nat×Obj)) (ob:List Obj) (id:Nat),(∃ p∈l,p.1=id)->id<ob.length->∃ o,(id,o)∈l/\(ZS ob l)[id]? = some o
 |[],_,_,h,_=>by obtain⟨p,hp,_⟩:=h;cases hp
 |p::l,ob,id,h,hl=>by
  show ∃ o,(id,o)∈p::l/\(ZS (ob.set p.1 p.2) l)[id]? = some o;by_cases hin:∃ q∈l,q.1=id
  ·obtain⟨o,h1,h2⟩:=ZbZ l (ob.set p.1 p.2) id hin (by simpa using hl);exact⟨o,by simp[h1],h2⟩
  ·obtain⟨q,hq,he⟩:=h;rcases List.mem_cons.mp hq with rfl|hq
   ·refine⟨q.2,by rw[<- he];simp,?_⟩
    rw[Zay l _ id (λr hr e=>hin ⟨r,hr,e⟩),<- he];simp[he,hl]
   ·exact absurd ⟨q,hq,he⟩ hin
theorem Zb8:∀ (os:List Obj) (ob:List Obj) (n id:Nat),(id<n\/n+os.length<=id)->(Zbx ob n os)[id]? = ob[id]?
 |[],_,_,_,_=>rfl
 |o::os,ob,n,id,h=>by
  show(Zbx (ob.set n o) (n+1) os)[id]? = _;simp at h;rw[Zb8 os _ (n+1) id Om,List.getElem?_set_ne Om]
theorem setNews_hit:∀ (os:List Obj) (ob:List Obj) (n j:Nat),j<os.length->n+j<ob.length->(Zbx ob n os)[n+j]? = os[j]?
 |[],_,_,j,h,_=>by simp at h
 |o::os,ob,n,j,h,hl=>by
  show(Zbx (ob.set n o) (n+1) os)[n+j]? = _;cases j with
  |zero=>
   rw[Zb8 os _ (n+1) (n+0) Om];simp at hl⊢;simp[hl]
  |succ j=>
   have:=setNews_hit os (ob.set n o) (n+1) j (by simpa using h) (by simp;omega);rw[show n+(j+1)=n+1+j from by omega,this];simp
theorem Zbv (l:List (Nat×Obj)):∀ (t:T),ZI l t=t/\(∀ id j off,t=.sub id j off->∀ p∈l,p.1≠id)\/ZI l t=.any:=by
 induction l with
 |nil=>intro t;exact .inl ⟨rfl,λ_ _ _ _ p hp=>by cases hp⟩
 |cons p l ih=>
  intro t;show(ZI l (Zaa p.1 t)=t/\_)\/ZI l (Zaa p.1 t)=.any;have hany:ZI l .any=.any:=by
   rcases ih .any with⟨h,_⟩|h<;>exact h
  cases t with
  |sub id j off=>
   simp only[Zaa]
   split
   ·exact .inr hany
   ·rename_i hne;rcases ih (.sub id j off) with⟨h,h2⟩|h
    ·refine .inl ⟨h,λid' j' off' e q hq=>?_⟩;rcases List.mem_cons.mp hq with rfl|hq
     ·injection e with e1 _ _;rw[<- e1];exact λe=>hne e.symm
     ·exact h2 id' j' off' e q hq
    ·exact .inr h
  |_=>
   simp only[Zaa]
   rcases ih _ with⟨h,h2⟩|h
   ·exact .inl ⟨h,λ_ _ _ e=>by cases e⟩
   ·exact .inr h
def Eff.U (e:Eff) (n:Nat) (id:Nat):Prop:=(∃ p∈e.chg,p.1=id)\/(n<=id/\id<n+e.news.length)
theorem Zbh.make' {P:Program} {X:Fix} {w0:World} {o:Oper} {st:St} {e:Eff} (hchg:∀ p∈e.chg,p.1<st.ob.length)
  (h:∀ (stL:St) (g:G) (a:Act) (w:World),Rel P X w g stL a->Zal X w0 w->(∀ x∈o.op.operands.toList,Zi X w g (st.ev x) (a.eval x))->Z9 g stL st (Zbm o st)->
   (∀ j,j<e.news.length->¬ g.B (st.ob.length+j))->
   ∃ v w' g',(∀ (K:Act->World->Prop) (Q:Exit->Act->World->Prop),K (a.put o.dst v) w'->o.wp P a w K Q)/\Turn X w w' g g' (e.U st.ob.length)/\
    (∀ id,g'.B id↔g.B id\/(st.ob.length<=id/\id<st.ob.length+e.news.length))/\
    (∀ p∈e.chg,g.B p.1->Zy P X w' g' p.1 p.2)/\
    (∀ j ob,e.news[j]? = some ob->Zy P X w' g' (st.ob.length+j) ob)/\
    Zi X w' g' e.t v):
  Zbh P X w0 o st e:=by
 intro stL g a w hr hs ha hl hn K Q hK;obtain⟨v,w',g',hrun,hx,hB,hch,hnw,hT⟩:=h stL g a w hr hs (λx hx=>Zbh.args hr (ha x hx)) hl (λj hj=>(hn j hj).2);refine hrun K Q (hK g' w' _ (Rel.put ?_ o.dst hT) (hx.since hr.sep hs) hB);have hlen:∀ j,j<e.news.length->st.ob.length+j<stL.ob.length:=λj hj=>(List.getElem?_eq_some_iff.mp (hn j hj).1).1
 refine Rel.update (e.U st.ob.length) hr hs hx rfl ⟨by simp[hr.tms.1],?_⟩ ?_ ?_
 ·intro i t ht;rw[List.getElem?_map] at ht;obtain⟨t0,ht0,rfl⟩:=Option.map_eq_some_iff.mp ht;obtain⟨v0,hv0,rv0⟩:=hr.tms.2 i t0 ht0;rcases Zbv e.chg t0 with⟨hk,hsub⟩|hk
  ·refine .inr (.inr ⟨by rw[hk];exact ht0,rfl,λid j off e' hU=>?_⟩);rw[hk] at e';subst e';simp only[Zi] at rv0;rcases hU with⟨p,hp,e⟩|⟨q1,q2⟩
   ·exact hsub id j off rfl p hp e
   ·exact(hn (id-st.ob.length) Om).2 (by rw[show st.ob.length+(id-st.ob.length)=id from by omega];exact rv0.1)
  ·exact .inl ⟨hk,v0,hv0⟩
 ·intro id hU;rw[Zb8 _ _ _ _ (by
   rcases Nat.lt_or_ge id st.ob.length with q|q
   ·exact .inl q
   ·exact .inr (Nat.le_of_not_lt λq2=>hU (.inr ⟨q,q2⟩)))]
  exact Zay _ _ _ λp hp e=>hU (.inl ⟨p,hp,e⟩)
 ·intro id hU hb;by_cases hn2:st.ob.length<=id/\id<st.ob.length+e.news.length
  ·obtain⟨j,rfl⟩:∃ j,id=st.ob.length+j:=⟨id-st.ob.length,Om⟩
   have hj:j<e.news.length:=by omega
   refine⟨e.news[j],?_,hnw j _ (by simp[hj])⟩
   rw[setNews_hit _ _ _ _ hj (by rw[ZH];exact hlen j hj)];simp[hj]
  ·have hc:=hU.resolve_right hn2;rw[Zb8 _ _ _ _ Om];have hb0:=((hB id).mp hb).resolve_right hn2;obtain⟨o0,ho0,_⟩:=hr.obs id hb0;obtain⟨o',hm,ho'⟩:=ZbZ e.chg stL.ob id hc (List.getElem?_eq_some_iff.mp ho0).1;exact⟨o',ho',hch (id,o') hm hb0⟩
theorem Zbh.make {P:Program} {X:Fix} {w0:World} {o:Oper} {st:St} {e:Eff} (hchg:∀ p∈e.chg,p.1<st.ob.length)
  (h:∀ (stL:St) (g:G) (a:Act) (w:World),Rel P X w g stL a->Zal X w0 w->(∀ x∈o.op.operands.toList,Zi X w g (st.ev x) (a.eval x))->Z9 g stL st (Zbm o st)->
   (∀ j,j<e.news.length->¬ g.B (st.ob.length+j))->
   ∃ v w' g',(execOp a.eval o).run P w=.ok (.value v) w'/\Turn X w w' g g' (e.U st.ob.length)/\
    (∀ id,g'.B id↔g.B id\/(st.ob.length<=id/\id<st.ob.length+e.news.length))/\
    (∀ p∈e.chg,g.B p.1->Zy P X w' g' p.1 p.2)/\
    (∀ j ob,e.news[j]? = some ob->Zy P X w' g' (st.ob.length+j) ob)/\
    Zi X w' g' e.t v):
  Zbh P X w0 o st e:=
 Zbh.make' hchg λstL g a w hr hs hR hl hn=>by
  obtain⟨v,w',g',hrun,rest⟩:=h stL g a w hr hs hR hl hn;exact⟨v,w',g',λK Q hk=>wp_val hrun hk,rest⟩
theorem wp_skip {P:Program} {o:Oper} {a:Act} {w w':World} {K:Act->World->Prop} {Q:Exit->Act->World->Prop}
  (h:(execOp a.eval o).run P w=.ok .skip w') (hk:K (a.put o.dst undef) w'):o.wp P a w K Q:=by
 unfold Oper.wp;rw[h];exact hk
end Go.T
namespace Go.T
def St.app (st:St) (dst:Option Nat) (e:Eff):St:=(St.mk (st.tm.map (ZI e.chg)) (ZS st.ob e.chg++e.news)).put dst e.t
theorem app_pure (st:St) (dst:Option Nat) (t:T):st.app dst ⟨t,[],[]⟩=st.put dst t:=by
 have:ZI []=id:=funext λt=>rfl
 simp[St.app,this,ZS]
def ZN (P:Program) (E:Env) (o:Oper) (st:St) {β:Type} (k:St->Option β) (r:β):Prop:=
 ∃ e:Eff,k (st.app o.dst e)=some r/\(∀ p∈e.chg,p.1<st.ob.length)/\(quietOp E o st (st.app o.dst e)=true->∀ p∈e.chg,p.1∈turned o st (st.app o.dst e))/\∀ X w0,Zbh P X w0 o st e
theorem ZN.pure {P:Program} {E:Env} {o:Oper} {st:St} {β:Type} {k:St->Option β} {r:β} {t:T} (hk:k (st.put o.dst t)=some r)
  (h:∀ (X:Fix) (stL:St) (g:G) (a:Act) (w:World),Rel P X w g stL a->(∀ x∈o.op.operands.toList,Zi X w g (st.ev x) (a.eval x))->
   Z9 g stL st (Zbm o st)->∃ v,(execOp a.eval o).run P w=.ok (.value v) w/\Zi X w g t v):ZN P E o st k r:=
 ⟨⟨t,[],[]⟩,by rw[app_pure];exact hk,by simp,by simp,λX w0=>Zbh.pure λstL g a w=>h X stL g a w⟩
theorem ZaN {P:Program} {s:Sem Value} {w w':World} {v:Value} (h:s.run P w=.ok v w'):(do Pure.pure (Next.value (<- s)):Sem Next).run P w=.ok (.value v) w':=by
 rw[ZT,h];rfl
theorem run_u {P:Program} {s:Sem Unit} {w w':World} (h:s.run P w=.ok () w'):(do s;Pure.pure Next.skip:Sem Next).run P w=.ok .skip w':=by
 rw[ZT,h];rfl
theorem Z9.sub {g:G} {stL st:St} {l l':List Nat} (h:Z9 g stL st l) (hl:∀ id∈l',id∈l):Z9 g stL st l':=λid hid=>h id (hl id hid)
theorem ZaF {o:Oper} {st:St} {x:Operand} (hx:x∈o.op.operands.toList) (hm:isMove o.op=false:=by rfl):∀ id∈ZO st (st.ev x),id∈Zbm o st:=
 λid hid=>List.mem_flatMap.mpr ⟨x,hx,by rw[hm];cases isCall o.op<;>first|exact hid|exact List.mem_append_left _ hid⟩
theorem lookB_sub {m n:Bool} {st:St} {t:T} {id:Nat} (h:id∈bif m then lookSub t else bif n then ZaO st t else ZO st t):id∈ZaO st t:=by
 cases m with
 |false=>
  cases n with
  |false=>exact List.mem_append_left _ h
  |true=>exact h
 |true=>
  cases t with
  |sub i j off=>exact List.mem_append_left _ (by simpa[lookSub,ZO] using h)
  |_=>simp[lookSub] at h
theorem looks_sub {o:Oper} {st:St} {x:Operand} (hx:x∈o.op.operands.toList) {id j off:Nat} (h:st.ev x=.sub id j off):id∈Zbm o st:=by
 refine List.mem_flatMap.mpr ⟨x,hx,?_⟩;rw[h];cases isMove o.op
 ·cases isCall o.op<;>simp[ZaO,ZO]
 ·simp[lookSub]
section
variable {P:Program} {E:Env} {st:St} {β:Type} {k:St->Option β} {r:β} {dst:Option Nat} {ty:TypeId} {pos:String} {af:Array Edge} {gd:Option (Nat×Bool)}
theorem asBoolT_some {x:T} {k:Bool->Option β} {y:β} (h:asBoolT x k=some y):∃ f b,x=.d f (.bool b)/\k b=some y:=by
 unfold asBoolT at h;split at h
 ·exact⟨_,_,rfl,h⟩
 ·cases h
theorem opMove {x:Operand} (h:Z1 P E ⟨dst,.move x,ty,pos,af,gd⟩ st k=some r):ZN P E ⟨dst,.move x,ty,pos,af,gd⟩ st k r:=
 ZN.pure h λX stL g a w hr hx hs=>⟨a.eval x,rfl,hx x (by simp[Op.operands])⟩
theorem opAssign {x:Operand} (h:Z1 P E ⟨dst,.assign x,ty,pos,af,gd⟩ st k=some r):ZN P E ⟨dst,.assign x,ty,pos,af,gd⟩ st k r:=
 ZN.pure h λX stL g a w hr hx hs=>⟨a.eval x,rfl,hx x (by simp[Op.operands])⟩
theorem opPick {c x y:Operand} (h:Z1 P E ⟨dst,.pick c x y,ty,pos,af,gd⟩ st k=some r):ZN P E ⟨dst,.pick c x y,ty,pos,af,gd⟩ st k r:=by
 simp only[Z1] at h;obtain⟨f,b,hc,h⟩:=asBoolT_some h;have key:∀ (X:Fix) (g:G) (a:Act) (w:World),Zi X w g (st.ev c) (a.eval c)->a.eval c=.bool b:=by
  intro X g a w hr;rw[hc] at hr;exact Zi.scal_eq (d:=.bool b) rfl hr
 cases b with
 |true=>
  refine ZN.pure h λX stL g a w hr hx hs=>⟨a.eval x,?_,hx x (by simp[Op.operands])⟩
  have:=key X g a w (hx c (by simp[Op.operands]));show(do Pure.pure (Next.value (if <- asBool (a.eval c) then a.eval x else a.eval y)):Sem Next).run P w=_;rw[this];rfl
 |false=>
  refine ZN.pure h λX stL g a w hr hx hs=>⟨a.eval y,?_,hx y (by simp[Op.operands])⟩
  have:=key X g a w (hx c (by simp[Op.operands]));show(do Pure.pure (Next.value (if <- asBool (a.eval c) then a.eval x else a.eval y)):Sem Next).run P w=_;rw[this];rfl
theorem opLoad {t:TypeId} {x:Operand} (h:loadDen P st t (st.ev x) (λu=>k (st.put dst u))=some r):ZN P E ⟨dst,.load t x,ty,pos,af,gd⟩ st k r:=by
 obtain⟨u,hk,hs⟩:=load_sound h;refine ZN.pure hk λX stL g a w hr hx hl=>?_
 obtain⟨v,hv,rv⟩:=hs X w g stL a _ hr (hx x (by simp[Op.operands])) (hl.sub (ZaF (by simp[Op.operands])));exact⟨v,ZaN hv,rv⟩
theorem slEq_run {P:Program} {t e:TypeId} (hu:P.underlying t=some (.slice e)) (a:Option Addr) (len cap:Nat) (w:World):(Op.equal t (.slice a len cap) (.slice none 0 0)).run P w=.ok a.isNone w:=by
 unfold Op.equal Op.maxDepth Op.equalIn;rw[ZT,Zk hu];cases a<;>rfl
theorem opBin {op:BinOp} {t:TypeId} {x y:Operand} {q:TypeId} (h:Z1 P E ⟨dst,.binOp op t x y q,ty,pos,af,gd⟩ st k=some r):ZN P E ⟨dst,.binOp op t x y q,ty,pos,af,gd⟩ st k r:=by
 simp only[Z1] at h;unfold cmpDen at h;split at h
 ·rename_i f xs hx;split at h;case isFalse=>cases h
  rename_i hk;obtain⟨e,hu⟩:=Zca hk;have key:∀ (X:Fix) (g:G) (a:Act) (w:World),Zi X w g (st.ev x) (a.eval x)->∃ ad len cap,a.eval x=.slice ad len cap/\(xs≠[]->ad.isNone=false):=by
   intro X g a w hr;rw[hx] at hr;simp only[Zi,RdD] at hr;obtain⟨ad,len,cap,hv,_,_,hd⟩:=hr;refine⟨ad,len,cap,hv,λhne=>?_⟩
   rcases hd with rfl|⟨b,off,c,e,fr,sz,rfl,_⟩
   ·exact absurd rfl hne
   ·rfl
  have run1:∀ (a:Act) (w:World) (ad:Option Addr) (len cap:Nat),a.eval x=.slice ad len cap->(do eqGuard .eql t x (.const (.slice none 0 0)) (a.eval x) (.slice none 0 0);binOp .eql t (a.eval x) (.slice none 0 0):Sem Value).run P w=.ok (.bool ad.isNone) w:=by
   intro a w ad len cap hv;rw[hv,ZT,Zcd P w ⟨λ_ _=>⟨by simp,by simp⟩,by simp⟩];show((Op.equal t (.slice ad len cap) (.slice none 0 0)) >>= λr=>pure (.bool r):Sem Value).run P w=_;rw[ZT,slEq_run hu];rfl
  have run2:∀ (a:Act) (w:World) (ad:Option Addr) (len cap:Nat),a.eval x=.slice ad len cap->(do eqGuard .neq t x (.const (.slice none 0 0)) (a.eval x) (.slice none 0 0);binOp .neq t (a.eval x) (.slice none 0 0):Sem Value).run P w=.ok (.bool !ad.isNone) w:=by
   intro a w ad len cap hv;rw[hv,ZT,Zcd P w ⟨λ_ _=>⟨by simp,by simp⟩,by simp⟩];show((Op.equal t (.slice ad len cap) (.slice none 0 0)) >>= λr=>pure (.bool !r):Sem Value).run P w=_;rw[ZT,slEq_run hu];rfl
  split at h
  ·cases xs with
   |nil=>
    refine ZN.pure h λX stL g a w hr hR hl=>?_
    obtain⟨ad,len,cap,hv,_⟩:=key X g a w (hR x (by simp[Op.operands]));exact⟨_,ZaN (run1 a w ad len cap hv),by simp[Zi]⟩
   |cons x0 xs=>
    refine ZN.pure h λX stL g a w hr hR hl=>?_
    obtain⟨ad,len,cap,hv,hn⟩:=key X g a w (hR x (by simp[Op.operands]));exact⟨_,ZaN (run1 a w ad len cap hv),by rw[hn Sp];exact Zi.scal (d:=.bool false) rfl⟩
  ·cases xs with
   |nil=>
    refine ZN.pure h λX stL g a w hr hR hl=>?_
    obtain⟨ad,len,cap,hv,_⟩:=key X g a w (hR x (by simp[Op.operands]));exact⟨_,ZaN (run2 a w ad len cap hv),by simp[Zi]⟩
   |cons x0 xs=>
    refine ZN.pure h λX stL g a w hr hR hl=>?_
    obtain⟨ad,len,cap,hv,hn⟩:=key X g a w (hR x (by simp[Op.operands]));exact⟨_,ZaN (run2 a w ad len cap hv),by rw[hn Sp];exact Zi.scal (d:=.bool true) rfl⟩
  ·cases h
 ·obtain⟨d,hk,hd,hs⟩:=bin_sound h;refine ZN.pure hk λX stL g a w hr hx hl=>⟨ZaJ d,ZaN (hs X g w x _ _ _ (hx x (by simp[Op.operands])) (hx _ (by simp[Op.operands]))),Zi.scal hd⟩
theorem opUn {op:UnOp} {t:TypeId} {x:Operand} (h:Z1 P E ⟨dst,.unOp op t x,ty,pos,af,gd⟩ st k=some r):ZN P E ⟨dst,.unOp op t x,ty,pos,af,gd⟩ st k r:=by
 simp only[Z1] at h;obtain⟨d,hk,hd,hs⟩:=un_sound h;exact ZN.pure hk λX stL g a w hr hx hl=>⟨ZaJ d,ZaN (hs P X g w _ (hx x (by simp[Op.operands]))),Zi.scal hd⟩
theorem opIndexAddr {t:TypeId} {x i:Operand} (h:Z1 P E ⟨dst,.indexAddr t x i,ty,pos,af,gd⟩ st k=some r):ZN P E ⟨dst,.indexAddr t x i,ty,pos,af,gd⟩ st k r:=by
 simp only[Z1] at h;obtain⟨u,hk,hs⟩:=indexAddr_sound h;refine ZN.pure hk λX stL g a w hr hx hl=>?_
 obtain⟨v,hv,rv⟩:=hs X w g stL a _ _ hr (hx x (by simp[Op.operands])) (hx i (by simp[Op.operands])) (hl.sub (ZaF (by simp[Op.operands])));exact⟨v,ZaN hv,rv⟩
theorem opIndex {t:TypeId} {x i:Operand} (h:Z1 P E ⟨dst,.index t x i,ty,pos,af,gd⟩ st k=some r):ZN P E ⟨dst,.index t x i,ty,pos,af,gd⟩ st k r:=by
 simp only[Z1] at h;obtain⟨d,hk,hd,hs⟩:=index_sound h;exact ZN.pure hk λX stL g a w hr hx hl=>⟨ZaJ d,ZaN (hs X w g _ _ (hx x (by simp[Op.operands])) (hx i (by simp[Op.operands]))),Zi.scal hd⟩
theorem opFieldAddr {s:TypeId} {x:Operand} {f:Nat} (h:Z1 P E ⟨dst,.fieldAddr s x f,ty,pos,af,gd⟩ st k=some r):ZN P E ⟨dst,.fieldAddr s x f,ty,pos,af,gd⟩ st k r:=by
 simp only[Z1] at h;split at h;case h_2=>cases h
 rename_i fs hfs;split at h;case h_2=>cases h
 rename_i off n gg hf;obtain⟨fields,fld,hu,hfl,rfl,rfl,rfl,_⟩:=Zda hfs hf;split at h
 ·cases h
 rename_i h0;have h0':0<P.cellsOf fld.type:=by omega
 split at h
 ·rename_i id p hx;refine ZN.pure h λX stL g a w hr hR hl=>?_
  have hR:=hR x (by simp[Op.operands]);rw[hx] at hR;simp only[Zi] at hR;obtain⟨hB,b,hh,hv⟩:=hR;refine⟨_,ZaN (by rw[hv];exact run_fieldAt hu hfl h0' w),?_⟩
  simp only[Zi]
  exact⟨hB,b,hh,rfl⟩
 ·rename_i id i p hx;refine ZN.pure h λX stL g a w hr hR hl=>?_
  have hR:=hR x (by simp[Op.operands]);rw[hx] at hR;simp only[Zi] at hR;obtain⟨hB,b,o,len,cap,hh,hi,hv⟩:=hR;refine⟨_,ZaN (by rw[hv];exact run_fieldAt hu hfl h0' w),?_⟩
  simp only[Zi]
  exact⟨hB,b,o,len,cap,hh,hi,by rw[Nat.add_assoc,Nat.add_assoc]⟩
 ·rename_i fr cs hx;refine ZN.pure h λX stL g a w hr hR hl=>?_
  have hR:=hR x (by simp[Op.operands]);rw[hx] at hR;simp only[Zi] at hR;obtain⟨b,p,c,e,ff,hv,hI,hb,rc⟩:=hR;refine⟨_,ZaN (by rw[hv];exact run_fieldAt hu hfl h0' w),?_⟩
  simp only[Zi]
  exact⟨b,_,c,e,ff,rfl,hI,hb,Zt.drop rc⟩
 ·cases h
theorem opField {s:TypeId} {x:Operand} {f:Nat} (h:Z1 P E ⟨dst,.field s x f,ty,pos,af,gd⟩ st k=some r):ZN P E ⟨dst,.field s x f,ty,pos,af,gd⟩ st k r:=by
 simp only[Z1] at h;split at h;case h_2=>cases h
 rename_i fs ts hfs hx;split at h;case h_2=>cases h
 rename_i off n gg hf;obtain⟨fields,fld,hu,hfl,rfl,rfl,rfl,hsome⟩:=Zda hfs hf;split at h
 ·cases h
 rename_i h0;have h0':0<P.cellsOf fld.type:=by omega
 refine ZN.pure h λX stL g a w hr hR hl=>?_
 have hR:=hR x (by simp[Op.operands]);rw[hx] at hR;simp only[Zi] at hR;obtain⟨cs,hv,rs⟩:=hR;have hlen:=Zo.length rs;refine⟨_,ZaN (by rw[hv];exact run_field hu hfl h0' hsome Om w),?_⟩
 cases hg:Z4 P fld.type with
 |true=>
  simp only[if_true,Zi]
  refine⟨_,rfl,Zo.mk (by simp[hlen]) λj u hu'=>?_⟩
  obtain⟨hj,hu'⟩:=ZbN hu';obtain⟨hs1,v,hv',rv⟩:=Zo.get rs hu';refine⟨hs1,v,?_,rv⟩
  rw[List.getElem?_take,if_pos hj];simpa using hv'
 |false=>
  simp only[Bool.false_eq_true,if_false]
  have hlt:fld.offset<ts.length:=by omega
  obtain⟨hs1,v,hv',rv⟩:=Zo.get rs (i:=fld.offset) (t:=ts[fld.offset]) (by simp[hlt]);rw[List.drop_eq_getElem_cons hlt];obtain⟨hlc,hv'⟩:=List.getElem?_eq_some_iff.mp hv';rw[List.drop_eq_getElem_cons hlc];simp only[List.headD_cons]
  rw[hv'];exact rv
theorem opExtract {x:Operand} {i:Nat} (h:Z1 P E ⟨dst,.extract x i,ty,pos,af,gd⟩ st k=some r):ZN P E ⟨dst,.extract x i,ty,pos,af,gd⟩ st k r:=by
 simp only[Z1] at h;split at h;case h_2=>cases h
 rename_i ts hx;split at h;case h_2=>cases h
 rename_i t ht;refine ZN.pure h λX stL g a w hr hR hl=>?_
 have hR:=hR x (by simp[Op.operands]);rw[hx] at hR;simp only[Zi] at hR;obtain⟨vs,hv,rs⟩:=hR;obtain⟨_,v,hv',rv⟩:=Zo.get rs ht;refine⟨v,ZaN ?_,rv⟩
 show(Instr.extract (a.eval x) i).run P w=_;rw[hv];simp[Instr.extract,hv',ZZ]
theorem opNilCheck {x:Operand} (h:Z1 P E ⟨dst,.nilCheck x,ty,pos,af,gd⟩ st k=some r):ZN P E ⟨dst,.nilCheck x,ty,pos,af,gd⟩ st k r:=by
 simp only[Z1] at h;have key:∀ t,st.ev x=t->k (st.put dst t)=some r->(∀ (X:Fix) (w:World) (g:G) (v:Value),Zi X w g t v->(∃ a,v=.pointer (some a))\/∃ f vs ws,v=.func (.func f) vs ws)->
   ZN P E ⟨dst,.nilCheck x,ty,pos,af,gd⟩ st k r:=by
  intro t ht hk hv;refine ZN.pure hk λX stL g a w hr hR hl=>?_
  have hR:=hR x (by simp[Op.operands]);rw[ht] at hR;refine⟨a.eval x,?_,hR⟩
  rcases hv X w g _ hR with⟨ad,he⟩|⟨f,vs,ws,he⟩<;>simp[execOp,he,ZZ]
 split at h
 ·rename_i he;refine key _ he h λX w g v hr=>?_
  simp only[Zi] at hr;obtain⟨_,b,_,rfl⟩:=hr;exact .inl ⟨_,rfl⟩
 ·rename_i he;refine key _ he h λX w g v hr=>?_
  simp only[Zi] at hr;obtain⟨_,b,_,_,_,_,_,rfl⟩:=hr;exact .inl ⟨_,rfl⟩
 ·rename_i he;refine key _ he h λX w g v hr=>?_
  simp only[Zi] at hr;obtain⟨b,_,_,_,_,rfl,_⟩:=hr;exact .inl ⟨_,rfl⟩
 ·rename_i he;refine key _ he h λX w g v hr=>?_
  simp only[Zi] at hr;obtain⟨vs,rfl,_⟩:=hr;exact .inr ⟨_,_,_,rfl⟩
 ·rename_i he;refine key _ he h λX w g v hr=>?_
  simp only[Zi,RdD] at hr;obtain⟨vs,rfl,_⟩:=hr;exact .inr ⟨_,_,_,rfl⟩
 ·cases h
theorem opMakeFunc {f:FuncId} {first captured:Array Operand} (h:Z1 P E ⟨dst,.makeFunc (.func f) first captured,ty,pos,af,gd⟩ st k=some r):
  ZN P E ⟨dst,.makeFunc (.func f) first captured,ty,pos,af,gd⟩ st k r:=by
 simp only[Z1] at h;split at h;case isFalse=>cases h
 rename_i hc;obtain⟨h0,hp⟩:=hc;obtain rfl:first=#[]:=Array.eq_empty_of_size_eq_zero h0
 refine ZN.pure h λX stL g a w hr hR hl=>⟨.func (.func f) #[] (captured.map a.eval),?_,?_⟩
 ·exact ZaN (by simp[Instr.makeFunc,ZZ])
 ·simp only[Zi]
  refine⟨captured.toList.map a.eval,by rw[<- Array.toList_map],Zo.mk Sp λj t ht=>?_⟩
  rw[List.getElem?_map] at ht;obtain⟨y,hy,rfl⟩:=Option.map_eq_some_iff.mp ht;refine⟨?_,a.eval y,by simp only[List.getElem?_map,hy,Option.map_some],hR y ?_⟩
  ·rw[List.all_eq_true] at hp;have:=hp (st.ev y) (List.mem_map.mpr ⟨y,List.mem_of_getElem? hy,rfl⟩);cases hev:st.ev y<;>simp_all [Zbk,Zcp]
  ·have:=List.mem_of_getElem? hy;simp only[Op.operands,Array.toList_append]
   simp[this,Array.mem_toList_iff.mp this]
end
end Go.T
namespace Go.T
theorem RdD.one {w:World} {I:Nat->Prop} {d:D} {v:Value} (r:RdD w I d v):v.oneCell'=true:=by
 cases d with
 |bool b=>simp only[RdD] at r;subst r;rfl
 |int q n=>simp only[RdD] at r;subst r;rfl
 |str s=>simp only[RdD] at r;subst r;rfl
 |sl xs=>simp only[RdD] at r;obtain⟨_,_,_,rfl,_⟩:=r;rfl
 |fn f c=>simp only[RdD] at r;obtain⟨_,rfl,_⟩:=r;rfl
 |un=>simp only[RdD] at r;obtain⟨_,_,_,rfl⟩:=r;rfl
theorem OwC.one {P:Program} {w:World} {I:Nat->Prop} {x:C} {ct:TypeId} {v:Value} {F:List Nat} (r:OwC P w I x ct v F):v.oneCell'=true:=by
 cases x with
 |d x=>simp only[OwC] at r;exact r.2.one
 |own xs=>obtain⟨_,_,rfl,_⟩:=OwC.row r;rfl
theorem Zy.one {P:Program} {X:Fix} {w:World} {g:G} {id:Nat} {o:Obj} (r:Zy P X w g id o):(g.hv id).oneCell'=true:=by
 cases o with
 |box og t cs=>simp only[Zy] at r;obtain⟨⟨_,_,_,h,_⟩,_⟩:=r;rw[h];rfl
 |row og fr ct xs=>simp only[Zy] at r;exact r.1.1.one
 |frz fr xs=>simp only[Zy] at r;exact r.1.one
 |fbx fr cs=>simp only[Zy] at r;obtain⟨⟨_,_,_,_,h,_⟩,_⟩:=r;rw[h];rfl
 |gone=>simp only[Zy] at r;exact r.2
theorem Zi.one {P:Program} {X:Fix} {w:World} {g:G} {st:St} {a:Act} (hr:Rel P X w g st a) {t:T} {v:Value} (h:Zbk t=true) (r:Zi X w g t v):v.oneCell'=true:=by
 cases t with
 |d fr x=>simp only[Zi] at r;exact r.one
 |nil=>simp only[Zi] at r;obtain⟨_,rfl⟩:=r;rfl
 |row id=>
  simp only[Zi] at r;obtain⟨hB,rfl⟩:=r;obtain⟨o,_,ro⟩:=hr.obs id hB;exact ro.one
 |bp id off=>simp only[Zi] at r;obtain⟨_,_,_,rfl⟩:=r;rfl
 |ep id i off=>simp only[Zi] at r;obtain⟨_,_,_,_,_,_,_,rfl⟩:=r;rfl
 |ip fr cs=>simp only[Zi] at r;obtain⟨_,_,_,_,_,rfl,_⟩:=r;rfl
 |clo f c=>simp only[Zi] at r;obtain⟨_,rfl,_⟩:=r;rfl
 |_=>simp[Zbk] at h
theorem Zi.cells {P:Program} {X:Fix} {w:World} {g:G} {st:St} {a:Act} (hr:Rel P X w g st a) {t:T} {v:Value} (h:(ZK t).all Zbk=true) (r:Zi X w g t v):
  Zo X w g (ZK t) v.cells.toList/\∀ u∈v.cells.toList,u.oneCell'=true:=by
 have many:∀ (ts:List T) (vs:List Value),ts.all Zbk=true->Zo X w g ts vs->∀ u∈vs,u.oneCell'=true:=by
  intro ts;induction ts with
  |nil=>intro vs _ r u hu;simp only[Zo] at r;subst r;cases hu
  |cons t ts ih=>
   intro vs hp r u hu;simp only[Zo] at r;obtain⟨v,vs',rfl,_,r1,r2⟩:=r;simp at hp;rcases List.mem_cons.mp hu with rfl|hu
   ·exact Zi.one hr hp.1 r1
   ·exact ih vs' (by simpa using hp.2) r2 u hu
 have single:∀ t,ZK t=[t]->Zbk t=true->Zcp t=false->Zi X w g t v->Zo X w g (ZK t) v.cells.toList/\∀ u∈v.cells.toList,u.oneCell'=true:=by
  intro t ht hp hs r;have ho:=Zi.one hr hp r;have hc:v.cells.toList=[v]:=by cases v<;>simp_all [Value.cells,Value.oneCell']
  rw[hc,ht];exact⟨by simp only[Zo];exact⟨v,[],rfl,hs,r,rfl⟩,by simpa using ho⟩
 cases t with
 |agg ts=>
  simp only[Zi] at r;obtain⟨cs,rfl,r⟩:=r;simp only[ZK] at h⊢;simp only[Value.cells]
  exact⟨r,many ts cs h r⟩
 |tup ts=>simp[ZK,Zbk] at h
 |sub _ _ _=>simp[ZK,Zbk] at h
 |undef=>simp[ZK,Zbk] at h
 |ub=>simp[ZK,Zbk] at h
 |any=>simp[ZK,Zbk] at h
 |_=>exact single _ rfl (by simpa[ZK] using h) rfl r
theorem Zbq {α:Type} {l new:List α} {off:Nat} (h:off+new.length<=l.length):(ZE l off new).length=l.length:=by
 simp[ZE];omega
theorem ZaV {α:Type} {l new:List α} {off:Nat} (h:off+new.length<=l.length) (j:Nat):(ZE l off new)[j]? = if off<=j/\j<off+new.length then new[j-off]? else l[j]?:=by
 unfold ZE;have h1:(l.take off).length=off:=by simp;omega
 rcases Nat.lt_or_ge j off with q|q
 ·rw[List.append_assoc,List.getElem?_append_left Om,if_neg Om,List.getElem?_take,if_pos q]
 ·rcases Nat.lt_or_ge j (off+new.length) with q2|q2
  ·rw[if_pos ⟨q,q2⟩,List.getElem?_append_left (by simp;omega),List.getElem?_append_right Om,h1]
  ·rw[if_neg Om,List.getElem?_append_right (by simp;omega)];simp only[List.length_append,h1,List.getElem?_drop]
   congr 1;omega
theorem splice_nil {α:Type} {l:List α} {off:Nat}:ZE l off []=l:=by simp[ZE]
theorem splice_cons {α:Type} {l:List α} {off:Nat} {x:α} {r:List α} (h:off+(r.length+1)<=l.length):ZE l off (x::r)=ZE (l.set off x) (off+1) r:=by
 apply List.ext_getElem?;intro j;rw[ZaV (by simp;omega),ZaV (by simp;omega)];rw[List.getElem?_set];by_cases h1:j=off
 ·subst h1;rw[if_pos Sp,if_neg Om,if_pos rfl];simp;omega
 ·rw[if_neg (show ¬ off=j by omega)];by_cases h2:off+1<=j/\j<off+1+r.length
  ·rw[if_pos h2,if_pos (by simp;omega)];rw[show j-off=(j-(off+1))+1 from by omega];simp
  ·rw[if_neg h2,if_neg (by simp;omega)]
theorem Zo.splice {X:Fix} {w:World} {g:G} {ts new:List T} {vs nv:List Value} {off:Nat} (r:Zo X w g ts vs) (rn:Zo X w g new nv) (h:off+new.length<=ts.length):
  Zo X w g (ZE ts off new) (ZE vs off nv):=by
 have l1:=Zo.length r;have l2:=Zo.length rn;refine Zo.mk (by rw[Zbq Om,Zbq Om,l1]) λi t ht=>?_
 rw[ZaV Om] at ht;rw[ZaV Om,l2];split at ht
 ·rename_i hi;rw[if_pos hi];exact Zo.get rn ht
 ·rename_i hi;rw[if_neg hi];exact Zo.get r ht
structure CellsSet (w w':World) (b:Nat) (c':Array Value) (e:TypeId):Prop where
 at_:w'.heap[b]? = some (.cells c' e (0,0))
 keep:∀ b',b'≠b->w'.heap[b']? = w.heap[b']?
 size:w'.heap.size=w.heap.size
 os:w'.os=w.os
 tape:w'.tape=w.tape
 output:w'.output=w.output
theorem setCell_set {w:World} {b off:Nat} {c:Array Value} {e:TypeId} (h:w.heap[b]? = some (.cells c e (0,0))) (v:Value):CellsSet w (w.setCell ⟨b,off,none⟩ v) b (c.setIfInBounds off v) e:=by
 refine⟨?_,λb' hb=>?_,?_,rfl,rfl,rfl⟩
 ·show(w.heap.modify b _)[b]? = _;rw[Array.getElem?_modify];simp[h]
 ·show(w.heap.modify b _)[b']? = _;rw[Array.getElem?_modify];simp[Ne.symm hb]
 ·show(w.heap.modify b _).size=_;simp
theorem Zb0 {P:Program} {b off:Nat} {e:TypeId}:∀ (vs:List Value) (i:Nat) (w:World) (c:Array Value),w.heap[b]? = some (.cells c e (0,0))->off+i+vs.length<=c.size->(∀ v∈vs,v.oneCell'=true)->
  ∃ w' c',(storeCells ⟨b,off,none⟩ vs i).run P w=.ok () w'/\CellsSet w w' b c' e/\c'.toList=ZE c.toList (off+i) vs
 |[],i,w,c,hb,_,_=>⟨w,c,rfl,⟨hb,λ_ _=>rfl,rfl,rfl,rfl,rfl⟩,by rw[splice_nil]⟩
 |v::vs,i,w,c,hb,hl,h1=>by
  simp at hl;have hs:=setCell_set (off:=off+i) hb v;have hrun:(store ((⟨b,off,none⟩:Addr).add i) v).run P w=.ok () (w.setCell ⟨b,off+i,none⟩ v):=by
   rw[ZbW,run_store _ _ _ _ _ (h1 v Sp),ZbP hb];have:(c[off+i]?)=some (c[off+i]'Om):=by simp
   rw[this];simp[World.frozen?,hb]
  obtain⟨w',c',hr,hc,hl'⟩:=Zb0 (P:=P) (off:=off) vs (i+1) _ _ hs.at_ (by simp;omega) (λu hu=>h1 u (by simp[hu]));refine⟨w',c',?_,⟨hc.at_,λb' hb'=>(hc.keep b' hb').trans (hs.keep b' hb'),hc.size.trans hs.size,hc.os,hc.tape,hc.output⟩,?_⟩
  ·show(Sem.bind (store _ v) _).run P w=_;rw[Zz,hrun];exact hr
  ·rw[hl',splice_cons (by simp;omega)];simp[Nat.add_assoc]
theorem run_storeAt {P:Program} {b off:Nat} {e t:TypeId} {w:World} {c:Array Value} {v:Value} (hb:w.heap[b]? = some (.cells c e (0,0))) (h0:0<P.cellsOf t) (hl:v.cells.size=P.cellsOf t) (hle:off+P.cellsOf t<=c.size)
  (h1:∀ u∈v.cells.toList,u.oneCell'=true):
  ∃ w' c',(Instr.storeAt t (.pointer (some ⟨b,off,none⟩)) v).run P w=.ok () w'/\CellsSet w w' b c' e/\c'.toList=ZE c.toList off v.cells.toList:=by
 obtain⟨w',c',hr,hc,hl'⟩:=Zb0 (P:=P) v.cells.toList 0 w c hb (by simp[hl];omega) h1;refine⟨w',c',?_,hc,by simpa using hl'⟩
 show(Sem.bind (Instr.sureAddr _) _).run P w=_;rw[Zz];show(Sem.bind (sizeOf t) _).run P w=_;rw[Zz,Zb9 h0];simp only[hl,ne_eq,not_true_eq_false,if_false]
 exact hr
theorem isZeroV_rel {q:CK} {v:Value} (h:isZeroV q v=true):(∀ (X:Fix) (w:World) (g:G),Zi X w g (zeroT q) v/\Zcp (zeroT q)=false)/\v.oneCell'=true/\
  ∃ c,zeroC q=some c/\∀ (P:Program) (w:World) (I:Nat->Prop) (ct:TypeId),OwC P w I c ct v []:=by
 unfold isZeroV at h;split at h
 ·rename_i k k' n;simp at h;obtain⟨rfl,rfl⟩:=h;exact⟨λX w g=>⟨by simp[zeroT,Zi,RdD],rfl⟩,rfl,_,rfl,λP w I ct=>by simp[OwC,RdD]⟩
 ·rename_i b;simp at h;subst h;exact⟨λX w g=>⟨by simp[zeroT,Zi,RdD],rfl⟩,rfl,_,rfl,λP w I ct=>by simp[OwC,RdD]⟩
 ·rename_i s;simp at h;have:s=⟨#[]⟩:=h;subst this;exact⟨λX w g=>⟨by simp[zeroT,Zi,RdD],rfl⟩,rfl,_,rfl,λP w I ct=>by simp[OwC,RdD]⟩
 ·exact⟨λX w g=>⟨by simp[zeroT,Zi],rfl⟩,rfl,_,rfl,λP w I ct=>by simp[OwC]⟩
 ·cases h
theorem Zb5:∀ {qs:List CK} {vs:List Value},ZcP qs vs=true->(∀ (X:Fix) (w:World) (g:G),Zo X w g (qs.map zeroT) vs)/\(∀ v∈vs,v.oneCell'=true)/\qs.length=vs.length/\
  ∀ (P:Program) (w:World) (I:Nat->Prop) (c:Array Value) (cts:List TypeId) (p:Nat),cts.length=vs.length->(∀ (j:Nat) (v:Value),vs[j]? = some v->c[p+j]? = some v)->Zf P w I c (qs.filterMap zeroC) cts p []
 |[],[],_=>⟨λX w g=>by simp[Zo],by simp,rfl,λP w I c cts p hl _=>by
   have:cts=[]:=by simpa using hl
   subst this;simp[Zf]⟩
 |q::qs,v::vs,h=>by
  simp only[ZcP,Bool.and_eq_true] at h;obtain⟨h1,h2⟩:=h;obtain⟨a1,a2,c0,a3,a4⟩:=isZeroV_rel h1;obtain⟨b1,b2,b3,b4⟩:=Zb5 h2;refine⟨λX w g=>?_,?_,by simp[b3],λP w I c cts p hl hc=>?_⟩
  ·simp only[List.map_cons,Zo]
   exact⟨v,vs,rfl,(a1 X w g).2,(a1 X w g).1,b1 X w g⟩
  ·intro u hu;rcases List.mem_cons.mp hu with rfl|hu
   ·exact a2
   ·exact b2 u hu
  ·cases cts with
   |nil=>simp at hl
   |cons ct cts=>
    rw[List.filterMap_cons,a3];simp only[Zf]
    exact⟨ct,cts,v,[],[],rfl,rfl,by simpa using hc 0 v Sp,a4 P w I ct,b4 P w I c cts (p+1) (by simpa using hl) λj u hu=>by
     have:=hc (j+1) u (by simpa using hu);rwa[show p+1+j=p+(j+1) from by omega]⟩
 |[],_::_,h=>by simp[ZcP] at h
 |_::_,[],h=>by simp[ZcP] at h
theorem Zc8 {P:Program} {t:TypeId} (h:zeroOk P t=true):∃ i z,P.info? t=some i/\i.zero=some z/\ZcP (ZaC P t) z.cells.toList=true:=by
 unfold zeroOk at h;split at h
 ·rename_i z hz;cases hi:P.info? t with
  |none=>rw[hi] at hz;simp at hz
  |some i=>
   rw[hi] at hz;exact⟨i,z,rfl,by simpa using hz,h⟩
 ·cases h
theorem run_zeroValue {P:Program} {t:TypeId} {i:TypeInfo} {z:Value} (hi:P.info? t=some i) (hz:i.zero=some z) (w:World):(zeroValue t).run P w=.ok z w:=by
 show(Sem.bind (typeInfo t) _).run P w=_;rw[Zz,Zde hi];simp only[hz]
 rfl
end Go.T
namespace Go.T
theorem fold_splice (off:Nat):∀ (l:List Value) (k:Nat) (cells:Array Value),off+k+l.length<=cells.size->
  ((l.zipIdx k).foldl (λcs (p:Value×Nat)=>cs.setIfInBounds (off+p.2) p.1) cells).toList=ZE cells.toList (off+k) l
 |[],k,cells,_=>by simp[splice_nil]
 |v::l,k,cells,h=>by
  simp at h;rw[List.zipIdx_cons,List.foldl_cons,fold_splice off l (k+1) _ (by simp;omega),splice_cons (by simp;omega)];simp[Nat.add_assoc]
theorem fold_splice' (off:Nat) (v:Array Value) (cells:Array Value) (h:off+v.size<=cells.size):
  (v.zipIdx.foldl (λcs (c,j)=>cs.setIfInBounds (off+j) c) cells).toList=ZE cells.toList off v.toList:=by
 have:=fold_splice off v.toList 0 cells (by simpa using h);rw[<- Array.foldl_toList,Array.toList_zipIdx];simpa using this
theorem Zo.cellsOf {X:Fix} {w:World} {g:G} {ts:List T} {vs:List Value} (h:Zo X w g ts vs):vs.length=ts.length:=Zo.length h
theorem fill_sound {P:Program} {X:Fix} {w:World} {g:G} {st:St} {a:Act} (hr:Rel P X w g st a) {fs:List (Nat×Nat×Bool)} {place:Nat->Option (Nat×Nat)} (hp:∀ i off n gg,fs[i]? = some (off,n,gg)->place i=some (off,n)):
  ∀ (ps:List (Nat×T)) (vs:List (Nat×Value)) (cs cs':List T) (cells:Array Value),fillT fs cs ps=some cs'->Zo X w g cs cells.toList->
   ps.length=vs.length->(∀ (j:Nat) (i:Nat) (t:T),ps[j]? = some (i,t)->∃ v,vs[j]? = some (i,v)/\Zi X w g t v)->
   ∃ cells',Instr.fill place cells vs=some cells'/\Zo X w g cs' cells'.toList
 |[],[],cs,cs',cells,h,r,_,_=>by
  simp only[fillT] at h;injection h with h;subst h;exact⟨cells,rfl,r⟩
 |(i,x)::ps,(i',v)::vs,cs,cs',cells,h,r,hl,hv=>by
  obtain⟨v',he,rv⟩:=hv 0 i x Sp;simp at he;obtain⟨rfl,rfl⟩:=he;simp only[fillT] at h;split at h;case h_2=>cases h
  rename_i off n gg hf;split at h;case isFalse=>cases h
  rename_i hc;obtain⟨h1,h2,h3⟩:=hc;obtain⟨rc,_⟩:=Zi.cells hr h2 rv;have hlc:v.cells.size=n:=by have:=Zo.length rc;simp at this;omega
  have hls:cells.size=cs.length:=by have:=Zo.length r;simpa using this
  have hsp:=fold_splice' off v.cells cells Om;have r':Zo X w g (ZE cs off (ZK x)) (v.cells.zipIdx.foldl (λcs (c,j)=>cs.setIfInBounds (off+j) c) cells).toList:=by
   rw[hsp];exact Zo.splice r rc Om
  obtain⟨cells',hf',rf⟩:=fill_sound hr hp ps vs _ cs' _ h r' (by simpa using hl) (λj i t hj=>by simpa using hv (j+1) i t (by simpa using hj));refine⟨cells',?_,rf⟩
  simp only[Instr.fill,hp i' off n gg hf]
  rw[if_neg (by simp;omega)];exact hf'
 |[],_::_,_,_,_,_,_,hl,_=>by simp at hl
 |_::_,[],_,_,_,_,_,hl,_=>by simp at hl
theorem underlying_info {P:Program} {t:TypeId} (h:(P.underlying t).isSome=true):∃ i,P.info? t=some i/\i.size=P.cellsOf t:=by
 unfold Program.underlying at h;unfold Program.cellsOf;cases hi:P.info? t with
 |none=>rw[hi] at h;simp at h
 |some i=>exact⟨i,rfl,by simp⟩
theorem run_sizeOf2 {P:Program} {t:TypeId} (h:(P.underlying t).isSome=true) (w:World):(sizeOf t).run P w=.ok (P.cellsOf t) w:=by
 obtain⟨i,hi,hs⟩:=underlying_info h;show(Sem.bind (typeInfo t) _).run P w=_;rw[Zz,Zde hi];show Result.ok i.size w=_;rw[hs]
theorem run_places {P:Program} (w:World):∀ (fs:List Field),(fs.all λf=>(P.underlying f.type).isSome)=true->
  (fs.mapM λf=>(do pure (f.offset,<- sizeOf f.type):Sem (Nat×Nat))).run P w=.ok (fs.map λf=>(f.offset,P.cellsOf f.type)) w
 |[],_=>rfl
 |f::fs,h=>by
  simp only[List.all_cons,Bool.and_eq_true] at h;rw[List.mapM_cons,ZT,ZT,run_sizeOf2 h.1];simp only[]
  rw[ZZ];simp only[]
  rw[ZT,run_places w fs h.2];rfl
theorem structFields_all {P:Program} {s:TypeId} {fs:List (Nat×Nat×Bool)} (h:Zbi P s=some fs):
  ∃ fields,P.underlying s=some (.struct fields)/\(fields.toList.all λf=>(P.underlying f.type).isSome)=true/\fs=fields.toList.map λf=>(f.offset,P.cellsOf f.type,Z4 P f.type):=by
 unfold Zbi at h;split at h
 ·rename_i fields hu;split at h
  ·rename_i hall;injection h with h;exact⟨fields,hu,hall,h.symm⟩
  ·cases h
 ·cases h
section
variable {P:Program} {E:Env} {st:St} {β:Type} {k:St->Option β} {r:β} {dst:Option Nat} {ty:TypeId} {pos:String} {af:Array Edge} {gd:Option (Nat×Bool)}
theorem opBuild {t:TypeId} {parts:Array (Nat×Operand)} (h:Z1 P E ⟨dst,.build t parts,ty,pos,af,gd⟩ st k=some r):ZN P E ⟨dst,.build t parts,ty,pos,af,gd⟩ st k r:=by
 simp only[Z1] at h;split at h;case h_2=>cases h
 rename_i fs z hfs hz;split at h;case h_2=>cases h
 rename_i cs hfill;obtain⟨fields,hu,hall,hfe⟩:=structFields_all hfs;unfold zeroCells at hz;split at hz;case isFalse=>cases hz
 rename_i hzo;injection hz with hz;subst hz;obtain⟨i,zv,hi,hzv,hzs⟩:=Zc8 hzo;obtain⟨zr,_,_,_⟩:=Zb5 hzs;refine ZN.pure h λX stL g a w hr hR hl=>?_
 obtain⟨cells',hf,rc⟩:=fill_sound (P:=P) hr (fs:=fs) (place:=((fields.toList.map λf=>(f.offset,P.cellsOf f.type)).toArray[·]?)) (λi off n gg hi=>by
   rw[hfe,List.getElem?_map] at hi;obtain⟨f,hf,he⟩:=Option.map_eq_some_iff.mp hi;injection he with e1 e2;injection e2 with e2 e3;simp only[List.getElem?_toArray,List.getElem?_map,hf,Option.map_some,e1,e2]) _ (parts.toList.map λp=>(p.1,a.eval p.2)) _ _ zv.cells hfill (zr X w g) Sp (λj i t hj=>by
   rw[List.getElem?_map] at hj;obtain⟨p,hp,he⟩:=Option.map_eq_some_iff.mp hj;injection he with e1 e2;refine⟨a.eval p.2,by rw[List.getElem?_map,hp,<- e1];rfl,?_⟩
   rw[<- e2];refine hR p.2 ?_;have:=List.mem_of_getElem? hp;simp only[Op.operands,Array.toList_map]
   exact List.mem_map.mpr ⟨p,this,rfl⟩)
 refine⟨.agg cells',ZaN ?_,by simp only[Zi];exact⟨cells'.toList,by simp,rc⟩⟩
 show(Sem.bind (zeroValue t) _).run P w=_;rw[Zz,run_zeroValue hi hzv];show(Sem.bind (underlying t) _).run P w=_;rw[Zz,Zk hu];show(Sem.bind (fields.mapM _) _).run P w=_;rw[Zz];have hm:(fields.mapM λf=>(do pure (f.offset,<- sizeOf f.type):Sem (Nat×Nat))).run P w=.ok (fields.toList.map λf=>(f.offset,P.cellsOf f.type)).toArray w:=by
  rw[Array.mapM_eq_mapM_toList];show((List.toArray <$> _:Sem _)).run P w=_;rw[map_eq_pure_bind,ZT,run_places w _ hall];rfl
 rw[hm];simp only[Array.toList_map,hf]
 rfl
theorem opMakeInterface {t:TypeId} {x:Operand} (h:Z1 P E ⟨dst,.makeInterface t x,ty,pos,af,gd⟩ st k=some r):ZN P E ⟨dst,.makeInterface t x,ty,pos,af,gd⟩ st k r:=by
 simp only[Z1] at h;split at h
 ·cases h
 ·rename_i d hni hu;refine ZN.pure h λX stL g a w hr hR hl=>⟨.iface t (a.eval x),ZaN ?_,by simp[Zi]⟩
  show(Sem.bind (underlying t) _).run P w=_;rw[Zz,Zk hu];cases d<;>first|rfl|exact absurd rfl (hni _)
 ·cases h
theorem bytesOf_some:∀ {xs:List (List D)} {k:List UInt8->Option β} {y:β},bytesOf xs k=some y->∃ ns:List Int,xs=ns.map (λn=>[.int .u8 n])/\k (ns.map λn=>UInt8.ofNat n.toNat)=some y
 |[],k,y,h=>⟨[],rfl,h⟩
 |x::xs,k,y,h=>by
  simp only[bytesOf] at h;obtain⟨d,r,rfl,h⟩:=ZbC h;obtain⟨rfl,h⟩:=atEnd_some h;obtain⟨n,rfl,h⟩:=dInt_some h;obtain⟨ns,hx,h'⟩:=bytesOf_some h;subst hx;exact⟨n::ns,rfl,h'⟩
theorem run_bytes {P:Program} {w:World} {f:Value->ByteArray->Sem (ForInStep ByteArray)} (hf:∀ n s,f (.int .u8 n) s=pure (ForInStep.yield (s.push (UInt8.ofNat n.toNat)))):∀ (ns:List Int) (s:ByteArray),
  (forIn (m:=Sem) (ns.map λn=>Value.int .u8 n) s f).run P w=.ok ⟨s.data++(ns.map λn=>UInt8.ofNat n.toNat).toArray⟩ w
 |[],s=>by simp[ZZ]
 |n::ns,s=>by
  rw[List.map_cons,List.forIn_cons,hf,ZT,ZZ];show(forIn (m:=Sem) (ns.map λn=>Value.int .u8 n) (s.push (UInt8.ofNat n.toNat)) _).run P w=_;rw[run_bytes hf ns];simp[ByteArray.push]
theorem cellD_sl {st stL:St} {X:Fix} {w:World} {g:G} {a:Act} {x:T} {f:Bool} {xs:List (List D)} {v:Value} (hT:Zax P) (hr:Rel P X w g stL a) (hs:Z9 g stL st (ZO st x)) (h:cellD false st x=some (f,.sl xs)) (rv:Zi X w g x v):
  ∃ J:Nat->Prop,RdD w J (.sl xs) v:=by
 unfold cellD at h;split at h
 ·injection h with h;injection h with h1 h2;subst h2;simp only[Zi] at rv;exact⟨_,rv⟩
 ·injection h with h;injection h with h1 h2;injection h2 with h2;subst h2;simp only[Zi] at rv;obtain⟨ad,rfl⟩:=rv;exact⟨λ_=>False,by simp only[RdD];exact⟨ad,0,0,rfl,rfl,Om,.inl trivial⟩⟩
 ·rename_i id;simp only[Zi] at rv;split at h
  ·rename_i ho;simp only[cond_false] at h;injection h with h;injection h with h1 h2;injection h2 with h2;subst h2;obtain⟨_,_,⟨row,_⟩,_⟩:=hs.obj hr (by simp[ZO]) ho;rw[rv.2];exact⟨λ_=>True,by have:=OwC.imm (J:=λ_=>True) (λ_ _=>trivial) (λ_ _=>trivial) hT row;simpa[C.imm] using this⟩
  ·rename_i ho;injection h with h;injection h with h1 h2;injection h2 with h2;subst h2;obtain⟨_,_,hrd,_⟩:=hs.obj hr (by simp[ZO]) ho;rw[rv.2];exact⟨_,hrd⟩
  ·cases h
 ·cases h
theorem opConvert {s d:TypeId} {x:Operand} (hT:Zax P) (h:Z1 P E ⟨dst,.convert s d x,ty,pos,af,gd⟩ st k=some r):ZN P E ⟨dst,.convert s d x,ty,pos,af,gd⟩ st k r:=by
 simp only[Z1] at h;unfold convDen at h;split at h
 ·rename_i q1 q2 ff q n h1 h2 hx;refine ZN.pure h λX stL g a w hr hR hl=>⟨_,ZaN ?_,Zi.scal (d:=.int q2 (q2.wrap n)) rfl⟩
  have hv:=Zi.scal_eq (d:=.int q n) rfl (hx▸hR x (by simp[Op.operands]));show(Sem.bind (underlying s) _).run P w=_;rw[Zz,Zk (ZcX h1)];show(Sem.bind (underlying d) _).run P w=_;rw[Zz,Zk (ZcX h2),hv];rfl
 ·rename_i q1 ff q n h1 h2 hx;refine ZN.pure h λX stL g a w hr hR hl=>⟨_,ZaN ?_,Zi.scal (d:=.str (Utf8.encode n)) rfl⟩
  have hv:=Zi.scal_eq (d:=.int q n) rfl (hx▸hR x (by simp[Op.operands]));show(Sem.bind (underlying s) _).run P w=_;rw[Zz,Zk (ZcX h1)];show(Sem.bind (underlying d) _).run P w=_;rw[Zz,Zk (ZbE h2),hv];rfl
 ·rename_i ff ss h1 h2 hx;refine ZN.pure h λX stL g a w hr hR hl=>⟨_,ZaN ?_,Zi.scal (d:=.str ss) rfl⟩
  have hv:=Zi.scal_eq (d:=.str ss) rfl (hx▸hR x (by simp[Op.operands]));show(Sem.bind (underlying s) _).run P w=_;rw[Zz,Zk (ZbE h1)];show(Sem.bind (underlying d) _).run P w=_;rw[Zz,Zk (ZbE h2),hv];rfl
 ·rename_i h1 h2;split at h;case h_2=>cases h
  rename_i e hu;split at h;case isFalse=>cases h
  rename_i he;split at h;case h_2=>cases h
  rename_i f xs hx;obtain⟨ns,hxs,h'⟩:=bytesOf_some h;subst hxs;refine ZN.pure h' λX stL g a w hr hR hl=>⟨_,ZaN ?_,Zi.scal (d:=.str ⟨(ns.map λn=>UInt8.ofNat n.toNat).toArray⟩) rfl⟩
  obtain⟨J,hrd⟩:=cellD_sl hT hr (hl.sub (ZaF (x:=x) (by simp[Op.operands]))) hx (hR x (by simp[Op.operands]));simp only[RdD] at hrd;obtain⟨ad,len,cap,hv,hlen,_,hrd⟩:=hrd;have hconv:(convert s d (a.eval x)).run P w=(Conv.bytesToString (a.eval x)).run P w:=by
   show(Sem.bind (underlying s) _).run P w=_;rw[Zz,Zk hu];show(Sem.bind (underlying d) _).run P w=_;rw[Zz,Zk (ZbE h2),hv];show(Sem.bind (underlying e) _).run P w=_;rw[Zz,Zk (ZcX he)]
  rw[hconv,hv];rcases hrd with hnil|⟨b,off,c,ee,fr,sz,rfl,_,hb,hsz,rows⟩
  ·have:ns=[]:=by simpa using hnil
   subst this;simp at hlen;subst hlen;cases ad with
   |none=>rfl
   |some ad=>rfl
  ·simp at hlen;subst hlen;show(Sem.bind (loadCells ⟨b,off,none⟩ ns.length) _).run P w=_;have hvals:∀ (j:Nat) (v:Value),(ns.map λn=>Value.int .u8 n)[j]? = some v->c[off+j]? = some v:=by
    intro j v hj;rw[List.getElem?_map] at hj;obtain⟨n,hn,rfl⟩:=Option.map_eq_some_iff.mp hj;obtain⟨h3,h4⟩:=ZM.get rows (i:=j) (x:=[.int .u8 n]) (by rw[List.getElem?_map,hn];rfl);simp at h3;subst h3;simp only[Zt,RdD] at h4;obtain⟨⟨v,hv,rfl⟩,_⟩:=h4;simpa using hv
   have:=Zdf (P:=P) hb (ns.map λn=>Value.int .u8 n) hvals;rw[List.length_map] at this;rw[Zz,this];show(Sem.bind (forIn (m:=Sem) (ns.map λn=>Value.int .u8 n).toArray ByteArray.empty _) _).run P w=_;rw[Zz,List.forIn_toArray,run_bytes (λ_ _=>rfl) ns];show Result.ok (Value.string ⟨#[]++_⟩) w=_;simp[ZaJ]
 ·cases h
theorem ZbD {c:Call} {dst:Option Nat} {ty:TypeId} {pos:String} {af:Array Edge} {gd:Option (Nat×Bool)} {x:Operand} {st:St} (hx:x∈c.args.toList):∀ id∈ZO st (st.ev x),id∈Zbm ⟨dst,.call c,ty,pos,af,gd⟩ st:=
 ZaF (o:=⟨dst,.call c,ty,pos,af,gd⟩) (by
  simp only[Op.operands,Call.operands]
  split<;>simp[Array.mem_toList_iff.mp hx])
theorem Zaf {c:Call} {x:Operand} (hx:x∈c.args.toList):x∈(Op.call c).operands.toList:=by
 simp only[Op.operands,Call.operands]
 split<;>simp[Array.mem_toList_iff.mp hx]
theorem Zc9 {α:Type} {a:Array α} {x y:α} (h:a.toList=[x,y]):a=#[x,y]:=by
 apply Array.ext';simpa using h
theorem toList_one {α:Type} {a:Array α} {x:α} (h:a.toList=[x]):a=#[x]:=by
 apply Array.ext';simpa using h
theorem ZcE {P:Program} {a:Act} {w w':World} {dst:Option Nat} {ty:TypeId} {pos:String} {af:Array Edge} {gd:Option (Nat×Bool)} {c:Call} {b:Builtin} (hb:c.callee=.builtin b) {n:Next}
  (h:(builtin b c.argTypes ty (c.args.map fun|.const _=>true|_=>false) (c.args.map a.eval)).run P w=.ok n w'):(execOp a.eval ⟨dst,.call c,ty,pos,af,gd⟩).run P w=.ok n w':=by
 show(Sem.bind (resolve a.eval c ty) _).run P w=_;rw[Zz];have:(resolve a.eval c ty).run P w=.ok { target:=.builtin b c.argTypes ty (c.args.map fun|.const _=>true|_=>false),args:=c.args.map a.eval } w:=by
  unfold resolve;rw[hb];rfl
 rw[this];exact h
theorem opLen {c:Call} (hc:c.callee=.builtin .len) (h:Z1 P E ⟨dst,.call c,ty,pos,af,gd⟩ st k=some r):ZN P E ⟨dst,.call c,ty,pos,af,gd⟩ st k r:=by
 simp only[Z1,hc] at h;split at h;case h_2=>cases h
 rename_i x t hx ht;obtain⟨d,hk,hd,hs⟩:=len_sound (ty:=ty) h;refine ZN.pure hk λX stL g a w hr hR hl=>⟨ZaJ d,ZcE hc ?_,Zi.scal hd⟩
 have hm:x∈c.args.toList:=by rw[hx];simp
 rw[toList_one hx,toList_one ht,show(#[x].map a.eval)=#[a.eval x] from by simp];exact ZaN (hs X w g stL a _ hr (hR x (Zaf hm)) (hl.sub (ZbD hm)))
theorem opCap {c:Call} (hc:c.callee=.builtin .cap) (h:Z1 P E ⟨dst,.call c,ty,pos,af,gd⟩ st k=some r):ZN P E ⟨dst,.call c,ty,pos,af,gd⟩ st k r:=by
 simp only[Z1,hc] at h;split at h;case h_2=>cases h
 rename_i t hx ht;split at h;case isFalse=>cases h
 rename_i hk;obtain⟨x,hxa,hxe⟩:=List.map_eq_singleton_iff.mp hx;refine ZN.pure h λX stL g a w hr hR hl=>⟨.int .i64 0,ZcE hc ?_,Zi.scal (d:=.int .i64 0) rfl⟩
 have hm:x∈c.args.toList:=by rw[hxa];simp
 have rv:=hR x (Zaf hm);rw[hxe] at rv;simp only[Zi] at rv;obtain⟨ad,hv⟩:=rv;obtain⟨e,hu⟩:=Zca hk;rw[toList_one hxa,toList_one ht];simp only[List.map_toArray,List.map_cons,List.map_nil,hv]
 refine ZaN ?_;show(Sem.bind (underlying t) _).run P w=_;rw[Zz,Zk hu];rfl
theorem opMin {c:Call} (hc:c.callee=.builtin .min) (h:Z1 P E ⟨dst,.call c,ty,pos,af,gd⟩ st k=some r):ZN P E ⟨dst,.call c,ty,pos,af,gd⟩ st k r:=by
 simp only[Z1,hc] at h;split at h;case h_2=>cases h
 rename_i f1 q1 n1 f2 q2 n2 hx;obtain⟨x,l,hxa,hxe,hl2⟩:=List.map_eq_cons_iff.mp hx;obtain⟨y,hya,hye⟩:=List.map_eq_singleton_iff.mp hl2;subst hya;refine ZN.pure h λX stL g a w hr hR hl=>⟨_,ZcE hc ?_,Zi.scal (d:=.int q1 (if n2<n1 then n2 else n1)) rfl⟩
 have hv1:=Zi.scal_eq (d:=.int q1 n1) rfl (hxe▸hR x (Zaf (by rw[hxa];simp)));have hv2:=Zi.scal_eq (d:=.int q2 n2) rfl (hye▸hR y (Zaf (by rw[hxa];simp)));rw[Zc9 hxa];simp only[List.map_toArray,List.map_cons,List.map_nil,hv1,hv2]
 exact ZaN rfl
theorem opMax {c:Call} (hc:c.callee=.builtin .max) (h:Z1 P E ⟨dst,.call c,ty,pos,af,gd⟩ st k=some r):ZN P E ⟨dst,.call c,ty,pos,af,gd⟩ st k r:=by
 simp only[Z1,hc] at h;split at h;case h_2=>cases h
 rename_i f1 q1 n1 f2 q2 n2 hx;obtain⟨x,l,hxa,hxe,hl2⟩:=List.map_eq_cons_iff.mp hx;obtain⟨y,hya,hye⟩:=List.map_eq_singleton_iff.mp hl2;subst hya;refine ZN.pure h λX stL g a w hr hR hl=>⟨_,ZcE hc ?_,Zi.scal (d:=.int q1 (if n2>n1 then n2 else n1)) rfl⟩
 have hv1:=Zi.scal_eq (d:=.int q1 n1) rfl (hxe▸hR x (Zaf (by rw[hxa];simp)));have hv2:=Zi.scal_eq (d:=.int q2 n2) rfl (hye▸hR y (Zaf (by rw[hxa];simp)));rw[Zc9 hxa];simp only[List.map_toArray,List.map_cons,List.map_nil,hv1,hv2]
 exact ZaN rfl
end
end Go.T
namespace Go.T
def G.one (g:G) (mv:List Nat) (n:Nat) (F:List Nat) (v:Value) (z:Nat):G where
 I:=g.I
 B id:=g.B id\/id=n
 fp id:=if id=n then F else if id∈mv then[] else g.fp id
 hv id:=if id=n then v else g.hv id
 sz id:=if id=n then z else g.sz id
theorem G.one_hv {g:G} {mv:List Nat} {n:Nat} {F:List Nat} {v:Value} {z:Nat}:(g.one mv n F v z).hv n=v:=by simp[G.one]
theorem G.one_sz {g:G} {mv:List Nat} {n:Nat} {F:List Nat} {v:Value} {z:Nat}:(g.one mv n F v z).sz n=z:=by simp[G.one]
theorem G.one_fp {g:G} {mv:List Nat} {n:Nat} {F:List Nat} {v:Value} {z:Nat}:(g.one mv n F v z).fp n=F:=by simp[G.one]
theorem G.one_B {g:G} {mv:List Nat} {n:Nat} {F:List Nat} {v:Value} {z:Nat}:(g.one mv n F v z).B n:=.inr rfl
theorem Zbh.one {P:Program} {X:Fix} {w0:World} {o:Oper} {st:St} {mv:List Nat} {t:T} {ob:Obj} (hmv:∀ id∈mv,id<st.ob.length)
  (h:∀ (stL:St) (g:G) (a:Act) (w:World),Rel P X w g stL a->Zal X w0 w->(∀ x∈o.op.operands.toList,Zi X w g (st.ev x) (a.eval x))->Z9 g stL st (Zbm o st)->¬ g.B st.ob.length->
   ∃ v w' F hdr z,(execOp a.eval o).run P w=.ok (.value v) w'/\w.heap.size<=w'.heap.size/\w'.os=w.os/\w'.tape=w.tape/\w'.output=w.output/\
    (∀ b,b<w.heap.size->b∉mv.flatMap g.fp->w'.heap[b]? = w.heap[b]?)/\F.Nodup/\(∀ b∈F,b<w'.heap.size/\(b<w.heap.size->b∈mv.flatMap g.fp))/\
    (∀ id∈mv,g.B id)/\Zy P X w' (g.one mv st.ob.length F hdr z) st.ob.length ob/\Zi X w' (g.one mv st.ob.length F hdr z) t v):
  Zbh P X w0 o st ⟨t,mv.map (·,.gone),[ob]⟩:=by
 refine Zbh.make (by simpa using hmv) λstL g a w hr hs hR hl hn=>?_
 have hn0:¬ g.B st.ob.length:=by simpa using hn 0 Sp
 obtain⟨v,w',F,hdr,z,hrun,hsz,hos,htp,hou,hkeep,hnd,hF,hmB,hobj,hT⟩:=h stL g a w hr hs hR hl hn0;have hU:∀ id,Eff.U ⟨t,mv.map (·,.gone),[ob]⟩ st.ob.length id↔id∈mv\/id=st.ob.length:=by
  intro id;simp only[Eff.U,List.mem_map,List.length_singleton]
  constructor
  ·rintro(⟨p,⟨q,hq,rfl⟩,rfl⟩|h)
   ·exact .inl hq
   ·exact .inr Om
  ·rintro(h|h)
   ·exact .inl ⟨(id,.gone),⟨id,h,rfl⟩,rfl⟩
   ·exact .inr Om
 have hpool:∀ b,Pool g (Eff.U ⟨t,mv.map (·,.gone),[ob]⟩ st.ob.length) b↔b∈mv.flatMap g.fp:=by
  intro b;rw[List.mem_flatMap];constructor
  ·rintro⟨id,hu,hB,hb⟩;rcases(hU id).mp hu with q|rfl
   ·exact⟨id,q,hb⟩
   ·exact absurd hB hn0
  ·rintro⟨id,q,hb⟩;exact⟨id,(hU id).mpr (.inl q),hmB id q,hb⟩
 have hmn:∀ id∈mv,id≠st.ob.length:=λid q e=>absurd (hmB id q) (e▸hn0)
 have hlt:∀ b,b∈mv.flatMap g.fp->¬ g.I b:=by
  intro b hb;obtain⟨id,q,hb⟩:=List.mem_flatMap.mp hb;exact(hr.sep.mine id (hmB id q) b hb).1
 refine⟨v,w',g.one mv st.ob.length F hdr z,hrun,?_,?_,?_,?_,hT⟩
 ·refine⟨hsz,hos,htp,hou,λb hb hp=>hkeep b hb (λq=>hp ((hpool b).mpr q)),λb hb=>hb,λid hB=>.inl hB,?_,?_,?_,?_,?_,?_⟩
  ·intro id hB;simp only[G.one];rw[if_neg (show ¬ id=st.ob.length from λe=>hn0 (e▸hB))]
  ·intro id hB;simp only[G.one];rw[if_neg (show ¬ id=st.ob.length from λe=>hn0 (e▸hB))]
  ·intro id hu;rw[hU] at hu;refine⟨λhB=>hB.resolve_right λe=>hu (.inr e),λhB=>?_⟩
   simp only[G.one]
   rw[if_neg (λe=>hu (.inr e)),if_neg (λe=>hu (.inl e))]
  ·intro id hu hB;simp only[G.one]
   by_cases hid:id=st.ob.length
   ·rw[if_pos hid];refine⟨hnd,λb hb=>⟨λhI=>?_,(hF b hb).1,λhlt'=>(hpool b).mpr ((hF b hb).2 hlt')⟩⟩
    have:=hr.sep.imm b hI;exact hlt b ((hF b hb).2 this) hI
   ·rw[if_neg hid];rcases(hU id).mp hu with q|q
    ·rw[if_pos q];simp
    ·exact absurd q hid
  ·intro id id' hu hu' hne hB hB' b hb hb';simp only[G.one] at hb hb';by_cases hid:id=st.ob.length
   ·rw[if_neg (λe=>hne (hid.trans e.symm))] at hb';rcases(hU id').mp hu' with q|q
    ·rw[if_pos q] at hb';cases hb'
    ·exact hne (hid.trans q.symm)
   ·rw[if_neg hid] at hb;rcases(hU id).mp hu with q|q
    ·rw[if_pos q] at hb;cases hb
    ·exact hid q
  ·intro b hI;exact⟨Nat.lt_of_lt_of_le (hr.sep.imm b hI) hsz,.inl hI⟩
 ·intro id;simp only[G.one,List.length_singleton]
  constructor
  ·rintro(h|h)
   ·exact .inl h
   ·exact .inr Om
  ·rintro(h|h)
   ·exact .inl h
   ·exact .inr Om
 ·intro p hp hB;obtain⟨id,q,rfl⟩:=List.mem_map.mp hp;simp only[Zy,G.one]
  rw[if_neg (hmn id q),if_pos q,if_neg (hmn id q)];obtain⟨o',_,ro⟩:=hr.obs id hB;exact⟨rfl,ro.one⟩
 ·intro j ob' hj;cases j with
  |zero=>simp at hj;subst hj;exact hobj
  |succ j=>simp at hj
theorem Ext.one {X:Fix} {w w':World} {g:G} {mv:List Nat} {n:Nat} {F:List Nat} {v:Value} {z:Nat} (hsep:Sep X w g) (hn:¬ g.B n) (hmB:∀ id∈mv,g.B id)
  (hkeep:∀ b,b<w.heap.size->b∉mv.flatMap g.fp->w'.heap[b]? = w.heap[b]?):Ext w w' g (g.one mv n F v z) (λb=>b∈mv.flatMap g.fp):=by
 refine⟨λb hb=>hb,hkeep,λb hI hb=>?_,hsep.imm,λid hB=>.inl hB,λid hB=>?_,λid hB=>?_⟩
 ·obtain⟨id,q,hb⟩:=List.mem_flatMap.mp hb;exact(hsep.mine id (hmB id q) b hb).1 hI
 ·simp only[G.one];rw[if_neg (show ¬ id=n from λe=>hn (e▸hB))]
 ·simp only[G.one];rw[if_neg (show ¬ id=n from λe=>hn (e▸hB))]
section
variable {P:Program} {E:Env} {st:St} {β:Type} {k:St->Option β} {r:β} {dst:Option Nat} {ty:TypeId} {pos:String} {af:Array Edge} {gd:Option (Nat×Bool)}
theorem app_one {t:T} {ob:Obj} {dst:Option Nat}:st.app dst ⟨t,[],[ob]⟩=(st.newOb ob).put dst t:=by
 have:ZI []=id:=funext λt=>rfl
 simp[St.app,this,ZS,St.newOb]
theorem ZN.one {o:Oper} {t:T} {ob:Obj} (hk:k ((st.newOb ob).put o.dst t)=some r) (h:∀ X w0,Zbh P X w0 o st ⟨t,[],[ob]⟩):ZN P E o st k r:=
 ⟨⟨t,[],[ob]⟩,by rw[app_one];exact hk,by simp,by simp,h⟩
theorem box_new {X:Fix} {w0:World} {o:Oper} {t:TypeId} {cs:List T}
  (h:∀ (stL:St) (g:G) (a:Act) (w:World),Rel P X w g stL a->(∀ x∈o.op.operands.toList,Zi X w g (st.ev x) (a.eval x))->
   ∃ cells:Array Value,(execOp a.eval o).run P w=.ok (.value (.pointer (some ⟨w.heap.size,0,none⟩))) (w.alloc (.cells cells t))/\Zo X w g cs cells.toList):
  Zbh P X w0 o st ⟨.bp st.ob.length 0,[],[.box none t cs]⟩:=by
 refine Zbh.one (mv:=[]) Sp λstL g a w hr hs hR hl hn=>?_
 obtain⟨cells,hrun,rc⟩:=h stL g a w hr hR;have hkeep:∀ b,b<w.heap.size->b∉[].flatMap g.fp->(w.alloc (.cells cells t)).heap[b]? = w.heap[b]?:=λb hb _=>by rw[Zbw,if_neg Om]
 refine⟨_,_,[w.heap.size],.pointer (some ⟨w.heap.size,0,none⟩),0,hrun,by rw[ZaX];omega,rfl,rfl,rfl,hkeep,by simp,λb hb=>?_,by simp,?_,?_⟩
 ·simp at hb;subst hb;exact⟨by rw[ZaX];omega,λh=>by omega⟩
 ·simp only[Zy]
  refine⟨⟨w.heap.size,cells,t,G.one_hv,G.one_fp,by rw[Zbw,if_pos rfl],?_⟩,by simp⟩
  exact Zo.mono (Ext.one hr.sep hn Sp hkeep) rc
 ·simp only[Zi]
  exact⟨G.one_B,w.heap.size,G.one_hv,rfl⟩
theorem opAlloc {t:TypeId} (h:Z1 P E ⟨dst,.alloc t,ty,pos,af,gd⟩ st k=some r):ZN P E ⟨dst,.alloc t,ty,pos,af,gd⟩ st k r:=by
 simp only[Z1] at h;split at h;case h_2=>cases h
 rename_i cs hz;unfold zeroCells at hz;split at hz;case isFalse=>cases hz
 rename_i hzo;injection hz with hz;subst hz;obtain⟨i,zv,hi,hzv,hzs⟩:=Zc8 hzo;obtain⟨zr,_,_,_⟩:=Zb5 hzs;refine ZN.one h λX w0=>box_new λstL g a w hr hR=>⟨zv.cells,ZaN ?_,zr X w g⟩
 show(Sem.bind (zeroValue t) _).run P w=_;rw[Zz,run_zeroValue hi hzv];rfl
theorem opBox {t:TypeId} {x:Operand} (h:Z1 P E ⟨dst,.box t x,ty,pos,af,gd⟩ st k=some r):ZN P E ⟨dst,.box t x,ty,pos,af,gd⟩ st k r:=by
 simp only[Z1] at h;split at h;case isFalse=>cases h
 rename_i hc;refine ZN.one h λX w0=>box_new λstL g a w hr hR=>?_
 obtain⟨rc,_⟩:=Zi.cells hr hc.2 (hR x (by simp[Op.operands]));exact⟨(a.eval x).cells,ZaN rfl,rc⟩
theorem Zj.replicate {w:World} {I:Nat->Prop} {c:Array Value} {cts:List TypeId} {sz:Nat} {z:List C}:∀ (n p:Nat),(∀ j,j<n->Zf P w I c z cts (p+j*sz) [])->Zj P w I c cts sz (List.replicate n z) p []
 |0,p,_=>by simp[Zj]
 |n+1,p,h=>by
  simp only[List.replicate_succ,Zj]
  refine⟨[],[],rfl,by simpa using h 0 Om,Zj.replicate n (p+sz) λj hj=>?_⟩
  have:=h (j+1) Om;rwa[Nat.succ_mul,show p+(j*sz+sz)=p+sz+j*sz from by omega] at this
theorem zeros_get {z:Array Value} {m n:Nat} (hz:z.size=m) (h0:0<m) {q j:Nat} (hq:q<n) {v:Value} (hv:z.toList[j]? = some v):
  ((Array.range (n*m)).map (z[·%z.size]!))[q*m+j]? = some v:=by
 obtain⟨hj,hv⟩:=List.getElem?_eq_some_iff.mp hv;simp at hj;have h1:q*m+j<n*m:=by
  have:q*m+m<=n*m:=by rw[<- Nat.succ_mul];exact Nat.mul_le_mul_right _ hq
  omega
 have h2:(q*m+j)%z.size=j:=by rw[hz,Nat.mul_comm,Nat.mul_add_mod,Nat.mod_eq_of_lt Om]
 simp[h1,h2,hj];exact hv
theorem ZaU {t e:TypeId} (h:Zaq P t=some e):Zs P t=P.cellsOf e:=by simp[Zs,h]
theorem Zcw {t e:TypeId} (h:Zaq P t=some e):ZX P t=ZA P 6 e:=by simp[ZX,h]
theorem opMakeSlice {t:TypeId} {l c:Operand} (hT:Zax P) (h:Z1 P E ⟨dst,.makeSlice t l c,ty,pos,af,gd⟩ st k=some r):ZN P E ⟨dst,.makeSlice t l c,ty,pos,af,gd⟩ st k r:=by
 simp only[Z1] at h;unfold makeDen at h;split at h
 ·cases h
 rename_i e he;have hu:=ZaS he;split at h;case isFalse=>cases h
 rename_i hc;obtain⟨h0,hby⟩:=hc;split at h
 ·cases h
 rename_i z hz;obtain⟨f1,q1,n,hl1,h'⟩:=ZcI h;clear h;obtain⟨f2,q2,m,hl2,h⟩:=ZcI h';clear h';obtain⟨hg,h⟩:=ZB h;unfold zeroCellsC at hz;split at hz;case isFalse=>cases hz
 rename_i hzo;injection hz with hz;obtain⟨i,zv,hi,hzv,hzs⟩:=Zc8 hzo;obtain⟨_,_,hzl,zow⟩:=Zb5 hzs;obtain⟨i',hi',hisz⟩:=Zcr h0;rw[hi] at hi';injection hi' with hi';subst hi';have hbyt:P.bytesOf e=i.bytes:=by simp[Program.bytesOf,hi]
 have hmost:Zx=68719476736:=rfl;refine ZN.one h λX w0=>Zbh.one (mv:=[]) Sp λstL g a w hr hs hR hl hn=>?_
 have hv1:=Zi.scal_eq (d:=.int q1 n) rfl (hl1▸hR l (by simp[Op.operands]));have hv2:=Zi.scal_eq (d:=.int q2 m) rfl (hl2▸hR c (by simp[Op.operands]));obtain⟨nn,rfl⟩:∃ nn:Nat,n=nn:=⟨n.toNat,Om⟩
 have hnm:m=(nn:Int):=by omega
 subst hnm;have hnn:nn<=68719476736:=by omega
 have wl:IntKind.i64.wrap (nn:Int)=nn:=by
  have:(nn:Int)%18446744073709551616=nn:=Int.emod_eq_of_lt Om Om;have h2:¬ ((nn:Int)>=9223372036854775808):=by omega
  simp[IntKind.wrap,IntKind.bits,IntKind.signed,this,h2]
 have hbb:i.bytes<=1000:=by omega
 have hprod:nn*i.bytes<=68719476736*1000:=Nat.mul_le_mul hnn hbb;have hzsz:zv.cells.size=i.size:=by
  have h1:=hT t (by rw[ZaU he];omega);rw[Zcw he,ZaU he] at h1;have h2:(ZaC P e).length=P.cellsOf e:=by simp[ZaC,h1]
  have h3:zv.cells.size=(ZaC P e).length:=by simpa using hzl.symm
  omega
 have hrun:(Instr.makeSlice t (.int q1 nn) (.int q2 nn)).run P w=.ok (.slice (some ⟨w.heap.size,0,none⟩) nn nn)
   (w.alloc (.cells ((Array.range (nn*i.size)).map (((if nn*i.size=0 then #[] else zv.cells):Array Value)[·%((if nn*i.size=0 then #[] else zv.cells):Array Value).size]!)) e)):=by
  have n1:¬ ((nn:Int)<0):=by omega
  have n2:¬ (281474976710656<(i.bytes:Int)*(nn:Int)):=by
   have:(i.bytes:Int)*(nn:Int)=((nn*i.bytes:Nat):Int):=by push_cast;exact Int.mul_comm _ _
   rw[this];omega
  have n3:¬ (nn*i.bytes>roomBytes):=by simp only[roomBytes];omega
  by_cases hz0:nn*i.size=0
  ·simp[Instr.makeSlice,Zk hu,asInt,asIntOf,typeInfo,hi,sizeOf,wl,n1,n2,n3,hz0,newRow,askRoom]
  ·simp[Instr.makeSlice,Zk hu,asInt,asIntOf,typeInfo,hi,sizeOf,zeroValue,hzv,wl,n1,n2,n3,hz0,newRow,askRoom]
 have hkeep:∀ o:Go.Obj,∀ b,b<w.heap.size->b∉[].flatMap g.fp->(w.alloc o).heap[b]? = w.heap[b]?:=λo b hb _=>by rw[Zbw,if_neg Om]
 have hrun':(execOp a.eval ⟨dst,.makeSlice t l c,ty,pos,af,gd⟩).run P w=_:=ZaN (show(Instr.makeSlice t (a.eval l) (a.eval c)).run P w=_ by rw[hv1,hv2];exact hrun);refine⟨_,_,[w.heap.size],.slice (some ⟨w.heap.size,0,none⟩) nn nn,Zs P t,hrun',by rw[ZaX];omega,rfl,rfl,rfl,hkeep _,by simp,λb hb=>?_,by simp,?_,?_⟩
 ·simp at hb;subst hb;exact⟨by rw[ZaX];omega,λh=>by omega⟩
 ·simp only[Zy]
  refine⟨⟨?_,G.one_sz⟩,λ_ b hb=>?_,by simp⟩
  case refine_2=>
   rw[G.one_fp] at hb;simp at hb;subst hb;exact .inl (Nat.le_trans hs.base hs.size)
  rw[G.one_hv,G.one_fp];simp only[OwC]
  refine⟨_,nn,by simp,.inr ⟨w.heap.size,0,_,e,[],rfl,λ_=>rfl,rfl,by rw[Zbw,if_pos rfl],by rw[ZaU he];omega,by rw[ZaU he];simp[hisz],by simp,?_⟩⟩
  simp only[Int.toNat_natCast]
  refine Zj.replicate nn 0 λj hj=>?_
  rw[<- hz];refine zow P _ _ _ _ _ ?_ λjj v hv=>?_
  ·rw[Zcw he];simp only[ZaC,List.length_map] at hzl;exact hzl
  ·have hz0:¬ nn*i.size=0:=by
    have:0<nn*i.size:=Nat.mul_pos Om Om;omega
   rw[if_neg hz0,ZaU he,<- hisz,Nat.zero_add];exact zeros_get hzsz Om hj hv
 ·simp only[Zi]
  exact⟨G.one_B,G.one_hv.symm⟩
end
end Go.T
namespace Go.T
def ZaZ (st:St) (ct:TypeId) (t:T) (f:Bool) (c:C) (m:List Nat):Prop:=
 match t with
 |.d fr x=>f=(fr||Zak x)/\c=.d x/\m=[]
 |.nil=>f=true/\c=.own []/\m=[]
 |.row id=>(∃ og xs,st.ob[id]? = some (.row og f ct xs)/\c=.own xs/\m=[id])\/(∃ xs,st.ob[id]? = some (.frz f xs)/\c=.d (.sl xs)/\m=[])
 |_=>False
def ZG (st:St):List TypeId->List T->Bool->List C->List Nat->Prop
 |[],[],f,cs,mv=>f=true/\cs=[]/\mv=[]
 |ct::cts,t::ts,f,cs,mv=>∃ f1 f2 c cs' m1 mv',f=(f1&&f2)/\cs=c::cs'/\mv=m1++mv'/\ZaZ st ct t f1 c m1/\ZG st cts ts f2 cs' mv'
 |_,_,_,_,_=>False
def St.gones (st:St) (mv:List Nat):St:=⟨st.tm.map (ZI (mv.map (·,.gone))),ZS st.ob (mv.map (·,.gone))⟩
theorem St.gones_nil (st:St):st.gones []=st:=by
 have:ZI []=id:=funext λt=>rfl
 simp[St.gones,this,ZS]
theorem St.gones_cons (st:St) (id:Nat) (mv:List Nat):st.gones (id::mv)=(st.setOb id .gone).gones mv:=by
 simp only[St.gones,St.setOb,List.map_map,List.map_cons]
 rfl
theorem St.gones_append (st:St) (m1 m2:List Nat):st.gones (m1++m2)=(st.gones m1).gones m2:=by
 induction m1 generalizing st with
 |nil=>rw[List.nil_append,St.gones_nil]
 |cons x m1 ih=>rw[List.cons_append,St.gones_cons,St.gones_cons,ih]
theorem St.gones_ob {st:St} {mv:List Nat} {id:Nat} {o:Obj} (h:(st.gones mv).ob[id]? = some o) (ho:o≠.gone):id∉mv/\st.ob[id]? = some o:=by
 have:id∉mv:=by
  intro hm;have hl:id<st.ob.length:=by
   have:=(List.getElem?_eq_some_iff.mp h).1;simp only[St.gones] at this;rwa[ZH] at this
  obtain⟨o',h1,h2⟩:=ZbZ (mv.map (·,Obj.gone)) st.ob id ⟨(id,.gone),List.mem_map.mpr ⟨id,hm,rfl⟩,rfl⟩ hl;obtain⟨q,_,hq⟩:=List.mem_map.mp h1;injection hq with _ hq;simp only[St.gones] at h;rw[h2] at h;injection h with h;exact ho (h.symm.trans hq.symm)
 refine⟨this,?_⟩
 simp only[St.gones] at h;rwa[Zay _ _ _ (by
  intro p hp e;obtain⟨q,hq,rfl⟩:=List.mem_map.mp hp;exact this (e▸hq))] at h
theorem ZaZ.back {st st1:St} (hb:∀ (id:Nat) (o:Obj),st1.ob[id]? = some o->o≠.gone->st.ob[id]? = some o) {ct:TypeId} {t:T} {f:Bool} {c:C} {m:List Nat} (h:ZaZ st1 ct t f c m):ZaZ st ct t f c m:=by
 unfold ZaZ at h⊢;split at h
 ·exact h
 ·exact h
 ·rcases h with⟨og,xs,h1,h2⟩|⟨xs,h1,h2⟩
  ·exact .inl ⟨og,xs,hb _ _ h1 Sp,h2⟩
  ·exact .inr ⟨xs,hb _ _ h1 Sp,h2⟩
 ·exact h
theorem ZG.back {st st1:St} (hb:∀ (id:Nat) (o:Obj),st1.ob[id]? = some o->o≠.gone->st.ob[id]? = some o):∀ {cts:List TypeId} {ts:List T} {f:Bool} {cs:List C} {mv:List Nat},ZG st1 cts ts f cs mv->ZG st cts ts f cs mv
 |[],[],_,_,_,h=>h
 |ct::cts,t::ts,f,cs,mv,h=>by
  simp only[ZG] at h⊢;obtain⟨f1,f2,c,cs',m1,mv',e1,e2,e3,h1,h2⟩:=h;exact⟨f1,f2,c,cs',m1,mv',e1,e2,e3,ZaZ.back hb h1,ZG.back hb h2⟩
 |[],_::_,_,_,_,h=>by simp only[ZG] at h
 |_::_,[],_,_,_,h=>by simp only[ZG] at h
theorem ZaZ.rows {st:St} {ct:TypeId} {t:T} {f:Bool} {c:C} {m:List Nat} (h:ZaZ st ct t f c m):∀ id∈m,∃ og f xs,st.ob[id]? = some (.row og f ct xs)/\t=.row id:=by
 unfold ZaZ at h;split at h
 ·obtain⟨_,_,rfl⟩:=h;simp
 ·obtain⟨_,_,rfl⟩:=h;simp
 ·rcases h with⟨og,xs,h1,_,rfl⟩|⟨xs,h1,_,rfl⟩
  ·intro id hid;simp at hid;subst hid;exact⟨_,_,_,h1,rfl⟩
  ·simp
 ·exact absurd h id
theorem ZG.rows {st:St}:∀ {cts:List TypeId} {ts:List T} {f:Bool} {cs:List C} {mv:List Nat},ZG st cts ts f cs mv->∀ id∈mv,(∃ og f ct xs,st.ob[id]? = some (.row og f ct xs))/\.row id∈ts
 |[],[],_,_,_,h,id,hid=>by simp only[ZG] at h;rw[h.2.2] at hid;cases hid
 |ct::cts,t::ts,f,cs,mv,h,id,hid=>by
  simp only[ZG] at h;obtain⟨f1,f2,c,cs',m1,mv',e1,e2,rfl,h1,h2⟩:=h;rcases List.mem_append.mp hid with q|q
  ·obtain⟨og,f,xs,h3,rfl⟩:=h1.rows id q;exact⟨⟨og,f,ct,xs,h3⟩,by simp⟩
  ·obtain⟨h3,h4⟩:=ZG.rows h2 id q;exact⟨h3,by simp[h4]⟩
 |[],_::_,_,_,_,h,_,_=>by simp only[ZG] at h
 |_::_,[],_,_,_,h,_,_=>by simp only[ZG] at h
theorem cellC_mv {st st':St} {ct:TypeId} {t:T} {f:Bool} {c:C} (h:cellC st ct t=some (f,c,st')):∃ m,ZaZ st ct t f c m/\m.Nodup/\st'=st.gones m:=by
 unfold cellC at h;split at h
 ·injection h with h;injection h with h1 h;injection h with h2 h3;subst h1 h2 h3;exact⟨[],by simp[ZaZ],by simp,by rw[St.gones_nil]⟩
 ·injection h with h;injection h with h1 h;injection h with h2 h3;subst h1 h2 h3;exact⟨[],by simp[ZaZ],by simp,by rw[St.gones_nil]⟩
 ·split at h
  ·split at h
   ·rename_i hct;subst hct;rename_i id _ og fr rt xs ho;injection h with h;injection h with h1 h;injection h with h2 h3;subst h1 h2 h3;exact⟨[id],by simp[ZaZ,ho],by simp,by rw[St.gones_cons,St.gones_nil]⟩
   ·cases h
  ·rename_i ho;injection h with h;injection h with h1 h;injection h with h2 h3;subst h1 h2 h3;exact⟨[],by simp[ZaZ,ho],by simp,by rw[St.gones_nil]⟩
  ·cases h
 ·cases h
theorem cellsC_mv:∀ {cts:List TypeId} {ts:List T} {st st':St} {f:Bool} {cs:List C},cellsC st cts ts=some (f,cs,st')->∃ mv,ZG st cts ts f cs mv/\mv.Nodup/\st'=st.gones mv
 |[],[],st,st',f,cs,h=>by
  simp only[cellsC] at h;injection h with h;injection h with h1 h;injection h with h2 h3;subst h1 h2 h3;exact⟨[],by simp[ZG],by simp,by rw[St.gones_nil]⟩
 |ct::cts,t::ts,st,st',f,cs,h=>by
  simp only[cellsC] at h;split at h;case h_2=>cases h
  rename_i f1 c st1 h1;split at h;case h_2=>cases h
  rename_i f2 cs' st2 h2;injection h with h;injection h with e1 h;injection h with e2 e3;subst e1 e2 e3;obtain⟨m1,a1,a2,rfl⟩:=cellC_mv h1;obtain⟨mv',b1,b2,rfl⟩:=cellsC_mv h2;have hb:∀ (id:Nat) (o:Obj),(st.gones m1).ob[id]? = some o->o≠.gone->st.ob[id]? = some o:=λid o h ho=>(St.gones_ob h ho).2
  refine⟨m1++mv',⟨f1,f2,c,cs',m1,mv',rfl,rfl,rfl,a1,ZG.back hb b1⟩,?_,by rw[St.gones_append]⟩
  refine List.nodup_append.mpr ⟨a2,b2,λx hx y hy e=>?_⟩;subst e;obtain⟨⟨og,f,ct',xs,h3⟩,_⟩:=ZG.rows b1 x hy;exact(St.gones_ob h3 Sp).1 hx
 |[],_::_,_,_,_,_,h=>by simp[cellsC] at h
 |_::_,[],_,_,_,_,h=>by simp[cellsC] at h
def ZD (ts:List T):List Nat:=ts.flatMap λt=>match t with|.row id=>[id]|_=>[]
theorem rowsOf_look {st:St} {x:T}:∀ id∈ZD (ZK x),id∈ZO st x:=by
 intro id hid;cases x with
 |agg ts=>exact hid
 |row id'=>simpa[ZD,ZK,ZO] using hid
 |_=>simp[ZD,ZK] at hid
theorem rowsOf_mem {ts:List T} {id:Nat} (h:.row id∈ts):id∈ZD ts:=List.mem_flatMap.mpr ⟨.row id,h,by simp⟩
theorem IM_and {X:Fix} {g:G} {f1 f2:Bool} {b:Nat} (h:g.IM X f1 b):g.IM X (f1&&f2) b:=⟨h.1,λe=>h.2 (by simp at e;exact e.1)⟩
theorem IM_and' {X:Fix} {g:G} {f1 f2:Bool} {b:Nat} (h:g.IM X f2 b):g.IM X (f1&&f2) b:=⟨h.1,λe=>h.2 (by simp at e;exact e.2)⟩
theorem RdD.weaken {w:World} {I I':Nat->Prop} (h:∀ b,I b->I' b) {d:D} {v:Value} (r:RdD w I d v):RdD w I' d v:=RdD.mono ⟨h,λ_ _=>rfl⟩ r
theorem OwC.weaken {P:Program} {w:World} {I I':Nat->Prop} (h:∀ b,I b->I' b) {x:C} {ct:TypeId} {v:Value} {F:List Nat} (r:OwC P w I x ct v F):OwC P w I' x ct v F:=OwC.mono ⟨⟨h,λ_ _=>rfl⟩,λ_ _=>rfl⟩ r
theorem Zf.weaken {P:Program} {w:World} {I I':Nat->Prop} (h:∀ b,I b->I' b) {c:Array Value} {xs:List C} {cts:List TypeId} {p:Nat} {F:List Nat} (r:Zf P w I c xs cts p F):Zf P w I' c xs cts p F:=Zf.mono ⟨⟨h,λ_ _=>rfl⟩,λ_ _=>rfl⟩ r
theorem Zj.weaken {P:Program} {w:World} {I I':Nat->Prop} (h:∀ b,I b->I' b) {c:Array Value} {cts:List TypeId} {sz:Nat} {xs:List (List C)} {p:Nat} {F:List Nat} (r:Zj P w I c cts sz xs p F):Zj P w I' c cts sz xs p F:=Zj.mono ⟨⟨h,λ_ _=>rfl⟩,λ_ _=>rfl⟩ r
theorem ZaZ.sound {P:Program} {X:Fix} {w:World} {g:G} {stL st:St} {a:Act} (hr:Rel P X w g stL a) {ct:TypeId} {t:T} {f:Bool} {c:C} {m:List Nat} (h:ZaZ st ct t f c m) (hs:Z9 g stL st (ZD [t])) {v:Value} (r:Zi X w g t v):
  OwC P w (g.IM X f) c ct v (m.flatMap g.fp):=by
 unfold ZaZ at h;split at h
 ·rename_i fr x;obtain⟨rfl,rfl,rfl⟩:=h;simp only[Zi] at r;simp only[OwC,List.flatMap_nil,true_and]
  cases hsc:Zak x with
  |true=>
   have hv:=Zi.scal_eq (X:=X) (w:=w) (g:=g) (fr:=fr) (v:=v) hsc (by simpa only[Zi] using r);subst hv;exact RdD.scal hsc
  |false=>simpa using r
 ·obtain⟨rfl,rfl,rfl⟩:=h;simp only[Zi] at r;obtain⟨ad,rfl⟩:=r;simp only[OwC]
  exact⟨ad,0,rfl,.inl ⟨trivial,rfl,rfl⟩⟩
 ·rename_i id;simp only[Zi] at r;obtain⟨hB,rfl⟩:=r;rcases h with⟨og,xs,h1,rfl,rfl⟩|⟨xs,h1,rfl,rfl⟩
  ·obtain⟨_,_,⟨row,_⟩,_⟩:=hs.obj hr (by simp[ZD]) h1;simpa using row
  ·obtain⟨_,_,hrd,_⟩:=hs.obj hr (by simp[ZD]) h1;simp only[OwC,List.flatMap_nil,true_and]
   exact hrd
 ·exact absurd h id
theorem ZG.sound {P:Program} {X:Fix} {w:World} {g:G} {stL st:St} {a:Act} (hr:Rel P X w g stL a) {c:Array Value}:∀ {cts:List TypeId} {ts:List T} {f:Bool} {cs:List C} {mv:List Nat} {vs:List Value} {p:Nat},ZG st cts ts f cs mv->Z9 g stL st (ZD ts)->
  Zo X w g ts vs->(∀ (j:Nat) (v:Value),vs[j]? = some v->c[p+j]? = some v)->Zf P w (g.IM X f) c cs cts p (mv.flatMap g.fp)
 |[],[],f,cs,mv,vs,p,h,hs,r,hc=>by
  simp only[ZG] at h;obtain⟨rfl,rfl,rfl⟩:=h;simp[Zf]
 |ct::cts,t::ts,f,cs,mv,vs,p,h,hs,r,hc=>by
  simp only[ZG] at h;obtain⟨f1,f2,c0,cs',m1,mv',rfl,rfl,rfl,h1,h2⟩:=h;simp only[Zo] at r;obtain⟨v,vs',rfl,_,r1,r2⟩:=r;have hs1:Z9 g stL st (ZD [t]):=hs.sub λid hid=>by
   simp only[ZD,List.flatMap_cons,List.mem_append] at hid⊢;exact .inl (by simpa using hid)
  have hs2:Z9 g stL st (ZD ts):=hs.sub λid hid=>by
   simp only[ZD,List.flatMap_cons,List.mem_append] at hid⊢;exact .inr hid
  simp only[Zf]
  refine⟨ct,cts,v,m1.flatMap g.fp,mv'.flatMap g.fp,rfl,by simp,by simpa using hc 0 v Sp,OwC.weaken (λb hb=>IM_and hb) (ZaZ.sound hr h1 hs1 r1),Zf.weaken (λb hb=>IM_and' hb) (ZG.sound hr h2 hs2 r2 λj u hu=>?_)⟩
  have:=hc (j+1) u (by simpa using hu);rwa[show p+1+j=p+(j+1) from by omega]
 |[],_::_,_,_,_,_,_,h,_,_,_=>by simp only[ZG] at h
 |_::_,[],_,_,_,_,_,h,_,_,_=>by simp only[ZG] at h
theorem ZaZ.fresh {P:Program} {X:Fix} {w:World} {g:G} {stL st:St} {a:Act} (hr:Rel P X w g stL a) {ct:TypeId} {t:T} {f:Bool} {c:C} {m:List Nat} (h:ZaZ st ct t f c m) (hs:Z9 g stL st (ZD [t])):
  f=true->∀ b,b∈m.flatMap g.fp->X.new b:=by
 unfold ZaZ at h;split at h
 ·obtain⟨_,_,rfl⟩:=h;simp
 ·obtain⟨_,_,rfl⟩:=h;simp
 ·rcases h with⟨og,xs,h1,rfl,rfl⟩|⟨xs,h1,rfl,rfl⟩
  ·obtain⟨_,_,_,hfr,_⟩:=hs.obj hr (by simp[ZD]) h1;simpa using hfr
  ·simp
 ·exact absurd h id
theorem ZG.fresh {P:Program} {X:Fix} {w:World} {g:G} {stL st:St} {a:Act} (hr:Rel P X w g stL a):∀ {cts:List TypeId} {ts:List T} {f:Bool} {cs:List C} {mv:List Nat},ZG st cts ts f cs mv->Z9 g stL st (ZD ts)->
  f=true->∀ b,b∈mv.flatMap g.fp->X.new b
 |[],[],f,cs,mv,h,hs=>by
  simp only[ZG] at h;obtain⟨_,_,rfl⟩:=h;simp
 |ct::cts,t::ts,f,cs,mv,h,hs=>by
  simp only[ZG] at h;obtain⟨f1,f2,c0,cs',m1,mv',rfl,rfl,rfl,h1,h2⟩:=h;have hs1:Z9 g stL st (ZD [t]):=hs.sub λid hid=>by
   simp only[ZD,List.flatMap_cons,List.mem_append] at hid⊢;exact .inl (by simpa using hid)
  have hs2:Z9 g stL st (ZD ts):=hs.sub λid hid=>by
   simp only[ZD,List.flatMap_cons,List.mem_append] at hid⊢;exact .inr hid
  intro hf b hb;simp at hf;rw[List.flatMap_append] at hb;rcases List.mem_append.mp hb with hb|hb
  ·exact ZaZ.fresh hr h1 hs1 hf.1 b hb
  ·exact ZG.fresh hr h2 hs2 hf.2 b hb
 |[],_::_,_,_,_,h,_=>by simp only[ZG] at h
 |_::_,[],_,_,_,h,_=>by simp only[ZG] at h
theorem ZG.held {P:Program} {X:Fix} {w:World} {g:G} {stL st:St} {a:Act} (hr:Rel P X w g stL a) {cts:List TypeId} {ts:List T} {f:Bool} {cs:List C} {mv:List Nat} (h:ZG st cts ts f cs mv) (hs:Z9 g stL st (ZD ts)):
  ∀ id∈mv,g.B id:=λid hid=>by
 obtain⟨⟨og,f,ct,xs,ho⟩,hm⟩:=ZG.rows h id hid;exact(hs id (rowsOf_mem hm) (by rw[ho];rfl)).2
theorem ZcT {X:Fix} {w:World} {g:G} (hsep:Sep X w g):∀ {mv:List Nat},mv.Nodup->(∀ id∈mv,g.B id)->(mv.flatMap g.fp).Nodup
 |[],_,_=>by simp
 |id::mv,hn,hB=>by
  rw[List.flatMap_cons];simp at hn;refine List.nodup_append.mpr ⟨hsep.nodup id (hB id Sp),ZcT hsep hn.2 λx hx=>hB x (by simp[hx]),λb hb b' hb' e=>?_⟩;subst e;obtain⟨id',hid',hb'⟩:=List.mem_flatMap.mp hb';exact hsep.apart id id' (hB id Sp) (hB id' (by simp[hid'])) (λe=>hn.1 (e▸hid')) b hb hb'
theorem Zf.append {P:Program} {w:World} {I:Nat->Prop} {c:Array Value}:∀ {xs ys:List C} {cts:List TypeId} {p:Nat} {F:List Nat},Zf P w I c (xs++ys) cts p F ↔
  ∃ F1 F2,F=F1++F2/\Zf P w I c xs (cts.take xs.length) p F1/\Zf P w I c ys (cts.drop xs.length) (p+xs.length) F2
 |[],ys,cts,p,F=>by
  simp only[List.nil_append,List.length_nil,List.take_zero,List.drop_zero,Nat.add_zero,Zf]
  constructor
  ·intro h;exact⟨[],F,rfl,⟨rfl,trivial⟩,h⟩
  ·rintro⟨F1,F2,rfl,⟨rfl,_⟩,h⟩;exact h
 |x::xs,ys,cts,p,F=>by
  simp only[List.cons_append,Zf,List.length_cons]
  constructor
  ·rintro⟨ct,cts',v,F1,F2,rfl,rfl,hv,h1,h2⟩;obtain⟨F3,F4,rfl,h3,h4⟩:=Zf.append.mp h2;exact⟨F1++F3,F4,by simp,⟨ct,cts'.take xs.length,v,F1,F3,by simp,rfl,hv,h1,h3⟩,by simpa[Nat.add_assoc,Nat.add_comm 1] using h4⟩
  ·rintro⟨F1,F2,rfl,⟨ct,cts',v,F3,F4,hct,rfl,hv,h1,h2⟩,h3⟩;cases cts with
   |nil=>simp at hct
   |cons ct' cts=>
    simp at hct;obtain⟨rfl,rfl⟩:=hct;exact⟨_,cts,v,F3,F4++F2,rfl,by simp,hv,h1,Zf.append.mpr ⟨F4,F2,rfl,h2,by simpa[Nat.add_assoc,Nat.add_comm 1] using h3⟩⟩
theorem Zj.append {P:Program} {w:World} {I:Nat->Prop} {c:Array Value} {cts:List TypeId} {sz:Nat}:∀ {xs ys:List (List C)} {p:Nat} {F:List Nat},Zj P w I c cts sz (xs++ys) p F ↔
  ∃ F1 F2,F=F1++F2/\Zj P w I c cts sz xs p F1/\Zj P w I c cts sz ys (p+xs.length*sz) F2
 |[],ys,p,F=>by
  simp only[List.nil_append,List.length_nil,Nat.zero_mul,Nat.add_zero,Zj]
  constructor
  ·intro h;exact⟨[],F,rfl,rfl,h⟩
  ·rintro⟨F1,F2,rfl,rfl,h⟩;exact h
 |x::xs,ys,p,F=>by
  simp only[List.cons_append,Zj,List.length_cons]
  have hp:p+sz+xs.length*sz=p+(xs.length+1)*sz:=by rw[Nat.succ_mul];omega
  constructor
  ·rintro⟨F1,F2,rfl,h1,h2⟩;obtain⟨F3,F4,rfl,h3,h4⟩:=Zj.append.mp h2;exact⟨F1++F3,F4,by simp,⟨F1,F3,rfl,h1,h3⟩,by rwa[<- hp]⟩
  ·rintro⟨F1,F2,rfl,⟨F3,F4,rfl,h1,h2⟩,h3⟩;exact⟨F3,F4++F2,by simp,h1,Zj.append.mpr ⟨F4,F2,rfl,h2,by rwa[hp]⟩⟩
theorem Zf.congr {P:Program} {w:World} {I:Nat->Prop} {c c':Array Value}:∀ {xs:List C} {cts:List TypeId} {p p':Nat} {F:List Nat},(∀ (j:Nat) (v:Value),j<xs.length->c[p+j]? = some v->c'[p'+j]? = some v)->Zf P w I c xs cts p F->Zf P w I c' xs cts p' F
 |[],_,_,_,_,_,r=>by simp only[Zf] at r⊢;exact r
 |x::xs,cts,p,p',F,h,r=>by
  simp only[Zf] at r⊢;obtain⟨ct,cts',v,F1,F2,rfl,rfl,hv,r1,r2⟩:=r;exact⟨ct,cts',v,F1,F2,rfl,rfl,by simpa using h 0 v Sp (by simpa using hv),r1,Zf.congr (λj u hj hu=>by
   have:=h (j+1) u (by simpa using hj) (by rwa[show p+(j+1)=p+1+j from by omega]);rwa[show p'+1+j=p'+(j+1) from by omega]) r2⟩
theorem Zj.congr {P:Program} {w:World} {I:Nat->Prop} {c c':Array Value} {cts:List TypeId} {sz:Nat} (hsz:cts.length=sz):∀ {xs:List (List C)} {p p':Nat} {F:List Nat},(∀ (j:Nat) (v:Value),j<xs.length*sz->c[p+j]? = some v->c'[p'+j]? = some v)->Zj P w I c cts sz xs p F->Zj P w I c' cts sz xs p' F
 |[],_,_,_,_,r=>by simp only[Zj] at r⊢;exact r
 |x::xs,p,p',F,h,r=>by
  simp only[Zj] at r⊢;obtain⟨F1,F2,rfl,r1,r2⟩:=r;have hx:x.length=sz:=by rw[Zf.length r1,hsz]
  have hm:(xs.length+1)*sz=xs.length*sz+sz:=Nat.succ_mul _ _;refine⟨F1,F2,rfl,Zf.congr (λj u hj hu=>h j u (by simp only[List.length_cons];omega) hu) r1,Zj.congr hsz (λj u hj hu=>?_) r2⟩
  have:=h (sz+j) u (by simp only[List.length_cons];omega) (by rwa[<- Nat.add_assoc]);rwa[<- Nat.add_assoc] at this
theorem Zj.len {P:Program} {w:World} {I:Nat->Prop} {c:Array Value} {cts:List TypeId} {sz:Nat} (hsz:cts.length=sz):∀ {xs:List (List C)} {p:Nat} {F:List Nat},Zj P w I c cts sz xs p F->∀ x∈xs,x.length=sz
 |[],_,_,_,_,h=>by cases h
 |x::xs,p,F,r,y,h=>by
  simp only[Zj] at r;obtain⟨F1,F2,rfl,r1,r2⟩:=r;rcases List.mem_cons.mp h with rfl|h
  ·rw[Zf.length r1,hsz]
  ·exact Zj.len hsz r2 y h
end Go.T
namespace Go.T
def G.frz (g:G) (id:Nat):G where
 I b:=g.I b\/b∈g.fp id
 B:=g.B
 fp i:=if i=id then[] else g.fp i
 hv:=g.hv
 sz:=g.sz
theorem G.frz_ext {X:Fix} {w:World} {g:G} (hsep:Sep X w g) (id:Nat):Ext w w g (g.frz id) (λ_=>False):=
 ⟨λb hb=>.inl hb,λ_ _ _=>rfl,λ_ _ h=>h,hsep.imm,λ_ h=>h,λ_ _=>rfl,λ_ _=>rfl⟩
theorem Rel.freeze {P:Program} {X:Fix} {w0 w:World} {g:G} {st:St} {a:Act} (hT:Zax P) (hr:Rel P X w g st a) (hs:Zal X w0 w) {id:Nat} {og:Option Nat} {fr:Bool} {ct:TypeId} {xs:List (List C)}
  (ho:st.ob[id]? = some (.row og fr ct xs)) (hB:g.B id):Rel P X w (g.frz id) (st.setOb id (.frz fr (C.immRows xs))) a:=by
 obtain⟨o',ho',ro⟩:=hr.obs id hB;rw[ho] at ho';injection ho' with ho';subst ho';simp only[Zy] at ro;obtain⟨⟨row,hz⟩,hfr,horg⟩:=ro;refine Rel.update (λi=>i=id) hr hs ?_ rfl ⟨by simp[St.setOb,hr.tms.1],?_⟩ ?_ ?_
 ·refine⟨Nat.le_refl _,rfl,rfl,rfl,λ_ _ _=>rfl,λb hb=>.inl hb,λ_ h=>h,λ_ _=>rfl,λ_ _=>rfl,λi hi=>⟨λh=>h,λ_=>by simp only[G.frz];rw[if_neg hi]⟩,λi hi _=>by simp only[G.frz];rw[if_pos hi];simp,λi i' hi hi' hne=>absurd (hi.trans hi'.symm) hne,λb hb=>?_⟩
  rcases hb with hb|hb
  ·exact⟨hr.sep.imm b hb,.inl hb⟩
  ·exact⟨(hr.sep.mine id hB b hb).2.1,.inr (.inr ⟨id,rfl,hB,hb⟩)⟩
 ·intro i t ht;rw[List.getElem?_map] at ht;obtain⟨t0,ht0,rfl⟩:=Option.map_eq_some_iff.mp ht;obtain⟨v0,hv0,_⟩:=hr.tms.2 i t0 ht0;rcases Zbv [(id,Obj.gone)] t0 with⟨hk,hsub⟩|hk
  ·have hk':Zaa id t0=t0:=hk;refine .inr (.inr ⟨by rw[hk'];exact ht0,rfl,λid' j off e=>?_⟩);rw[hk'] at e;exact λe'=>hsub id' j off e (id,.gone) Sp e'.symm
  ·exact .inl ⟨hk,v0,hv0⟩
 ·intro i hi;rw[List.getElem?_set_ne (λe=>hi e.symm)]
 ·intro i hi _;subst hi;refine⟨.frz fr (C.immRows xs),?_,?_⟩
  ·rw[List.getElem?_set_self (List.getElem?_eq_some_iff.mp ho).1]
  ·simp only[Zy]
   refine⟨?_,by simp[G.frz]⟩
   have:=OwC.imm (J:=(g.frz i).IM X fr) (λb hb=>⟨.inl hb.1,hb.2⟩) (λb hb=>⟨.inr hb,λe=>hfr e b hb⟩) hT row;exact(by simpa only[C.imm] using this:RdD w _ _ (g.hv i))
theorem ZM.drop {w:World} {I:Nat->Prop} {c:Array Value} {sz:Nat}:∀ {l:Nat} {xs:List (List D)} {p:Nat},ZM w I c sz p xs->ZM w I c sz (p+l*sz) (xs.drop l)
 |0,xs,p,r=>by simpa using r
 |l+1,[],p,r=>by simp[ZM]
 |l+1,x::xs,p,r=>by
  simp only[ZM] at r;have:=ZM.drop (l:=l) r.2;rw[show p+(l+1)*sz=p+sz+l*sz from by rw[Nat.succ_mul];omega];simpa using this
theorem ZM.take {w:World} {I:Nat->Prop} {c:Array Value} {sz:Nat}:∀ {n:Nat} {xs:List (List D)} {p:Nat},ZM w I c sz p xs->ZM w I c sz p (xs.take n)
 |0,xs,p,r=>by simp[ZM]
 |n+1,[],p,r=>by simp[ZM]
 |n+1,x::xs,p,r=>by
  simp only[List.take_succ_cons,ZM] at r⊢;exact⟨r.1,ZM.take r.2⟩
theorem RdD.cut {w:World} {I:Nat->Prop} {xs:List (List D)} {a:Option Addr} {len cap sz l h:Nat} (r:RdD w I (.sl xs) (.slice a len cap)) (hok:rowsOk sz xs) (h1:l<=h) (h2:h<=xs.length):
  len=xs.length/\len<=cap/\RdD w I (.sl ((xs.drop l).take (h-l))) (.slice (if cap=l then a else a.map (·.add (l*sz))) (h-l) (cap-l)):=by
 simp only[RdD] at r;obtain⟨a',len',cap',hv,hl,hc,r⟩:=r;injection hv with e1 e2 e3;subst e1 e2 e3;refine⟨hl,hc,?_⟩
 simp only[RdD]
 have hlen:((xs.drop l).take (h-l)).length=h-l:=by simp;omega
 refine⟨_,_,_,rfl,hlen.symm,Om,?_⟩
 by_cases hne:h-l=0
 ·exact .inl (List.eq_nil_of_length_eq_zero Om)
 ·right;rcases r with rfl|⟨b,off,c,e,fr,sz',rfl,hI,hb,h0,rows⟩
  ·simp at h2;omega
  ·have hx0:0<xs.length:=by omega
   have hsz:sz'=sz:=by
    have g1:=(ZM.get rows (i:=0) (x:=xs[0]) (by simp[hx0])).1;have g2:=hok xs[0] (List.getElem_mem hx0);omega
   subst hsz;refine⟨b,off+l*sz',c,e,fr,sz',?_,hI,hb,h0,ZM.take (ZM.drop rows)⟩
   rw[if_neg Om];simp only[Option.map_some,ZbW]
theorem ZaR {β:Type} {x:Option T} {d:Int} {k:Int->Option β} {y:β} (h:ZbQ x d k=some y):∃ n,k n=some y/\(x=none/\n=d\/∃ f q,x=some (.d f (.int q n))):=by
 unfold ZbQ at h;split at h
 ·obtain⟨f,q,n,rfl,h'⟩:=ZcI h;exact⟨n,h',.inr ⟨f,q,rfl⟩⟩
 ·exact⟨d,h,.inl ⟨rfl,rfl⟩⟩
def BoundV (x:Option Value) (d n:Int):Prop:=x=none/\n=d\/∃ q,x=some (.int q n)
theorem boundV {X:Fix} {w:World} {g:G} {st:St} {a:Act} {lo:Option Operand} {d n:Int} (h:lo.map st.ev=none/\n=d\/∃ f q,lo.map st.ev=some (.d f (.int q n))) (hR:∀ x,lo=some x->Zi X w g (st.ev x) (a.eval x)):BoundV (lo.map a.eval) d n:=by
 cases lo with
 |none=>
  rcases h with⟨_,h⟩|⟨f,q,h⟩
  ·exact .inl ⟨rfl,h⟩
  ·simp at h
 |some x=>
  rcases h with⟨h,_⟩|⟨f,q,h⟩
  ·simp at h
  ·simp at h;have:=Zi.scal_eq (d:=.int q n) rfl (h▸hR x rfl);exact .inr ⟨q,by simp[this,ZaJ]⟩
theorem ZcD {P:Program} {t e:TypeId} (hu:P.underlying t=some (.slice e)) (h0:0<P.cellsOf e) {a:Option Addr} {len cap:Nat} {lo hi:Option Value} {l h:Int} (hlo:BoundV lo 0 l) (hhi:BoundV hi len h) (h1:0<=l) (h2:l<=h) (h3:h<=cap) (w:World):
  (Instr.sliceAt t (.slice a len cap) lo hi none).run P w=.ok (.slice (if cap=l.toNat then a else a.map (·.add (l.toNat*P.cellsOf e))) (h.toNat-l.toNat) (cap-l.toNat)) w:=by
 obtain⟨i,hi',hs⟩:=Zcr h0;obtain⟨ln,rfl⟩:∃ m:Nat,l=m:=⟨l.toNat,Om⟩
 obtain⟨hn,rfl⟩:∃ m:Nat,h=m:=⟨h.toNat,Om⟩
 have g1:(ln:Int)<=hn:=h2;have g2:(hn:Int)<=cap:=h3;have g3:ln<=hn:=by omega
 have g4:hn<=cap:=by omega
 rcases hlo with⟨rfl,el⟩|⟨q,rfl⟩<;>rcases hhi with⟨rfl,eh⟩|⟨q',rfl⟩
 ·have:ln=0:=by omega
  have:hn=len:=by omega
  subst_vars
  simp[Instr.sliceAt,Instr.slice,Instr.sliceBounds,Instr.sliceBound,Zk hu,asIntOf,sizeOf,typeInfo,hi',hs]
 ·have:ln=0:=by omega
  subst this;simp[Instr.sliceAt,Instr.slice,Instr.sliceBounds,Instr.sliceBound,Zk hu,asIntOf,sizeOf,typeInfo,hi',hs,g4]
 ·have:hn=len:=by omega
  subst this;simp[Instr.sliceAt,Instr.slice,Instr.sliceBounds,Instr.sliceBound,Zk hu,asIntOf,sizeOf,typeInfo,hi',hs,g3,g4]
 ·simp[Instr.sliceAt,Instr.slice,Instr.sliceBounds,Instr.sliceBound,Zk hu,asIntOf,sizeOf,typeInfo,hi',hs,g3,g4]
theorem run_sliceStr {P:Program} {t:TypeId} (hu:P.underlying t=some .string) {s:ByteArray} {lo hi:Option Value} {l h:Int} (hlo:BoundV lo 0 l) (hhi:BoundV hi s.size h) (h1:0<=l) (h2:l<=h) (h3:h<=s.size) (w:World):
  (Instr.sliceAt t (.string s) lo hi none).run P w=.ok (.string (s.extract l.toNat h.toNat)) w:=by
 obtain⟨ln,rfl⟩:∃ m:Nat,l=m:=⟨l.toNat,Om⟩
 obtain⟨hn,rfl⟩:∃ m:Nat,h=m:=⟨h.toNat,Om⟩
 have g3:ln<=hn:=by omega
 have g4:hn<=s.size:=by omega
 rcases hlo with⟨rfl,el⟩|⟨q,rfl⟩<;>rcases hhi with⟨rfl,eh⟩|⟨q',rfl⟩
 ·have:ln=0:=by omega
  have:hn=s.size:=by omega
  subst_vars
  simp[Instr.sliceAt,Instr.slice,Instr.sliceBounds,Instr.sliceBound,Zk hu,asIntOf]
 ·have:ln=0:=by omega
  subst this;simp[Instr.sliceAt,Instr.slice,Instr.sliceBounds,Instr.sliceBound,Zk hu,asIntOf,g4]
 ·have:hn=s.size:=by omega
  subst this;simp[Instr.sliceAt,Instr.slice,Instr.sliceBounds,Instr.sliceBound,Zk hu,asIntOf,g3]
 ·simp[Instr.sliceAt,Instr.slice,Instr.sliceBounds,Instr.sliceBound,Zk hu,asIntOf,g3,g4]
theorem run_sliceZero {P:Program} {t e:TypeId} (hu:P.underlying t=some (.slice e)) (h0:0<P.cellsOf e) {a:Option Addr} {len cap:Nat} {q q':IntKind} (w:World):
  (Instr.sliceAt t (.slice a len cap) none (some (.int q 0)) (some (.int q' 0))).run P w=.ok (.slice a 0 0) w:=by
 obtain⟨i,hi',hs⟩:=Zcr h0;simp[Instr.sliceAt,Instr.slice,Instr.sliceBounds,Instr.sliceBound,Zk hu,asIntOf,sizeOf,typeInfo,hi']
theorem ZbJ {st st':St} {id:Nat} {o o':Obj} (h:st.ob[id]? = some o) (h':st'.ob[id]? = some o') (ht:tagOf o≠tagOf o'):id∈changed st st':=by
 unfold changed;rw[List.mem_filter];refine⟨List.mem_range.mpr (List.getElem?_eq_some_iff.mp h).1,?_⟩
 rw[h,h'];simpa using ht
theorem put_ob (st:St) (dst:Option Nat) (t:T):(st.put dst t).ob=st.ob:=by cases dst<;>rfl
theorem ZN.moved {P:Program} {E:Env} {o:Oper} {st:St} {β:Type} {k:St->Option β} {r:β} {t:T} {ob:Obj} {mv:List Nat} (hmv:∀ id∈mv,∃ og fr ct xs,st.ob[id]? = some (.row og fr ct xs))
  (hk:k (((st.gones mv).newOb ob).put o.dst t)=some r) (h:∀ X w0,Zbh P X w0 o st ⟨t,mv.map (·,.gone),[ob]⟩):ZN P E o st k r:=by
 refine⟨⟨t,mv.map (·,.gone),[ob]⟩,hk,?_,?_,h⟩
 ·intro p hp;obtain⟨id,hid,rfl⟩:=List.mem_map.mp hp;obtain⟨_,_,_,_,ho⟩:=hmv id hid;exact(List.getElem?_eq_some_iff.mp ho).1
 ·intro _ p hp;obtain⟨id,hid,rfl⟩:=List.mem_map.mp hp;obtain⟨_,_,_,_,ho⟩:=hmv id hid;have hl:=(List.getElem?_eq_some_iff.mp ho).1;obtain⟨o',h1,h2⟩:=ZbZ (mv.map (·,Obj.gone)) st.ob id ⟨(id,.gone),List.mem_map.mpr ⟨id,hid,rfl⟩,rfl⟩ hl;obtain⟨q,_,hq⟩:=List.mem_map.mp h1;injection hq with _ hq;subst hq;refine List.mem_append_right _ (ZbJ ho (o':=.gone) ?_ (by simp[tagOf]));simp only[St.app,put_ob]
  rw[List.getElem?_append_left (by rw[ZH];exact hl)];exact h2
section
variable {P:Program} {E:Env} {st:St} {β:Type} {k:St->Option β} {r:β} {dst:Option Nat} {ty:TypeId} {pos:String} {af:Array Edge} {gd:Option (Nat×Bool)}
theorem elemSz_ne {t:TypeId} (h:Zs P t≠0):∃ e,P.underlying t=some (.slice e)/\Zs P t=P.cellsOf e/\0<P.cellsOf e:=by
 unfold Zs at h⊢;split at h
 ·rename_i e he;exact⟨e,ZaS he,by simp[he],Om⟩
 ·exact absurd rfl h
theorem opSlice {t:TypeId} {x:Operand} {lo hi mx:Option Operand} (hT:Zax P) (h:Z1 P E ⟨dst,.slice t x lo hi mx,ty,pos,af,gd⟩ st k=some r):ZN P E ⟨dst,.slice t x lo hi mx,ty,pos,af,gd⟩ st k r:=by
 simp only[Z1] at h;have mem_x:x∈(Op.slice t x lo hi mx).operands.toList:=by simp[Op.operands]
 have mem_lo:∀ y,lo=some y->y∈(Op.slice t x lo hi mx).operands.toList:=by rintro y rfl;simp[Op.operands]
 have mem_hi:∀ y,hi=some y->y∈(Op.slice t x lo hi mx).operands.toList:=by rintro y rfl;simp[Op.operands]
 have mem_mx:∀ y,mx=some y->y∈(Op.slice t x lo hi mx).operands.toList:=by rintro y rfl;simp[Op.operands]
 unfold sliceDen at h;split at h
 ·-- a full cut
  rename_i m hm;obtain⟨mo,rfl,hmo⟩:=Option.map_eq_some_iff.mp hm;split at h;case isFalse=>cases h
  rename_i hk;obtain⟨e,hu,hse,h0⟩:=elemSz_ne hk.2;have go:∀ (h' m':Int) (f q f' q'),lo.map st.ev=none->hi.map st.ev=some (.d f (.int q h'))->m=.d f' (.int q' m')->(if h'=0/\m'=0 then k (st.put dst .nil) else none)=some r->
    (∀ (X:Fix) (w:World) (g:G) (stL:St) (a:Act) (v:Value),Rel P X w g stL a->Zi X w g (st.ev x) v->Z9 g stL st (ZO st (st.ev x))->∃ ad len cap,v=.slice ad len cap)->
    ZN P E ⟨dst,.slice t x lo hi (some mo),ty,pos,af,gd⟩ st k r:=by
   intro h' m' f q f' q' elo ehi em hres hv;split at hres;case isFalse=>cases hres
   rename_i hz;obtain⟨rfl,rfl⟩:=hz;refine ZN.pure hres λX stL g a w hr hR hl=>?_
   obtain⟨ad,len,cap,hvx⟩:=hv X w g stL a _ hr (hR x mem_x) (hl.sub (ZaF mem_x));have elo':lo=none:=by cases lo<;>simp_all
   obtain⟨ho,rfl,eho⟩:=Option.map_eq_some_iff.mp ehi;subst elo';have v1:=Zi.scal_eq (d:=.int q 0) rfl (eho▸hR ho (mem_hi ho rfl));have v2:=Zi.scal_eq (d:=.int q' 0) rfl ((hmo.trans em)▸hR mo (mem_mx mo rfl));refine⟨.slice ad 0 0,ZaN ?_,by simp[Zi]⟩
   show(Instr.sliceAt t (a.eval x) none (some (a.eval ho)) (some (a.eval mo))).run P w=_;rw[hvx,v1,v2];exact run_sliceZero hu h0 w
  split at h
  ·rename_i h1 h2 h3;exact go _ _ _ _ _ _ h1 h2 rfl h λX w g stL a v hr rv hs=>by rw[h3] at rv;simp only[Zi,RdD] at rv;obtain⟨ad,len,cap,hv,_⟩:=rv;exact⟨ad,len,cap,hv⟩
  ·rename_i h1 h2 h3;exact go _ _ _ _ _ _ h1 h2 rfl h λX w g stL a v hr rv hs=>by rw[h3] at rv;simp only[Zi] at rv;obtain⟨ad,hv⟩:=rv;exact⟨ad,0,0,hv⟩
  ·rename_i id h1 h2 h3;split at h
   ·rename_i ho;refine go _ _ _ _ _ _ h1 h2 rfl h λX w g stL a v hr rv hs=>?_
    rw[h3] at rv hs;simp only[Zi] at rv;obtain⟨_,_,⟨row,_⟩,_⟩:=hs.obj hr (by simp[ZO]) ho;obtain⟨ad,cap,hv,_⟩:=OwC.row row;exact⟨ad,_,cap,rv.2.trans hv⟩
   ·rename_i ho;refine go _ _ _ _ _ _ h1 h2 rfl h λX w g stL a v hr rv hs=>?_
    rw[h3] at rv hs;simp only[Zi] at rv;obtain⟨_,_,hrd,_⟩:=hs.obj hr (by simp[ZO]) ho;simp only[RdD] at hrd;obtain⟨ad,len,cap,hv,_⟩:=hrd;exact⟨ad,len,cap,rv.2.trans hv⟩
   ·cases h
  ·cases h
 ·rename_i hm;have emx:mx=none:=by cases mx<;>simp_all
  subst emx;have run:∀ (a:Act) (w:World) (v:Value),(Instr.sliceAt t (a.eval x) (lo.map a.eval) (hi.map a.eval) none).run P w=.ok v w->(execOp a.eval ⟨dst,.slice t x lo hi none,ty,pos,af,gd⟩).run P w=.ok (.value v) w:=
   λa w v h=>ZaN h
  have immCut:∀ (fr:Bool) (xs:List (List D)),(if Zs P t=0 then none else ZbQ (lo.map st.ev) 0 λl=>ZbQ (hi.map st.ev) xs.length λh=>
    Z0 (0<=l/\l<=h/\h<=xs.length/\rowsOk (Zs P t) xs) (k (st.put dst (.d fr (.sl ((xs.drop l.toNat).take (h.toNat-l.toNat)))))))=some r->
    (∀ (X:Fix) (w:World) (g:G) (stL:St) (a:Act) (v:Value),Rel P X w g stL a->Zi X w g (st.ev x) v->Z9 g stL st (ZO st (st.ev x))->RdD w (g.IM X fr) (.sl xs) v)->
    ZN P E ⟨dst,.slice t x lo hi none,ty,pos,af,gd⟩ st k r:=by
   intro fr xs h hv;split at h
   ·cases h
   rename_i hsz;obtain⟨e,hu,hse,h0⟩:=elemSz_ne hsz;obtain⟨l,h',hl⟩:=ZaR h;obtain⟨hh,h'',hhi⟩:=ZaR h';obtain⟨⟨c1,c2,c3,c4⟩,hk⟩:=ZB h'';refine ZN.pure hk λX stL g a w hr hR hl'=>?_
   have rd:=hv X w g stL a _ hr (hR x mem_x) (hl'.sub (ZaF mem_x));have rd':=rd;simp only[RdD] at rd';obtain⟨ad,len,cap,hva,e1,e2,_⟩:=rd';rw[hva] at rd;obtain⟨_,_,cut⟩:=RdD.cut (l:=l.toNat) (h:=hh.toNat) rd c4 Om Om;subst e1;refine⟨_,run a w _ (by rw[hva];exact ZcD hu h0 (boundV hl λy hy=>hR y (mem_lo y hy)) (boundV hhi λy hy=>hR y (mem_hi y hy)) c1 c2 Om w),?_⟩
   simp only[Zi]
   rw[<- hse];exact cut
  split at h
  ·-- a string
   rename_i f s hk hx;obtain⟨l,h',hl⟩:=ZaR h;obtain⟨hh,h'',hhi⟩:=ZaR h';obtain⟨⟨c1,c2,c3⟩,hk'⟩:=ZB h'';refine ZN.pure hk' λX stL g a w hr hR hl'=>?_
   have hv:=Zi.scal_eq (d:=.str s) rfl (hx▸hR x mem_x);exact⟨_,run a w _ (by rw[hv];exact run_sliceStr (ZbE hk) (boundV hl λy hy=>hR y (mem_lo y hy)) (boundV hhi λy hy=>hR y (mem_hi y hy)) c1 c2 c3 w),Zi.scal (d:=.str _) rfl⟩
  ·rename_i fr xs hk hx;exact immCut fr xs h λX w g stL a v hr rv hs=>by rw[hx] at rv;simpa only[Zi] using rv
  ·rename_i hk hx;split at h
   ·cases h
   rename_i hsz;obtain⟨l,h',hl⟩:=ZaR h;obtain⟨hh,h'',hhi⟩:=ZaR h';obtain⟨⟨c1,c2,c3⟩,hk'⟩:=ZB h'';obtain⟨e,hu,hse,h0⟩:=elemSz_ne hsz;refine ZN.pure hk' λX stL g a w hr hR hl'=>?_
   have rv:=hR x mem_x;rw[hx] at rv;simp only[Zi] at rv;obtain⟨ad,hv⟩:=rv;have e1:l.toNat=0:=by omega
   have e2:hh.toNat=0:=by omega
   have hr1:=ZcD (P:=P) hu h0 (a:=ad) (len:=0) (cap:=0) (boundV hl λy hy=>hR y (mem_lo y hy)) (boundV hhi λy hy=>hR y (mem_hi y hy)) c1 c2 Om w;rw[e1,e2] at hr1;exact⟨_,run a w _ (by rw[hv];exact hr1),by simp only[Zi];exact⟨_,rfl⟩⟩
  ·rename_i id hk hx;split at h
   ·rename_i og fr rt xs ho;split at h
    ·cases h
    rename_i hc;have hrt:rt=t:=by
     by_cases q:rt=t
     ·exact q
     ·exact absurd (.inl q) hc
    have hsz:Zs P t≠0:=λq=>hc (.inr q)
    subst hrt;obtain⟨e,hu,hse,h0⟩:=elemSz_ne hsz;split at h
    ·-- shortened: it stays own
     rename_i hlo;obtain⟨hh,h'',hhi⟩:=ZaR h;obtain⟨⟨c2,c3⟩,hk'⟩:=ZB h'';have hlo':lo=none:=by cases lo<;>simp_all
     subst hlo';refine ZN.moved (mv:=[id]) (λi hi=>by simp at hi;subst hi;exact⟨_,_,_,_,ho⟩) (by rw[St.gones_cons,St.gones_nil];exact hk') λX w0=>?_
     have hlen:(st.setOb id .gone).ob.length=st.ob.length:=by simp[St.setOb]
     refine Zbh.one (by simpa using(List.getElem?_eq_some_iff.mp ho).1) λstL g a w hr hs hR hl hn=>?_
     have rv:=hR x mem_x;rw[hx] at rv;simp only[Zi] at rv;obtain⟨_,hB,⟨row,hz⟩,hfr,_⟩:=(hl.sub (ZaF mem_x)).obj hr (by rw[hx];simp[ZO]) ho;obtain⟨ad,cap,hva,hrow⟩:=OwC.row row;have hcap:xs.length<=cap:=by
      rcases hrow with⟨rfl,rfl,_⟩|⟨_,_,_,_,_,_,_,_,_,_,_,hle,_⟩
      ·simp
      ·exact hle
     have hr1:=ZcD (P:=P) (t:=rt) hu h0 (a:=ad) (len:=xs.length) (cap:=cap) (lo:=none) (hi:=hi.map a.eval) (l:=0) (h:=hh) (.inl ⟨rfl,rfl⟩) (boundV hhi λy hy=>hR y (mem_hi y hy)) Om c2 Om w;have hrun:=run a w _ (by rw[rv.2,hva];exact hr1);have hIM:∀ b,g.IM X fr b->(g.one [id] st.ob.length (g.fp id) (g.hv id) (Zs P rt)).IM X fr b:=λb h=>h
     have key:∃ F v,Result.ok (Value.slice (if cap=(0:Int).toNat then ad else ad.map (·.add ((0:Int).toNat*P.cellsOf e))) (hh.toNat-(0:Int).toNat) (cap-(0:Int).toNat)) w=.ok v w/\F.Sublist (g.fp id)/\OwC P w (g.IM X fr) (.own (xs.take hh.toNat)) rt v F:=by
      rcases hrow with⟨rfl,rfl,_⟩|⟨b,o,c,e',F',rfl,ho0,hF,hb,hz',hcs,hle,rows⟩
      ·refine⟨[],_,rfl,by simp,?_⟩
       have:hh.toNat=0:=by simp at c3;omega
       simp only[OwC,this,List.take_nil,List.length_nil]
       exact⟨_,0,rfl,.inl Sp⟩
      ·rw[show xs=xs.take hh.toNat++xs.drop hh.toNat from(List.take_append_drop _ _).symm] at rows;obtain⟨F1,F2,rfl,r1,r2⟩:=Zj.append.mp rows;refine⟨b::F1,_,rfl,by rw[hF];exact List.Sublist.cons_cons _ (List.sublist_append_left _ _),?_⟩
       simp only[OwC]
       have hl2:(xs.take hh.toNat).length=hh.toNat:=by simp;omega
       exact⟨some ⟨b,o,none⟩,cap,by rw[hl2];simp[ZbW],.inr ⟨b,o,c,e',F1,rfl,ho0,rfl,hb,hz',hcs,Om,r1⟩⟩
     obtain⟨F,v,hv,hsub,how⟩:=key;injection hv with hv;rw[hv] at hrun;refine⟨v,w,F,v,Zs P rt,hrun,Nat.le_refl _,rfl,rfl,rfl,λ_ _ _=>rfl,hsub.nodup (hr.sep.nodup id hB),λb hb=>⟨(hr.sep.mine id hB b (hsub.subset hb)).2.1,λ_=>by simpa using hsub.subset hb⟩,by simpa using hB,?_,?_⟩
     ·simp only[Zy,G.one_hv,G.one_fp,G.one_sz]
      exact⟨⟨how,trivial⟩,λq b hb=>hfr q b (hsub.subset hb),by simp⟩
     ·simp only[Zi]
      exact⟨G.one_B,G.one_hv.symm⟩
    ·rename_i lt hlo;split at h
     ·-- cut at its head: it stays own
      rename_i hcut;obtain⟨hcut,hhin⟩:=hcut;have hhin':hi=none:=by cases hi<;>simp_all
      subst hhin';obtain⟨l,h',hl0⟩:=ZaR h;obtain⟨⟨c1,c2⟩,hk'⟩:=ZB h';refine ZN.moved (mv:=[id]) (λi hi=>by simp at hi;subst hi;exact⟨_,_,_,_,ho⟩) (by rw[St.gones_cons,St.gones_nil];exact hk') λX w0=>?_
      have hlen:(st.setOb id .gone).ob.length=st.ob.length:=by simp[St.setOb]
      refine Zbh.one (by simpa using(List.getElem?_eq_some_iff.mp ho).1) λstL g a w hr hs hR hl hn=>?_
      have rv:=hR x mem_x;rw[hx] at rv;simp only[Zi] at rv;obtain⟨_,hB,⟨row,hz⟩,hfr,_⟩:=(hl.sub (ZaF mem_x)).obj hr (by rw[hx];simp[ZO]) ho;obtain⟨ad,cap,hva,hrow⟩:=OwC.row row;have hcap:xs.length<=cap:=by
       rcases hrow with⟨rfl,rfl,_⟩|⟨_,_,_,_,_,_,_,_,_,_,_,hle,_⟩
       ·simp
       ·exact hle
      have hr1:=ZcD (P:=P) (t:=rt) hu h0 (a:=ad) (len:=xs.length) (cap:=cap) (lo:=lo.map a.eval) (hi:=none) (l:=l) (h:=(xs.length:Int)) (boundV hl0 λy hy=>hR y (mem_lo y hy)) (.inl ⟨rfl,rfl⟩) c1 c2 Om w;have hrun:=run a w _ (by rw[rv.2,hva];exact hr1);have key:∃ F v,Result.ok (Value.slice (if cap=l.toNat then ad else ad.map (·.add (l.toNat*P.cellsOf e))) ((xs.length:Int).toNat-l.toNat) (cap-l.toNat)) w=.ok v w/\F.Sublist (g.fp id)/\OwC P w (g.IM X fr) (.own (xs.drop l.toNat)) rt v F:=by
       rw[Int.toNat_natCast];rcases hrow with⟨rfl,rfl,_⟩|⟨b,o,c,e',F',rfl,ho0,hF,hb,hz',hcs,hle,rows⟩
       ·refine⟨[],_,rfl,by simp,?_⟩
        simp only[OwC,List.drop_nil,List.length_nil,Nat.zero_sub]
        exact⟨_,0,rfl,.inl Sp⟩
       ·by_cases hq:cap=l.toNat
        ·refine⟨[],_,rfl,by simp,?_⟩
         have hd:xs.drop l.toNat=[]:=List.drop_eq_nil_of_le Om;simp only[OwC]
         rw[hd];exact⟨_,cap-l.toNat,by rw[List.length_nil,show xs.length-l.toNat=0 by omega],.inl ⟨rfl,Om,trivial⟩⟩
        ·rw[show xs=xs.take l.toNat++xs.drop l.toNat from(List.take_append_drop _ _).symm] at rows;obtain⟨F1,F2,rfl,r1,r2⟩:=Zj.append.mp rows;have htl:(xs.take l.toNat).length=l.toNat:=by simp;omega
         rw[htl] at r2;refine⟨b::F2,_,rfl,by rw[hF];exact List.Sublist.cons_cons _ (List.sublist_append_right _ _),?_⟩
         simp only[OwC]
         have hcc:P.cellsOf e=Zs P rt:=by rw[hse]
         refine⟨some ⟨b,o+l.toNat*Zs P rt,none⟩,cap-l.toNat,by rw[if_neg hq,List.length_drop,hcc];simp[ZbW],.inr ⟨b,_,c,e',F2,rfl,λq=>?_,rfl,hb,hz',?_,by rw[List.length_drop];omega,r2⟩⟩
         ·rw[hcut] at q;cases q
         ·have:l.toNat*Zs P rt+(cap-l.toNat)*Zs P rt=cap*Zs P rt:=by rw[<- Nat.add_mul];congr 1;omega
          omega
      obtain⟨F,v,hv,hsub,how⟩:=key;injection hv with hv;rw[hv] at hrun;refine⟨v,w,F,v,Zs P rt,hrun,Nat.le_refl _,rfl,rfl,rfl,λ_ _ _=>rfl,hsub.nodup (hr.sep.nodup id hB),λb hb=>⟨(hr.sep.mine id hB b (hsub.subset hb)).2.1,λ_=>by simpa using hsub.subset hb⟩,by simpa using hB,?_,?_⟩
      ·simp only[Zy,G.one_hv,G.one_fp,G.one_sz]
       exact⟨⟨how,trivial⟩,λq b hb=>hfr q b (hsub.subset hb),by simp⟩
      ·simp only[Zi]
       exact⟨G.one_B,G.one_hv.symm⟩
     ·-- cut at its head: it freezes
      obtain⟨l,h',hl⟩:=ZaR h;obtain⟨hh,h'',hhi⟩:=ZaR h';obtain⟨⟨c1,c2,c3⟩,hk'⟩:=ZB h'';refine⟨⟨.d fr (.sl (((C.immRows xs).drop l.toNat).take (hh.toNat-l.toNat))),[(id,.frz fr (C.immRows xs))],[]⟩,?_,by simpa using(List.getElem?_eq_some_iff.mp ho).1,?_,λX w0=>?_⟩
      ·have:st.app dst ⟨.d fr (.sl (((C.immRows xs).drop l.toNat).take (hh.toNat-l.toNat))),[(id,.frz fr (C.immRows xs))],[]⟩=(st.setOb id (.frz fr (C.immRows xs))).put dst (.d fr (.sl (((C.immRows xs).drop l.toNat).take (hh.toNat-l.toNat)))):=by
        simp only[St.app,St.setOb,List.append_nil];rfl
       rw[this];exact hk'
      ·intro _ p hp;simp at hp;subst hp;refine List.mem_append_right _ (ZbJ ho (o':=.frz fr (C.immRows xs)) ?_ (by simp[tagOf]));simp only[St.app,put_ob,List.append_nil]
       show(st.ob.set id _)[id]? = _;rw[List.getElem?_set_self (List.getElem?_eq_some_iff.mp ho).1]
      ·intro stL g a w hr hs hR hl' _ K Q hK;have rv:=Zbh.args hr (hR x mem_x);rw[hx] at rv;simp only[Zi] at rv;obtain⟨hoL,hB,⟨row,hz⟩,hfr,_⟩:=(hl'.sub (ZaF mem_x)).obj hr (by rw[hx];simp[ZO]) ho;have hr2:=Rel.freeze hT hr hs hoL hB;have hst:stL.eff dst st.ob.length ⟨.d fr (.sl (((C.immRows xs).drop l.toNat).take (hh.toNat-l.toNat))),[(id,.frz fr (C.immRows xs))],[]⟩=(stL.setOb id (.frz fr (C.immRows xs))).put dst (.d fr (.sl (((C.immRows xs).drop l.toNat).take (hh.toNat-l.toNat)))):=rfl;obtain⟨o',ho',ro⟩:=hr2.obs id hB;have:o'=.frz fr (C.immRows xs):=by
        simp only[St.setOb] at ho';rw[List.getElem?_set_self (List.getElem?_eq_some_iff.mp hoL).1] at ho';exact(Option.some.inj ho').symm
       subst this;simp only[Zy] at ro;have rd:=ro.1;have hva0:(g.frz id).hv id=g.hv id:=rfl;have rd':=rd;simp only[RdD] at rd';obtain⟨ad,len,cap,hva,e1,e2,_⟩:=rd';rw[hva] at rd;rw[hva0] at hva;have hok:rowsOk (Zs P rt) (C.immRows xs):=by
        obtain⟨_,_,_,hrow⟩:=OwC.row row;rcases hrow with⟨rfl,_,_⟩|⟨b,o,c,e',F',_,_,_,_,_,_,_,rows⟩
        ·intro y hy;simp[C.immRows] at hy
        ·have hlens:=Zj.len (hT rt hsz) rows;have:∀ (zs:List (List C)),(∀ z∈zs,z.length=Zs P rt)->∀ y∈C.immRows zs,y.length=Zs P rt:=by
          intro zs;induction zs with
          |nil=>intro _ y hy;simp[C.immRows] at hy
          |cons z zs ih=>
           intro hz y hy;simp only[C.immRows,List.mem_cons] at hy;rcases hy with rfl|hy
           ·rw[C.immCells_length];exact hz z Sp
           ·exact ih (λq hq=>hz q (by simp[hq])) y hy
         exact this xs hlens
       have hlx:=C.immRows_length xs;rw[hlx] at e1;subst e1;obtain⟨_,_,cut⟩:=RdD.cut (l:=l.toNat) (h:=hh.toNat) rd hok Om Om;have args:∀ y,y∈(Op.slice rt x lo hi none).operands.toList->Zi X w g (st.ev y) (a.eval y):=λy hy=>Zbh.args hr (hR y hy)
       have hrun:=run a w _ (by rw[rv.2,hva];exact ZcD hu h0 (boundV hl λy hy=>args y (mem_lo y hy)) (boundV hhi λy hy=>args y (mem_hi y hy)) c1 c2 Om w);refine wp_val hrun (hK (g.frz id) w _ ?_ hs (λid=>by simp[G.frz];omega));rw[hst];refine Rel.put hr2 dst ?_;simp only[Zi]
       rw[<- hse];exact cut
   ·rename_i fr xs ho;refine immCut fr xs h λX w g stL a v hr rv hs=>?_
    rw[hx] at rv hs;simp only[Zi] at rv;obtain⟨_,_,hrd,_⟩:=hs.obj hr (by simp[ZO]) ho;rw[rv.2];exact hrd
   ·cases h
  ·cases h
end
end Go.T
namespace Go.T
section
variable {P:Program} {t1 t2 ty e:TypeId} {i:TypeInfo} {z:Value}
theorem ZaW (h1:P.underlying t1=some (.slice e)) (h2:(∃ e2,P.underlying t2=some (.slice e2))\/P.underlying t2=some .string) (hi:P.info? e=some i) {w w':World} {base:Option Addr} {len cap n:Nat} {x:Value} {news:Array Value}
  (hx:(Builtin.lenOf x).run P w=.ok n w) (hf:(Builtin.firstCells i.size n x).run P w=.ok news w) (hfit:len+n<=cap)
  (hst:(match base with|some a=>storeCells (a.add (len*i.size)) news.toList|none=>pure ():Sem Unit).run P w=.ok () w'):
  (Builtin.append_ #[t1,t2] ty #[.slice base len cap,x]).run P w=.ok (.slice base (len+n) cap) w':=by
 cases base with
 |none=>
  simp at hst;subst hst;rcases h2 with⟨e2,hd⟩|hd<;>simp[Builtin.append_,Zk h1,Zk hd,sizeOf,typeInfo,hi,hx,hfit,hf]
 |some a=>
  simp only[] at hst;rcases h2 with⟨e2,hd⟩|hd<;>simp[Builtin.append_,Zk h1,Zk hd,sizeOf,typeInfo,hi,hx,hfit,hf,hst]
theorem ZaK (h1:P.underlying t1=some (.slice e)) (h2:(∃ e2,P.underlying t2=some (.slice e2))\/P.underlying t2=some .string) (hi:P.info? e=some i) (hzv:i.zero=some z) {w:World} {base:Option Addr} {len cap n:Nat} {x:Value} {olds news:Array Value}
  (hx:(Builtin.lenOf x).run P w=.ok n w) (hf:(Builtin.firstCells i.size n x).run P w.drew=.ok news w.drew) (hfo:(Builtin.firstCells i.size len (.slice base len cap)).run P w.drew=.ok olds w.drew)
  (hg:cap<len+n) (h63:len+n<=9223372036854775807) (hfit:Builtin.nextslicecap (len+n) cap*i.bytes<=281474976710656):
  (Builtin.append_ #[t1,t2] ty #[.slice base len cap,x]).run P w=
   .ok (.slice (some ⟨w.heap.size,0,none⟩) (len+n) (grownCap w (len+n) cap e)) (w.drew.alloc (.cells (olds++news++Builtin.zeroCells z.cells (grownCap w (len+n) cap e-(len+n))) e)):=by
 have hn:¬ (len+n<=cap):=by omega
 have h63':¬ (9223372036854775807<((len:Int)+(n:Int))):=by omega
 have h48':¬ (281474976710656<Builtin.nextslicecap (len+n) cap*i.bytes):=by omega
 rcases h2 with⟨e2,hd⟩|hd<;>simp[Builtin.append_,Zk h1,Zk hd,sizeOf,typeInfo,zeroValue,hi,hzv,hx,hn,h63',h48',Question.forced,hf,hfo,newRow,grownCap]
theorem wrap_nat {n:Nat} (h:n<=9223372036854775807):IntKind.i64.wrap (n:Int)=n:=by
 have:(n:Int)%18446744073709551616=n:=Int.emod_eq_of_lt Om Om;have h2:¬ ((n:Int)>=9223372036854775808):=by omega
 simp[IntKind.wrap,IntKind.bits,IntKind.signed,this,h2]
theorem run_append_fit0 (h1:P.underlying t1=some (.slice e)) {qk:IntKind} (h2:P.underlying t2=some (.int qk)) (hi:P.info? e=some i) (hzv:i.zero=some z) {w w':World} {base:Option Addr} {len cap n:Nat} {q:IntKind} (hb:n*i.bytes<=281474976710656) (hn63:n<=9223372036854775807)
  (hfit:len+n<=cap) (hst:(match base with|some a=>storeCells (a.add (len*i.size)) (if n*i.size=0 then #[] else Builtin.zeroCells z.cells n).toList|none=>pure ():Sem Unit).run P w=.ok () w'):
  (Builtin.append_ #[t1,t2] ty #[.slice base len cap,.int q n]).run P w=.ok (.slice base (len+n) cap) w':=by
 have n1:¬ ((n:Int)<0):=by omega
 have n2:¬ (281474976710656<(n:Int)*(i.bytes:Int)):=by
  have:(n:Int)*(i.bytes:Int)=((n*i.bytes:Nat):Int):=by push_cast;rfl
  rw[this];omega
 by_cases hz0:n*i.size=0
 ·rw[if_pos hz0] at hst;cases base with
  |none=>
   simp at hst;subst hst;simp[Builtin.append_,Zk h1,Zk h2,asInt,asIntOf,wrap_nat hn63,n1,n2,sizeOf,typeInfo,hi,hz0,hfit]
  |some a=>
   simp only[] at hst;simp[Builtin.append_,Zk h1,Zk h2,asInt,asIntOf,wrap_nat hn63,n1,n2,sizeOf,typeInfo,hi,hz0,hfit,hst]
 ·rw[if_neg hz0] at hst;cases base with
  |none=>
   simp at hst;subst hst;simp[Builtin.append_,Zk h1,Zk h2,asInt,asIntOf,wrap_nat hn63,n1,n2,sizeOf,typeInfo,hi,hz0,hfit,zeroValue,hzv]
  |some a=>
   simp only[] at hst;simp[Builtin.append_,Zk h1,Zk h2,asInt,asIntOf,wrap_nat hn63,n1,n2,sizeOf,typeInfo,hi,hz0,hfit,zeroValue,hzv,hst]
theorem run_append_more0 (h1:P.underlying t1=some (.slice e)) {qk:IntKind} (h2:P.underlying t2=some (.int qk)) (hi:P.info? e=some i) (hzv:i.zero=some z) {w:World} {base:Option Addr} {len cap n:Nat} {q:IntKind} {olds:Array Value} (hb:n*i.bytes<=281474976710656) (hn63:n<=9223372036854775807)
  (hfo:(Builtin.firstCells i.size len (.slice base len cap)).run P w.drew=.ok olds w.drew)
  (hg:cap<len+n) (h63:len+n<=9223372036854775807) (hfit:Builtin.nextslicecap (len+n) cap*i.bytes<=281474976710656):
  (Builtin.append_ #[t1,t2] ty #[.slice base len cap,.int q n]).run P w=
   .ok (.slice (some ⟨w.heap.size,0,none⟩) (len+n) (grownCap w (len+n) cap e)) (w.drew.alloc (.cells (olds++(if n*i.size=0 then #[] else Builtin.zeroCells z.cells n)++Builtin.zeroCells z.cells (grownCap w (len+n) cap e-(len+n))) e)):=by
 have n1:¬ ((n:Int)<0):=by omega
 have n2:¬ (281474976710656<(n:Int)*(i.bytes:Int)):=by
  have:(n:Int)*(i.bytes:Int)=((n*i.bytes:Nat):Int):=by push_cast;rfl
  rw[this];omega
 have hn:¬ (len+n<=cap):=by omega
 have h63':¬ (9223372036854775807<((len:Int)+(n:Int))):=by omega
 have h48':¬ (281474976710656<Builtin.nextslicecap (len+n) cap*i.bytes):=by omega
 by_cases hz0:n*i.size=0
 ·simp[Builtin.append_,Zk h1,Zk h2,asInt,asIntOf,wrap_nat hn63,n1,n2,sizeOf,typeInfo,hi,hz0,zeroValue,hzv,hn,h63',h48',Question.forced,hfo,newRow,grownCap]
 ·simp[Builtin.append_,Zk h1,Zk h2,asInt,asIntOf,wrap_nat hn63,n1,n2,sizeOf,typeInfo,hi,hz0,zeroValue,hzv,hn,h63',h48',Question.forced,hfo,newRow,grownCap]
end
theorem take_vals {c:Array Value} {off m:Nat} (h:∀ j,j<m->∃ v,c[off+j]? = some v/\v.oneCell'=true):
  ((c.toList.drop off).take m).length=m/\(∀ (j:Nat) (v:Value),((c.toList.drop off).take m)[j]? = some v↔j<m/\c[off+j]? = some v)/\∀ v∈(c.toList.drop off).take m,v.oneCell'=true:=by
 have hget:∀ (j:Nat) (v:Value),((c.toList.drop off).take m)[j]? = some v↔j<m/\c[off+j]? = some v:=by
  intro j v;rw[List.getElem?_take];split
  ·rename_i hj;simp[hj]
  ·rename_i hj;simp[hj]
 refine⟨?_,hget,λv hv=>?_⟩
 ·rcases Nat.eq_zero_or_pos m with rfl|h0
  ·simp
  ·obtain⟨v,hv,_⟩:=h (m-1) Om;have:=(Array.getElem?_eq_some_iff.mp hv).1;simp;omega
 ·obtain⟨j,hj⟩:=List.getElem?_of_mem hv;obtain⟨h1,h2⟩:=(hget j v).mp hj;obtain⟨u,h3,h4⟩:=h j h1;rw[h2] at h3;injection h3 with h3;rwa[h3]
theorem ZM.cell {w:World} {I:Nat->Prop} {c:Array Value} {sz:Nat}:∀ {xs:List (List D)} {p:Nat},ZM w I c sz p xs->∀ j,j<xs.length*sz->∃ v,c[p+j]? = some v/\v.oneCell'=true
 |[],p,_,j,hj=>by simp at hj
 |x::xs,p,r,j,hj=>by
  simp only[ZM] at r;rw[List.length_cons,Nat.succ_mul] at hj;by_cases h:j<sz
  ·obtain⟨v,hv,rv⟩:=Zt.get r.1.2 (j:=j) (d:=x[j]'Om) (by simp[r.1.1,h]);exact⟨v,hv,rv.one⟩
  ·obtain⟨v,hv,ho⟩:=ZM.cell r.2 (j-sz) Om;exact⟨v,by rwa[show p+sz+(j-sz)=p+j from by omega] at hv,ho⟩
theorem Zj.cell {P:Program} {w:World} {I:Nat->Prop} {c:Array Value} {cts:List TypeId} {sz:Nat} (hsz:cts.length=sz):∀ {xs:List (List C)} {p:Nat} {F:List Nat},Zj P w I c cts sz xs p F->∀ j,j<xs.length*sz->∃ v,c[p+j]? = some v/\v.oneCell'=true
 |[],p,_,_,j,hj=>by simp at hj
 |x::xs,p,F,r,j,hj=>by
  simp only[Zj] at r;obtain⟨F1,F2,_,r1,r2⟩:=r;have hx:x.length=sz:=by rw[Zf.length r1,hsz]
  rw[List.length_cons,Nat.succ_mul] at hj;by_cases h:j<sz
  ·obtain⟨_,v,_,_,hv,rv,_⟩:=Zf.get r1 (j:=j) (x:=x[j]'Om) (by simp[hx,h]);exact⟨v,hv,rv.one⟩
  ·obtain⟨v,hv,ho⟩:=Zj.cell hsz r2 (j-sz) Om;exact⟨v,by rwa[show p+sz+(j-sz)=p+j from by omega] at hv,ho⟩
theorem Zt.own {P:Program} {w:World} {I:Nat->Prop} {c c':Array Value}:∀ {ds:List D} {cts:List TypeId} {p p':Nat},Zt w I c p ds->cts.length=ds.length->(∀ (j:Nat) (v:Value),j<ds.length->c[p+j]? = some v->c'[p'+j]? = some v)->Zf P w I c' (ds.map .d) cts p' []
 |[],cts,p,p',_,hl,_=>by
  have:cts=[]:=by simpa using hl
  subst this;simp[Zf]
 |d::ds,[],_,_,_,hl,_=>by simp at hl
 |d::ds,ct::cts,p,p',r,hl,h=>by
  simp only[Zt] at r;obtain⟨⟨v,hv,r1⟩,r2⟩:=r;simp only[List.map_cons,Zf]
  refine⟨ct,cts,v,[],[],rfl,rfl,by simpa using h 0 v Sp (by simpa using hv),by simp only[OwC];exact⟨trivial,r1⟩,Zt.own r2 (by simpa using hl) λj u hj hu=>?_⟩
  have:=h (j+1) u (by simpa using hj) (by rwa[show p+(j+1)=p+1+j from by omega]);rwa[show p'+1+j=p'+(j+1) from by omega]
theorem ZM.own {P:Program} {w:World} {I:Nat->Prop} {c c':Array Value} {cts:List TypeId} {sz:Nat} (hsz:cts.length=sz):∀ {xs:List (List D)} {p p':Nat},ZM w I c sz p xs->(∀ (j:Nat) (v:Value),j<xs.length*sz->c[p+j]? = some v->c'[p'+j]? = some v)->Zj P w I c' cts sz (xs.map (·.map .d)) p' []
 |[],_,_,_,_=>by simp[Zj]
 |x::xs,p,p',r,h=>by
  simp only[ZM] at r;have hm:(xs.length+1)*sz=xs.length*sz+sz:=Nat.succ_mul _ _;simp only[List.map_cons,Zj]
  refine⟨[],[],rfl,Zt.own r.1.2 (by rw[hsz,r.1.1]) (λj u hj hu=>h j u (by simp only[List.length_cons];have:=r.1.1;omega) hu),ZM.own hsz r.2 λj u hj hu=>?_⟩
  have:=h (sz+j) u (by simp only[List.length_cons];omega) (by rwa[<- Nat.add_assoc]);rwa[<- Nat.add_assoc] at this
theorem Zau {P:Program} {w:World} {b off n sz len cap:Nat} {c:Array Value} {e:TypeId} {f:Nat×Nat} (hb:w.heap[b]? = some (.cells c e f)) (h:∀ j,j<n*sz->∃ v,c[off+j]? = some v/\v.oneCell'=true):
  (Builtin.firstCells sz n (.slice (some ⟨b,off,none⟩) len cap)).run P w=.ok ((c.toList.drop off).take (n*sz)).toArray w:=by
 obtain⟨hl,hg,_⟩:=take_vals h;show(loadCells ⟨b,off,none⟩ (n*sz)).run P w=_;have:=Zdf (P:=P) hb ((c.toList.drop off).take (n*sz)) (λj v hv=>((hg j v).mp hv).2);rwa[hl] at this
theorem Zat {P:Program} {w:World} {sz:Nat} {a:Option Addr} {len cap:Nat}:(Builtin.firstCells sz 0 (.slice a len cap)).run P w=.ok #[] w:=by
 cases a with
 |none=>rfl
 |some a=>
  show(loadCells a (0*sz)).run P w=_;rw[Nat.zero_mul];rfl
structure AppSrc (P:Program) (w:World) (I:Nat->Prop) (t1 t2 ty e:TypeId) (i:TypeInfo) (z:Value) (ys:List (List C)) (F:List Nat) (vx:Value) (news:List Value):Prop where
 len:news.length=ys.length*i.size
 one:∀ v∈news,v.oneCell'=true
 rows:∀ (c:Array Value) (p:Nat),(∀ (j:Nat) (v:Value),news[j]? = some v->c[p+j]? = some v)->Zj P w I c (ZX P t1) (Zs P t1) ys p F
 fit:∀ (base:Option Addr) (len cap:Nat) (w':World),len+ys.length<=cap->len+ys.length<=Zx->(match base with|some a=>storeCells (a.add (len*i.size)) news|none=>pure ():Sem Unit).run P w=.ok () w'->
  (Builtin.append_ #[t1,t2] ty #[.slice base len cap,vx]).run P w=.ok (.slice base (len+ys.length) cap) w'
 more:∀ (base:Option Addr) (len cap:Nat) (olds:Array Value),(Builtin.firstCells i.size len (.slice base len cap)).run P w.drew=.ok olds w.drew->cap<len+ys.length->len+ys.length<=Zx->
  (Builtin.append_ #[t1,t2] ty #[.slice base len cap,vx]).run P w=
   .ok (.slice (some ⟨w.heap.size,0,none⟩) (len+ys.length) (grownCap w (len+ys.length) cap e)) (w.drew.alloc (.cells (olds++news.toArray++Builtin.zeroCells z.cells (grownCap w (len+ys.length) cap e-(len+ys.length))) e))
theorem Zcm {bytes:Nat} (hb:bytes<=1000) {need cap:Nat} (h:cap<need) (hm:need<=Zx):Builtin.nextslicecap need cap*bytes<=281474976710656:=by
 refine growslice_fits h ?_;have:need*bytes<=68719476736*1000:=Nat.mul_le_mul hm hb;omega
theorem Za2 (z:Array Value) (n:Nat):(Builtin.zeroCells z n).size=n*z.size:=by simp[Builtin.zeroCells]
theorem append_core {P:Program} {w:World} {I:Nat->Prop} {t1 t2 ty e:TypeId} {i:TypeInfo} {z:Value} {xs ys:List (List C)} {F F2:List Nat} {vd vx:Value} {news:List Value} (hT:Zax P)
  (he:Zaq P t1=some e) (h0:0<P.cellsOf e) (hi:P.info? e=some i) (hzs:z.cells.size=i.size) (hd:OwC P w I (.own xs) t1 vd F) (hs:AppSrc P w I t1 t2 ty e i z ys F2 vx news) (hm:xs.length+ys.length<=Zx)
  (hnd:(F++F2).Nodup) (hF:∀ b∈F++F2,¬ I b/\b<w.heap.size) (hIlt:∀ b,I b->b<w.heap.size):
  ∃ v' w' F',(Builtin.append_ #[t1,t2] ty #[vd,vx]).run P w=.ok v' w'/\w.heap.size<=w'.heap.size/\w'.os=w.os/\w'.tape=w.tape/\w'.output=w.output/\
   (∀ b,b<w.heap.size->b∉F->w'.heap[b]? = w.heap[b]?)/\F'.Nodup/\(∀ b∈F',b<w'.heap.size/\(b<w.heap.size->b∈F++F2))/\OwC P w' I (.own (xs++ys)) t1 v' F':=by
 have hse:=ZaU he;have hisz:i.size=P.cellsOf e:=by simp[Program.cellsOf,hi]
 have hct:(ZX P t1).length=Zs P t1:=hT t1 Om;obtain⟨base,cap,rfl,hdd⟩:=OwC.row hd;have grow:∀ (olds:Array Value) (Fo:List Nat),olds.size=xs.length*i.size->(∀ w':World,(∀ b,b∈Fo->w'.heap[b]? = w.heap[b]?)->(∀ b,I b->w'.heap[b]? = w.heap[b]?)->∀ (c:Array Value),(∀ (j:Nat) (v:Value),olds[j]? = some v->c[j]? = some v)->Zj P w' I c (ZX P t1) (Zs P t1) xs 0 Fo)->
   (∀ b∈Fo,b∈F)->Fo.Nodup->(Builtin.firstCells i.size xs.length (.slice base xs.length cap)).run P w.drew=.ok olds w.drew->cap<xs.length+ys.length->
   ∃ v' w' F',(Builtin.append_ #[t1,t2] ty #[.slice base xs.length cap,vx]).run P w=.ok v' w'/\w.heap.size<=w'.heap.size/\w'.os=w.os/\w'.tape=w.tape/\w'.output=w.output/\
   (∀ b,b<w.heap.size->b∉F->w'.heap[b]? = w.heap[b]?)/\F'.Nodup/\(∀ b∈F',b<w'.heap.size/\(b<w.heap.size->b∈F++F2))/\OwC P w' I (.own (xs++ys)) t1 v' F':=by
  intro olds Fo hol hrows hsub hFo hfc hcap;have hrun:=hs.more base xs.length cap olds hfc hcap hm;have hge:=grownCap_ge w (xs.length+ys.length) cap e;have hsz0:w.drew.heap.size=w.heap.size:=rfl;have hget:∀ (o:Go.Obj) b,b<w.heap.size->(w.drew.alloc o).heap[b]? = w.heap[b]?:=λo b hb=>by rw[Zbw,if_neg (by rw[hsz0];omega)];rfl
  have hnd':=List.nodup_append.mp hnd;refine⟨_,_,w.heap.size::(Fo++F2),hrun,by rw[ZaX,hsz0];omega,rfl,rfl,rfl,λb hb _=>hget _ b hb,?_,?_,?_⟩
  ·refine List.nodup_cons.mpr ⟨λhb=>?_,List.nodup_append.mpr ⟨hFo,hnd'.2.1,λb hb b' hb' e=>hnd'.2.2 b (hsub b hb) b' hb' e⟩⟩;rcases List.mem_append.mp hb with hb|hb
   ·exact absurd (hF _ (List.mem_append_left _ (hsub _ hb))).2 Om
   ·exact absurd (hF _ (List.mem_append_right _ hb)).2 Om
  ·intro b hb;rcases List.mem_cons.mp hb with rfl|hb
   ·exact⟨by rw[ZaX,hsz0];omega,λh=>by omega⟩
   ·rcases List.mem_append.mp hb with hb|hb
    ·have hb':=List.mem_append_left F2 (hsub b hb);exact⟨by rw[ZaX,hsz0];have:=(hF b hb').2;omega,λ_=>hb'⟩
    ·have hb':=List.mem_append_right F hb;exact⟨by rw[ZaX,hsz0];have:=(hF b hb').2;omega,λ_=>hb'⟩
  ·simp only[OwC]
   refine⟨_,_,by rw[List.length_append],.inr ⟨w.heap.size,0,_,e,Fo++F2,rfl,λ_=>rfl,rfl,by rw[Zbw,if_pos hsz0.symm],Om,?_,by rw[List.length_append];exact hge,?_⟩⟩
   ·rw[Nat.zero_add];simp only[Array.size_append,List.size_toArray,Za2,hzs,hol,hs.len,hse,<- hisz,<- Nat.add_mul]
    congr 1;omega
   ·refine Zj.append.mpr ⟨Fo,F2,rfl,hrows _ (λb hb=>hget _ b (hF b (List.mem_append_left _ (hsub b hb))).2) (λb hb=>hget _ b (hIlt b hb)) _ λj v hv=>?_,?_⟩
    ·have hj:=(Array.getElem?_eq_some_iff.mp hv).1;rw[Array.append_assoc,Array.getElem?_append_left hj];exact hv
    ·refine Zj.mono ⟨⟨λ_ h=>h,λb hb=>hget _ b (hIlt b hb)⟩,λb hb=>hget _ b (hF b (List.mem_append_right _ hb)).2⟩ (hs.rows _ _ λj v hv=>?_);have hj:=(List.getElem?_eq_some_iff.mp hv).1;rw[Array.append_assoc,hse,<- hisz,Nat.zero_add,<- hol,Array.getElem?_append_right Om,Nat.add_sub_cancel_left,Array.getElem?_append_left (by simpa using hj)];simpa using hv
 rcases hdd with⟨rfl,rfl,rfl⟩|⟨b,o,c,e',F',rfl,ho0,rfl,hb,hz,hcs,hle,rows⟩
 ·by_cases hy:ys.length=0
  ·have:ys=[]:=List.eq_nil_of_length_eq_zero hy;subst this;have hn:news=[]:=List.eq_nil_of_length_eq_zero (by rw[hs.len];simp);subst hn;have hr:=hs.fit base 0 0 w Sp Sp (by cases base<;>rfl);have hF2:=hs.rows #[] 0 Sp;simp only[Zj] at hF2;refine⟨_,w,[],hr,Nat.le_refl _,rfl,rfl,rfl,λ_ _ _=>rfl,by simp,by simp,?_⟩
   simp only[OwC]
   exact⟨base,0,by simp,.inl Sp⟩
  ·exact grow #[] [] Sp (λw' _ _ c _=>by simp[Zj]) Sp Sp Zat (by simp;omega)
 ·have hval:=Zj.cell hct rows;by_cases hfit:xs.length+ys.length<=cap
  ·have hsz:o+(xs.length+ys.length)*i.size<=c.size:=by rw[hcs,hse,<- hisz];exact Nat.add_le_add_left (Nat.mul_le_mul_right _ hfit) _
   rw[Nat.add_mul] at hsz;obtain⟨w',c',hst,hset,hc'⟩:=Zb0 (P:=P) (off:=o+xs.length*i.size) news 0 w c hb (by rw[hs.len];omega) hs.one;have hr:=hs.fit (some ⟨b,o,none⟩) xs.length cap w' hfit hm (by
    show(storeCells ((⟨b,o,none⟩:Addr).add (xs.length*i.size)) news).run P w=_;rw[ZbW];exact hst)
   have hbn:b∉F'++F2:=by
    have:(b::(F'++F2)).Nodup:=by simpa using hnd
    exact(List.nodup_cons.mp this).1
   have hc':c'.toList=ZE c.toList (o+xs.length*i.size) news:=hc';have hsp:∀ j,c'[j]? = (ZE c.toList (o+xs.length*i.size) news)[j]?:=λj=>by rw[<- hc',Array.getElem?_toList]
   have hfits:o+xs.length*i.size+news.length<=c.toList.length:=by rw[hs.len];simp;omega
   have hIb:¬ I b:=(hF b Sp).1;refine⟨_,w',b::(F'++F2),hr,by rw[hset.size];omega,hset.os,hset.tape,hset.output,λb' _ hb'=>hset.keep b' (λe=>hb' (by simp[e])),by simpa using hnd,λb' hb'=>⟨by rw[hset.size];exact(hF b' (by simpa using hb')).2,λ_=>by simpa using hb'⟩,?_⟩
   simp only[OwC]
   have hcs':c'.size=c.size:=by
    have:=congrArg List.length hc';rw[Zbq hfits] at this;simpa using this
   refine⟨_,cap,by rw[List.length_append],.inr ⟨b,o,c',e',F'++F2,rfl,ho0,rfl,hset.at_,hz,by rw[hcs'];exact hcs,by rw[List.length_append];exact hfit,Zj.append.mpr ⟨F',F2,rfl,?_,?_⟩⟩⟩
   ·refine Zj.mono ⟨⟨λ_ h=>h,λb' hb'=>hset.keep b' (λe=>hIb (e▸hb'))⟩,λb' hb'=>hset.keep b' (λe=>hbn (by simp[<- e,hb']))⟩ (Zj.congr hct (λj v hj hv=>?_) rows);rw[hse,<- hisz] at hj;rw[hsp,ZaV hfits,if_neg Om];simpa using hv
   ·refine Zj.mono ⟨⟨λ_ h=>h,λb' hb'=>hset.keep b' (λe=>hIb (e▸hb'))⟩,λb' hb'=>hset.keep b' (λe=>hbn (by simp[<- e,hb']))⟩ (hs.rows _ _ λj v hv=>?_);have hj:=(List.getElem?_eq_some_iff.mp hv).1;rw[hse,<- hisz,hsp,ZaV hfits,if_pos Om,Nat.add_sub_cancel_left];exact hv
  ·refine grow ((c.toList.drop o).take (xs.length*i.size)).toArray F' ?_ ?_ (by simp +contextual) ?_ ?_ Om
   ·rw[hse,<- hisz] at hval;have:=(take_vals (c:=c) (off:=o) (m:=xs.length*i.size) hval).1;simpa using this
   ·intro w' h1 h2 c' hc';refine Zj.mono ⟨⟨λ_ h=>h,h2⟩,h1⟩ (Zj.congr hct (λj v hj hv=>?_) rows);rw[Nat.zero_add];refine hc' j v ?_;rw[hse,<- hisz] at hj;simp[List.getElem?_take,hj];simpa using hv
   ·have:=List.nodup_append.mp hnd;exact(List.nodup_cons.mp this.1).2
   ·rw[hse,<- hisz] at hval;exact Zau (w:=w.drew) (b:=b) (off:=o) (c:=c) hb hval
end Go.T
namespace Go.T
section
variable {P:Program} {t1 t2 ty e:TypeId} {i:TypeInfo} {z:Value}
theorem Zt.flat {w:World} {I I':Nat->Prop} {c:Array Value}:∀ {ds:List D} {p:Nat},(∀ d∈ds,Zak d=true)->Zt w I c p ds->Zt w I' c p ds
 |[],_,_,_=>by simp only[Zt]
 |d::ds,p,h,r=>by
  simp only[Zt] at r⊢;obtain⟨⟨v,hv,r1⟩,r2⟩:=r;refine⟨⟨v,hv,?_⟩,Zt.flat (λd hd=>h d (by simp[hd])) r2⟩
  have:=h d Sp;cases d with
  |bool b=>simpa only[RdD] using r1
  |int q n=>simpa only[RdD] using r1
  |str s=>simpa only[RdD] using r1
  |sl xs=>simp[Zak] at this
  |fn f cs=>simp[Zak] at this
  |un=>simp[Zak] at this
theorem ZM.flat {w:World} {I I':Nat->Prop} {c:Array Value} {sz:Nat}:∀ {xs:List (List D)} {p:Nat},(∀ x∈xs,∀ d∈x,Zak d=true)->ZM w I c sz p xs->ZM w I' c sz p xs
 |[],_,_,_=>by simp only[ZM]
 |x::xs,p,h,r=>by
  simp only[ZM] at r⊢;exact⟨⟨r.1.1,Zt.flat (h x Sp) r.1.2⟩,ZM.flat (λx hx=>h x (by simp[hx])) r.2⟩
theorem ZcU {w:World} {I I':Nat->Prop} {xs:List (List D)} {vx:Value} (hT:Zax P) (he:Zaq P t1=some e) (h0:0<P.cellsOf e) (hk:Zaj P t2=.sl) (hi:P.info? e=some i) (hzv:i.zero=some z) (hb:i.bytes<=1000)
  (r:RdD w I (.sl xs) vx) (hok:rowsOk (P.cellsOf e) xs) (hII:∀ (c:Array Value) (sz p:Nat),ZM w I c sz p xs->ZM w I' c sz p xs):∃ news,AppSrc P w I' t1 t2 ty e i z (xs.map (·.map .d)) [] vx news:=by
 have hse:=ZaU he;have hisz:i.size=P.cellsOf e:=by simp[Program.cellsOf,hi]
 have hct:(ZX P t1).length=Zs P t1:=hT t1 Om;have hu:=ZaS he;obtain⟨e2,hu2⟩:=Zca hk;simp only[RdD] at r;obtain⟨a,len,cap,rfl,rfl,hle,r⟩:=r;have most63:Zx<=9223372036854775807:=by decide
 rcases r with rfl|⟨b,off,c,ee,fr,sz,rfl,hI,hbb,hsz,rows⟩
 ·refine⟨[],by simp,by simp,λc p _=>by simp[Zj],λbase len cap' w' hf hm hst=>?_,λbase len cap' olds hfo hg hm=>?_⟩
  ·exact ZaW hu (.inl ⟨e2,hu2⟩) hi (n:=0) rfl Zat hf hst
  ·exact ZaK hu (.inl ⟨e2,hu2⟩) hi hzv (n:=0) rfl Zat hfo hg (Nat.le_trans hm most63) (Zcm hb hg hm)
 ·by_cases hx0:xs.length=0
  ·have:xs=[]:=List.eq_nil_of_length_eq_zero hx0;subst this;refine⟨[],by simp,by simp,λc p _=>by simp[Zj],λbase len cap' w' hf hm hst=>?_,λbase len cap' olds hfo hg hm=>?_⟩
   ·exact ZaW hu (.inl ⟨e2,hu2⟩) hi (n:=0) rfl Zat hf hst
   ·exact ZaK hu (.inl ⟨e2,hu2⟩) hi hzv (n:=0) rfl Zat hfo hg (Nat.le_trans hm most63) (Zcm hb hg hm)
  ·have hsz':sz=i.size:=by
    have g1:=(ZM.get rows (i:=0) (x:=xs[0]'Om) (List.getElem?_eq_getElem _)).1;have g2:=hok xs[0] (List.getElem_mem Om);omega
   subst hsz';have hval:=ZM.cell rows;obtain⟨v1,v2,v3⟩:=take_vals hval;refine⟨(c.toList.drop off).take (xs.length*i.size),by simpa using v1,v3,λc' p hc'=>?_,λbase len cap' w' hf hm hst=>?_,λbase len cap' olds hfo hg hm=>?_⟩
   ·rw[hse,<- hisz] at hct⊢;exact ZM.own hct (hII _ _ _ rows) λj v hj hv=>hc' j v ((v2 j v).mpr ⟨hj,hv⟩)
   ·simp only[List.length_map] at hf hm⊢;exact ZaW hu (.inl ⟨e2,hu2⟩) hi (n:=xs.length) rfl (Zau hbb hval) hf hst
   ·simp only[List.length_map] at hg hm⊢;exact ZaK hu (.inl ⟨e2,hu2⟩) hi hzv (n:=xs.length) rfl (Zau (w:=w.drew) hbb hval) hfo hg (Nat.le_trans hm most63) (Zcm hb hg hm)
theorem appSrc_own {w:World} {I:Nat->Prop} {xs:List (List C)} {F:List Nat} {vx:Value} (hT:Zax P) (he:Zaq P t1=some e) (h0:0<P.cellsOf e) (hk:Zaj P t2=.sl) (hi:P.info? e=some i) (hzv:i.zero=some z) (hb:i.bytes<=1000)
  (r:OwC P w I (.own xs) t1 vx F):∃ news F',F'.Sublist F/\AppSrc P w I t1 t2 ty e i z xs F' vx news:=by
 have hse:=ZaU he;have hisz:i.size=P.cellsOf e:=by simp[Program.cellsOf,hi]
 have hct:(ZX P t1).length=Zs P t1:=hT t1 Om;have hu:=ZaS he;obtain⟨e2,hu2⟩:=Zca hk;obtain⟨base,cap,hvx,hrow⟩:=OwC.row r;clear r;subst hvx;have most63:Zx<=9223372036854775807:=by decide
 rcases hrow with⟨rfl,rfl,rfl⟩|⟨b,o,c,e',F',rfl,ho0,rfl,hbb,hz,hcs,hle,rows⟩
 ·refine⟨[],[],by simp,by simp,by simp,λc p _=>by simp[Zj],λbase len cap' w' hf hm hst=>?_,λbase len cap' olds hfo hg hm=>?_⟩
  ·exact ZaW hu (.inl ⟨e2,hu2⟩) hi (n:=0) rfl Zat hf hst
  ·exact ZaK hu (.inl ⟨e2,hu2⟩) hi hzv (n:=0) rfl Zat hfo hg (Nat.le_trans hm most63) (Zcm hb hg hm)
 ·have hval:=Zj.cell hct rows;rw[hse,<- hisz] at hval;obtain⟨v1,v2,v3⟩:=take_vals hval;refine⟨(c.toList.drop o).take (xs.length*i.size),F',by simp,v1,v3,λc' p hc'=>?_,λbase len cap' w' hf hm hst=>?_,λbase len cap' olds hfo hg hm=>?_⟩
  ·exact Zj.congr hct (λj v hj hv=>hc' j v ((v2 j v).mpr ⟨by rwa[hse,<- hisz] at hj,hv⟩)) rows
  ·exact ZaW hu (.inl ⟨e2,hu2⟩) hi (n:=xs.length) rfl (Zau hbb hval) hf hst
  ·exact ZaK hu (.inl ⟨e2,hu2⟩) hi hzv (n:=xs.length) rfl (Zau (w:=w.drew) hbb hval) hfo hg (Nat.le_trans hm most63) (Zcm hb hg hm)
theorem appSrc_str {w:World} {I:Nat->Prop} {s:ByteArray} (hT:Zax P) (he:Zaq P t1=some e) (h0:P.cellsOf e=1) (hk:Zaj P t2=.str) (hi:P.info? e=some i) (hzv:i.zero=some z) (hb:i.bytes<=1000):
  ∃ news,AppSrc P w I t1 t2 ty e i z (s.data.toList.map λb=>[.d (.int .u8 b.toNat)]) [] (.string s) news:=by
 have hse:=ZaU he;have hisz:i.size=P.cellsOf e:=by simp[Program.cellsOf,hi]
 have hct:(ZX P t1).length=Zs P t1:=hT t1 Om;have hu:=ZaS he;have hu2:=ZbE hk;have most63:Zx<=9223372036854775807:=by decide
 have hfc:∀ w':World,(Builtin.firstCells i.size s.size (.string s)).run P w'=.ok (s.data.toList.map λb=>Value.int .u8 b.toNat).toArray w':=by
  intro w';have:(s.extract 0 s.size)=s:=by simp
  simp only[Builtin.firstCells,this,ZZ]
  congr 1;apply Array.ext';simp
 have hlen:(s.data.toList.map λb=>([.d (.int .u8 b.toNat)]:List C)).length=s.size:=by rw[List.length_map,Array.length_toList];rfl
 refine⟨s.data.toList.map λb=>Value.int .u8 b.toNat,by rw[hlen,List.length_map,Array.length_toList,hisz,h0,Nat.mul_one];rfl,by simp[Value.oneCell'],λc p hc=>?_,λbase len cap' w' hf hm hst=>?_,λbase len cap' olds hfo hg hm=>?_⟩
 ·rw[hse,h0] at hct⊢;obtain⟨ct,hcte⟩:=List.length_eq_one_iff.mp hct;rw[hcte];have gen:∀ (l:List UInt8) (p:Nat),(∀ (j:Nat) (v:Value),(l.map λb=>Value.int .u8 b.toNat)[j]? = some v->c[p+j]? = some v)->Zj P w I c [ct] 1 (l.map λb=>[.d (.int .u8 b.toNat)]) p []:=by
   intro l;induction l with
   |nil=>intro p _;simp[Zj]
   |cons b l ih=>
    intro p hc;simp only[List.map_cons,Zj]
    refine⟨[],[],rfl,?_,ih (p+1) λj v hv=>by
     have:=hc (j+1) v (by simpa using hv);rwa[show p+1+j=p+(j+1) from by omega]⟩
    simp only[Zf,OwC,RdD]
    exact⟨ct,[],.int .u8 b.toNat,[],[],rfl,rfl,by simpa using hc 0 _ Sp,⟨rfl,rfl⟩,rfl,rfl⟩
  exact gen s.data.toList p hc
 ·rw[hlen] at hf hm⊢;exact ZaW hu (.inr hu2) hi (n:=s.size) rfl (hfc w) hf hst
 ·rw[hlen] at hg hm⊢;exact ZaK hu (.inr hu2) hi hzv (n:=s.size) rfl (hfc w.drew) hfo hg (Nat.le_trans hm most63) (Zcm hb hg hm)
theorem appSrc_zero {w:World} {I:Nat->Prop} {n:Nat} {q qk:IntKind} {zc:List C} (hT:Zax P) (he:Zaq P t1=some e) (h0:0<P.cellsOf e) (hk:P.underlying t2=some (.int qk)) (hi:P.info? e=some i) (hzv:i.zero=some z) (hb:i.bytes<=1000) (hzs:ZcP (ZaC P e) z.cells.toList=true)
  (hzc:(ZaC P e).filterMap zeroC=zc) (hn:n<=Zx):∃ news,AppSrc P w I t1 t2 ty e i z (List.replicate n zc) [] (.int q n) news:=by
 have hse:=ZaU he;have hisz:i.size=P.cellsOf e:=by simp[Program.cellsOf,hi]
 have hct:(ZX P t1).length=Zs P t1:=hT t1 Om;have hu:=ZaS he;obtain⟨_,z1,hzl,zow⟩:=Zb5 hzs;have most63:Zx<=9223372036854775807:=by decide
 have hzsz:z.cells.size=i.size:=by
  rw[Zcw he,hse] at hct;have h2:(ZaC P e).length=P.cellsOf e:=by simp[ZaC,hct]
  have h3:z.cells.size=(ZaC P e).length:=by simpa using hzl.symm
  omega
 have hbm:n*i.bytes<=281474976710656:=by
  have:n*i.bytes<=68719476736*1000:=Nat.mul_le_mul hn hb;omega
 have hnews:(if n*i.size=0 then #[] else Builtin.zeroCells z.cells n)=Builtin.zeroCells z.cells n:=by
  split
  ·rename_i h;have:n=0:=by
    rcases Nat.mul_eq_zero.mp h with q|q
    ·exact q
    ·omega
   subst this;simp[Builtin.zeroCells]
  ·rfl
 have hn63:n<=9223372036854775807:=Nat.le_trans hn most63;refine⟨(Builtin.zeroCells z.cells n).toList,?_,?_,λc p hc=>?_,λbase len cap' w' hf hm hst=>?_,λbase len cap' olds hfo hg hm=>?_⟩
 ·simp[Za2,hzsz]
 ·intro v hv;simp only[Builtin.zeroCells,Array.toList_map,List.mem_map] at hv;obtain⟨j,_,rfl⟩:=hv;have h0':0<z.cells.size:=by omega
  have hlt:j%z.cells.size<z.cells.size:=Nat.mod_lt _ h0';rw[getElem!_pos z.cells _ hlt];exact z1 _ Sp
 ·refine Zj.replicate n p λj hj=>?_
  rw[<- hzc];refine zow P _ _ _ _ _ ?_ λjj v hv=>?_
  ·rw[Zcw he];simp only[ZaC,List.length_map] at hzl;exact hzl
  ·have:=zeros_get hzsz Om hj hv;have h4:=hc (j*i.size+jj) v (by
    simp only[Builtin.zeroCells,hzsz] at this⊢;rw[Array.getElem?_toList];exact this)
   rw[hse,<- hisz,Nat.add_assoc];exact h4
 ·rw[List.length_replicate] at hf hm⊢;exact run_append_fit0 hu hk hi hzv hbm hn63 hf (by rw[hnews];exact hst)
 ·rw[List.length_replicate] at hg hm⊢;have:=run_append_more0 (ty:=ty) (q:=q) hu hk hi hzv hbm hn63 hfo hg (Nat.le_trans hm most63) (Zcm hb hg hm);rw[hnews] at this;simpa using this
end
section
variable {P:Program} {E:Env} {st:St} {β:Type} {k:St->Option β} {r:β} {dst:Option Nat} {ty:TypeId} {pos:String} {af:Array Edge} {gd:Option (Nat×Bool)}
theorem appSrc_some {t1 e t2:TypeId} {x:T} {K:Bool->List (List C)->St->Option β} {y:β} (h:appSrc P st t1 e t2 x K=some y) (hT:Zax P) (he:Zaq P t1=some e) (h0:0<P.cellsOf e) (hstr:Zaj P t2=.str->P.cellsOf e=1):
  ∃ f ys m1,K f ys (st.gones m1)=some y/\m1.Nodup/\(∀ id∈m1,(∃ og fr ct xs,st.ob[id]? = some (.row og fr ct xs))/\id∈ZO st x)/\
   ∀ (X:Fix) (w:World) (g:G) (stL:St) (a:Act) (vx:Value) (i:TypeInfo) (z:Value) (ty:TypeId),Rel P X w g stL a->Zi X w g x vx->Z9 g stL st (ZO st x)->P.info? e=some i->i.zero=some z->i.bytes<=1000->ZcP (ZaC P e) z.cells.toList=true->
    ∃ news F',F'.Sublist (m1.flatMap g.fp)/\AppSrc P w (g.IM X f) t1 t2 ty e i z ys F' vx news/\(f=true->∀ b,b∈m1.flatMap g.fp->X.new b):=by
 unfold appSrc at h;split at h
 ·rename_i fr ys hk;cases hfl:(!fr&&flatB P e) with
  |true=>
   rw[hfl] at h;simp only[cond_true] at h;obtain⟨hok,h⟩:=ZB h;refine⟨true,_,[],by rw[St.gones_nil];exact h,by simp,by simp,λX w g stL a vx i z ty hr rx hs hi hzv hb hzs=>?_⟩
   simp only[Zi] at rx;obtain⟨news,hn⟩:=ZcU (ty:=ty) (I':=g.IM X true) hT he h0 hk hi hzv hb rx (λx hx=>(hok x hx).1) (λ_ _ _=>ZM.flat λx hx=>(hok x hx).2);exact⟨news,[],by simp,hn,by simp⟩
  |false=>
  rw[hfl] at h;simp only[cond_false] at h;obtain⟨hok,h⟩:=ZB h;refine⟨fr,_,[],by rw[St.gones_nil];exact h,by simp,by simp,λX w g stL a vx i z ty hr rx hs hi hzv hb hzs=>?_⟩
  simp only[Zi] at rx;obtain⟨news,hn⟩:=ZcU (ty:=ty) hT he h0 hk hi hzv hb rx hok (λ_ _ _ r=>r);exact⟨news,[],by simp,hn,by simp⟩
 ·rename_i hk;refine⟨true,[],[],by rw[St.gones_nil];exact h,by simp,by simp,λX w g stL a vx i z ty hr rx hs hi hzv hb hzs=>?_⟩
  simp only[Zi] at rx;obtain⟨ad,rfl⟩:=rx;obtain⟨news,hn⟩:=ZcU (ty:=ty) (w:=w) (I:=g.IM X true) (xs:=[]) hT he h0 hk hi hzv hb (by simp only[RdD];exact⟨ad,0,0,rfl,rfl,Om,.inl trivial⟩) (λy hy=>by cases hy) (λ_ _ _ r=>r);exact⟨news,[],by simp,hn,by simp⟩
 ·rename_i id hk;split at h
  ·rename_i og fr rt ys ho;split at h;case isFalse=>cases h
   rename_i hrt;subst hrt;refine⟨fr,ys,[id],by rw[St.gones_cons,St.gones_nil];exact h,by simp,λi hi=>by simp at hi;subst hi;exact⟨⟨_,_,_,_,ho⟩,by simp[ZO]⟩,λX w g stL a vx i z ty hr rx hs hi hzv hb hzs=>?_⟩
   simp only[Zi] at rx;obtain⟨_,_,⟨row,_⟩,hfr,_⟩:=hs.obj hr (by simp[ZO]) ho;obtain⟨news,F',hsub,hn⟩:=appSrc_own (ty:=ty) hT he h0 hk hi hzv hb row;rw[rx.2];exact⟨news,F',by simpa using hsub,hn,by simpa using hfr⟩
  ·rename_i fr ys ho;cases hfl:(!fr&&flatB P e) with
   |true=>
    rw[hfl] at h;simp only[cond_true] at h;obtain⟨hok,h⟩:=ZB h;refine⟨true,_,[],by rw[St.gones_nil];exact h,by simp,by simp,λX w g stL a vx i z ty hr rx hs hi hzv hb hzs=>?_⟩
    simp only[Zi] at rx;obtain⟨_,_,hrd,_⟩:=hs.obj hr (by simp[ZO]) ho;rw[rx.2];obtain⟨news,hn⟩:=ZcU (ty:=ty) (I':=g.IM X true) hT he h0 hk hi hzv hb hrd (λx hx=>(hok x hx).1) (λ_ _ _=>ZM.flat λx hx=>(hok x hx).2);exact⟨news,[],by simp,hn,by simp⟩
   |false=>
   rw[hfl] at h;simp only[cond_false] at h;obtain⟨hok,h⟩:=ZB h;refine⟨fr,_,[],by rw[St.gones_nil];exact h,by simp,by simp,λX w g stL a vx i z ty hr rx hs hi hzv hb hzs=>?_⟩
   simp only[Zi] at rx;obtain⟨_,_,hrd,_⟩:=hs.obj hr (by simp[ZO]) ho;rw[rx.2];obtain⟨news,hn⟩:=ZcU (ty:=ty) hT he h0 hk hi hzv hb hrd hok (λ_ _ _ r=>r);exact⟨news,[],by simp,hn,by simp⟩
  ·cases h
 ·rename_i id i off hk;split at h;case isFalse=>cases h
  obtain⟨og,fr,rt,xs,c,x',rest,ys,ho,hc,hd,hy,h⟩:=subD_some h;obtain⟨hok,h⟩:=ZB h;refine⟨true,_,[],by rw[St.gones_nil];exact h,by simp,by simp,λX w g stL a vx i z ty hr rx hs hi hzv hb hzs=>?_⟩
  obtain⟨ct,F',ow,_,_⟩:=sub_cell hr (by simpa[ZO] using hs) ho hc hd rx;have rd:RdD w (λb=>g.IM X fr b\/b∈F') x'.imm vx:=OwC.imm (λb hb=>.inl hb) (λb hb=>.inr hb) hT ow;rw[hy] at rd;obtain⟨news,hn⟩:=ZcU (ty:=ty) (I':=g.IM X true) hT he h0 hk hi hzv hb rd (λx hx=>(hok x hx).1) (λ_ _ _=>ZM.flat λx hx=>(hok x hx).2);exact⟨news,[],by simp,hn,by simp⟩
 ·rename_i f s hk;refine⟨true,_,[],by rw[St.gones_nil];exact h,by simp,by simp,λX w g stL a vx i z ty hr rx hs hi hzv hb hzs=>?_⟩
  obtain rfl:=Zi.scal_eq (d:=.str s) rfl rx;obtain⟨news,hn⟩:=appSrc_str (ty:=ty) (w:=w) (I:=g.IM X true) (s:=s) hT he (hstr hk) hk hi hzv hb;exact⟨news,[],by simp,hn,by simp⟩
 ·rename_i q0 f q n hk;split at h;case h_2=>cases h
  rename_i zc hzc;obtain⟨⟨c1,c2⟩,h⟩:=ZB h;unfold zeroCellsC at hzc;split at hzc;case isFalse=>cases hzc
  injection hzc with hzc;refine⟨true,_,[],by rw[St.gones_nil];exact h,by simp,by simp,λX w g stL a vx i z ty hr rx hs hi hzv hb hzs=>?_⟩
  obtain rfl:=Zi.scal_eq (d:=.int q n) rfl rx;obtain⟨nn,rfl⟩:∃ nn:Nat,n=nn:=⟨n.toNat,Om⟩
  obtain⟨news,hn⟩:=appSrc_zero (ty:=ty) (w:=w) (I:=g.IM X true) (n:=nn) (q:=q) hT he h0 (ZcX hk) hi hzv hb hzs hzc Om;exact⟨news,[],by simp,by simpa[ZaJ] using hn,by simp⟩
 ·cases h
theorem opAppend {c:Call} (hT:Zax P) (hc:c.callee=.builtin .append) (h:Z1 P E ⟨dst,.call c,ty,pos,af,gd⟩ st k=some r):ZN P E ⟨dst,.call c,ty,pos,af,gd⟩ st k r:=by
 simp only[Z1,hc] at h;split at h;case h_2=>cases h
 rename_i s x t1 t2 hsx htt;unfold appendDen at h;split at h
 ·cases h
 rename_i e he;split at h;case isFalse=>cases h
 rename_i hck;obtain⟨h0,hby,hsl,hstr,hzo⟩:=hck;obtain⟨f,ys,m1,h,hm1,hm1r,hsrc⟩:=appSrc_some h hT he h0 hstr;obtain⟨i,z,hi,hzv,hzs⟩:=Zc8 hzo;have hbi:i.bytes<=1000:=by simpa[Program.bytesOf,hi] using hby
 have hzsz:z.cells.size=i.size:=by
  have h1:=hT t1 (by rw[ZaU he];omega);rw[Zcw he,ZaU he] at h1;have h2:(ZaC P e).length=P.cellsOf e:=by simp[ZaC,h1]
  have h3:z.cells.size=(ZaC P e).length:=by simpa using(Zb5 hzs).2.2.1.symm
  have h4:i.size=P.cellsOf e:=by simp[Program.cellsOf,hi]
  omega
 have hs_mem:s∈c.args.toList:=by rw[hsx];simp
 have hx_mem:x∈c.args.toList:=by rw[hsx];simp
 have fin:∀ (xs:List (List C)) (fr:Bool) (mv:List Nat),mv.Nodup->(∀ id∈mv,∃ og fr ct xs,st.ob[id]? = some (.row og fr ct xs))->(∀ id∈mv,id∈Zbm ⟨dst,.call c,ty,pos,af,gd⟩ st)->(∃ m2,mv=m1++m2)->
   xs.length+ys.length<=Zx->k (((st.gones mv).newOb (.row none (fr&&f) t1 (xs++ys))).put dst (.row st.ob.length))=some r->
   (∀ (X:Fix) (w:World) (g:G) (stL:St) (a:Act),Rel P X w g stL a->Z9 g stL st (Zbm ⟨dst,.call c,ty,pos,af,gd⟩ st)->Zi X w g (st.ev s) (a.eval s)->
    ∃ F,OwC P w (g.IM X fr) (.own xs) t1 (a.eval s) F/\(∃ m2,mv=m1++m2/\F=m2.flatMap g.fp)/\(fr=true->∀ b∈F,X.new b))->
   ZN P E ⟨dst,.call c,ty,pos,af,gd⟩ st k r:=by
  intro xs fr mv hnd hrows hlk hpre hle hk hdst;refine ZN.moved hrows hk λX w0=>Zbh.one (λid hid=>by obtain⟨_,_,_,_,ho⟩:=hrows id hid;exact(List.getElem?_eq_some_iff.mp ho).1) λstL g a w hr hs hR hl hn=>?_
  obtain⟨F,hd,⟨m2,hmv,hF⟩,hfrF⟩:=hdst X w g stL a hr hl (hR s (Zaf hs_mem));obtain⟨news,F2,hsub,hn',hfr2⟩:=hsrc X w g stL a _ i z ty hr (hR x (Zaf hx_mem)) (hl.sub (ZbD hx_mem)) hi hzv hbi hzs;have hmB:∀ id∈mv,g.B id:=λid hid=>by obtain⟨_,_,_,_,ho⟩:=hrows id hid;exact(hl id (hlk id hid) (by rw[ho];rfl)).2
  have hpool:=ZcT hr.sep hnd hmB;have hperm:(F++F2).Nodup:=by
   rw[hmv,List.flatMap_append] at hpool;have h1:=List.nodup_append.mp hpool;subst hF;exact List.nodup_append.mpr ⟨h1.2.1,hsub.nodup h1.1,λb hb b' hb' e=>h1.2.2 b' (hsub.subset hb') b hb e.symm⟩
  have hin:∀ b∈F++F2,b∈mv.flatMap g.fp:=by
   intro b hb;rw[hmv,List.flatMap_append];rcases List.mem_append.mp hb with hb|hb
   ·subst hF;exact List.mem_append_right _ hb
   ·exact List.mem_append_left _ (hsub.subset hb)
  have hmine:∀ b∈mv.flatMap g.fp,¬ g.I b/\b<w.heap.size/\(X.base<=b\/b∈X.lent):=by
   intro b hb;obtain⟨id,hid,hb⟩:=List.mem_flatMap.mp hb;exact hr.sep.mine id (hmB id hid) b hb
  have hd':OwC P w (g.IM X (fr&&f)) (.own xs) t1 (a.eval s) F:=OwC.weaken (λb hb=>IM_and hb) hd;have hs':AppSrc P w (g.IM X (fr&&f)) t1 t2 ty e i z ys F2 (a.eval x) news:=⟨hn'.len,hn'.one,λc p hc=>Zj.weaken (λb hb=>IM_and' hb) (hn'.rows c p hc),hn'.fit,hn'.more⟩
  obtain⟨v',w',F',hrun,g1,g2,g3,g4,g5,g6,g7,g8⟩:=append_core hT he h0 hi hzsz hd' hs' hle hperm (λb hb=>⟨λhI=>(hmine b (hin b hb)).1 hI.1,(hmine b (hin b hb)).2.1⟩) (λb hb=>hr.sep.imm b hb.1);refine⟨v',w',F',v',Zs P t1,ZcE hc ?_,g1,g2,g3,g4,λb hb hb'=>g5 b hb (λq=>hb' (hin b (List.mem_append_left _ q))),g6,λb hb=>⟨(g7 b hb).1,λq=>hin b ((g7 b hb).2 q)⟩,hmB,?_,?_⟩
  ·rw[Zc9 hsx,Zc9 htt,show(#[s,x].map a.eval)=#[a.eval s,a.eval x] from by simp];exact ZaN hrun
  ·simp only[Zy,G.one_hv,G.one_fp,G.one_sz]
   refine⟨⟨g8,trivial⟩,λq b hb=>?_,by simp⟩
   simp at q;by_cases hlt:b<w.heap.size
   ·rcases List.mem_append.mp ((g7 b hb).2 hlt) with hb|hb
    ·exact hfrF q.1 b hb
    ·exact hfr2 q.2 b (hsub.subset hb)
   ·exact .inl (by have:=hs.base;have:=hs.size;omega)
  ·simp only[Zi]
   exact⟨G.one_B,G.one_hv.symm⟩
 have hlen:∀ mv,(st.gones mv).ob.length=st.ob.length:=λmv=>by simp[St.gones,ZH]
 split at h
 ·rename_i hs;obtain⟨hle,hk⟩:=ZB h;rw[hlen] at hk;refine fin [] true m1 hm1 (λid hid=>(hm1r id hid).1) (λid hid=>ZbD hx_mem id (hm1r id hid).2) ⟨[],by simp⟩ (by simpa using hle) (by simpa using hk) λX w g stL a hr hl rs=>?_
  rw[hs] at rs;simp only[Zi] at rs;obtain⟨ad,hv⟩:=rs;refine⟨[],?_,⟨[],by simp,rfl⟩,by simp⟩
  rw[hv];simp only[OwC]
  exact⟨ad,0,rfl,.inl Sp⟩
 ·rename_i id hs;split at h;case h_2=>cases h
  rename_i og fr rt xs ho;split at h;case isFalse=>cases h
  rename_i hrt;subst hrt;obtain⟨hle,hk⟩:=ZB h;obtain⟨hnm,ho'⟩:=St.gones_ob ho Sp;have hg:(st.gones m1).setOb id .gone=st.gones (m1++[id]):=by rw[St.gones_append,St.gones_cons,St.gones_nil]
  rw[hg,hlen] at hk;refine fin xs fr (m1++[id]) (List.nodup_append.mpr ⟨hm1,by simp,λb hb b' hb' e=>by simp at hb';subst hb';exact hnm (e▸hb)⟩) (λj hj=>?_) (λj hj=>?_) ⟨[id],rfl⟩ hle hk λX w g stL a hr hl rs=>?_
  ·rcases List.mem_append.mp hj with hj|hj
   ·exact(hm1r j hj).1
   ·simp at hj;subst hj;exact⟨_,_,_,_,ho'⟩
  ·rcases List.mem_append.mp hj with hj|hj
   ·exact ZbD hx_mem j (hm1r j hj).2
   ·simp at hj;subst hj;exact ZbD hs_mem j (by rw[hs];simp[ZO])
  ·rw[hs] at rs;simp only[Zi] at rs;obtain⟨_,_,⟨row,_⟩,hfr,_⟩:=hl.obj hr (ZbD hs_mem id (by rw[hs];simp[ZO])) ho';refine⟨g.fp id,by rw[rs.2];exact row,⟨[id],rfl,by simp⟩,hfr⟩
 ·cases h
end
end Go.T
