/- What an operation does,seen from any state that agrees with the evaluator's where the operation Za9. -/
import Derived.Test.YtlobhlnahhjpjaaGreatTInv
import Derived.Laws.StructEq
set_option linter.unusedVariables false
set_option linter.unusedSimpArgs false
namespace Go.T
structure Eff where
 t:T
 chg:List (Nat×Obj)
 news:List Obj
def Zw (l:List (Nat×Obj)) (t:T):T:=l.foldl (λt p=>ZX p.1 t) t
def ZG (ob:List Obj) (l:List (Nat×Obj)):List Obj:=l.foldl (λob p=>ob.set p.1 p.2) ob
def Zbm (ob:List Obj) (n:Nat):List Obj->List Obj
 |[]=>ob
 |o::os=>Zbm (ob.set n o) (n+1) os
def St.eff (st:St) (dst:Option Nat) (n:Nat) (e:Eff):St:=
 (St.mk (st.tm.map (Zw e.chg)) (Zbm (ZG st.ob e.chg) n e.news)).put dst e.t
def St.pad (st:St) (m:Nat):St:=⟨st.tm,st.ob++List.replicate m .gone⟩
def ZW (g:G) (stL st:St) (l:List Nat):Prop:=∀ id∈l,(st.ob[id]?).isSome->stL.ob[id]? = st.ob[id]?/\g.B id
def OpOk (P:Program) (X:Fix) (w0:World) (o:Oper) (st:St) (e:Eff):Prop:=
 ∀ (stL:St) (g:G) (a:Act) (w:World),Rel P X w g stL a->Zac X w0 w->
  (∀ x∈o.op.operands.toList,stL.ev x=st.ev x\/st.ev x=.any)->ZW g stL st (Za9 o st)->
  (∀ j,j<e.news.length->stL.ob[st.ob.length+j]? = some .gone/\¬ g.B (st.ob.length+j))->
  ∀ (K:Act->World->Prop) (Q:Exit->Act->World->Prop),
   (∀ g' w' a',Rel P X w' g' (stL.eff o.dst st.ob.length e) a'->Zac X w0 w'->
    (∀ id,g'.B id↔g.B id\/(st.ob.length<=id/\id<st.ob.length+e.news.length))->K a' w')->
   o.wp P a w K Q
theorem OpOk.args {P:Program} {X:Fix} {w:World} {g:G} {stL st:St} {a:Act} (hr:Rel P X w g stL a) {x:Operand} (h:stL.ev x=st.ev x\/st.ev x=.any):Zb X w g (st.ev x) (a.eval x):=by
 rcases h with h|h
 ·rw[<- h];exact hr.ev x
 ·rw[h];simp[Zb]
theorem eff_pure (st:St) (dst:Option Nat) (n:Nat) (t:T):st.eff dst n ⟨t,[],[]⟩=st.put dst t:=by
 have h:(st.tm.map (Zw []))=st.tm:=by
  have:Zw []=id:=funext λt=>rfl
  rw[this,List.map_id]
 simp[St.eff,h,Zbm,ZG]
theorem wp_val {P:Program} {o:Oper} {a:Act} {w w':World} {v:Value} {K:Act->World->Prop} {Q:Exit->Act->World->Prop}
  (h:(execOp a.eval o).run P w=.ok (.value v) w') (hk:K (a.put o.dst v) w'):o.wp P a w K Q:=by
 unfold Oper.wp
 rw[h]
 exact hk
theorem OpOk.pure {P:Program} {X:Fix} {w0:World} {o:Oper} {st:St} {t:T}
  (h:∀ (stL:St) (g:G) (a:Act) (w:World),Rel P X w g stL a->(∀ x∈o.op.operands.toList,Zb X w g (st.ev x) (a.eval x))->
   ZW g stL st (Za9 o st)->∃ v,(execOp a.eval o).run P w=.ok (.value v) w/\Zb X w g t v):
  OpOk P X w0 o st ⟨t,[],[]⟩:=by
 intro stL g a w hr hs ha hl _ K Q hK
 obtain⟨v,hv,hR⟩:=h stL g a w hr (λx hx=>OpOk.args hr (ha x hx)) hl
 refine wp_val hv (hK g w _ ?_ hs (λid=>by simp;omega))
 rw[eff_pure]
 exact hr.put _ hR
theorem Zm {α β:Type} (P:Program) (s:Sem α) (f:α->Sem β):∀ (w:World),(s.bind f).run P w=match s.run P w with|.ok a w'=>(f a).run P w'|.halt h w'=>.halt h w':=by
 induction s with
 |pure a=>intro w;rfl
 |load m a k ih=>
  intro w;simp only[Sem.bind,Sem.run]
  cases w.cell? a with
  |some v=>exact ih v w
  |none=>
   simp only[]
   cases w.farLoad P a (m==.atomic) with
   |ok r=>exact ih r.1 w
   |error e=>rfl
 |store m a v k ih=>
  intro w
  cases v<;>simp only[Sem.bind,Sem.run]<;>(try rfl)<;>
   (cases w.cell? a with
    |some u=>simp only[];split<;>first|rfl|exact ih _
    |none=>simp only[];cases w.farStore P a _ (m==.atomic) with
     |ok r=>exact ih r.1
     |error e=>rfl)
 |new o k ih=>intro w;exact ih _ _
 |shape r k ih=>intro w;exact ih _ _
 |freeze a n k ih=>intro w;exact ih _
 |frozen a k ih=>intro w;exact ih _ _
 |getObj r k ih=>
  intro w;simp only[Sem.bind,Sem.run]
  split<;>first|rfl|exact ih _ _
 |setObj r o k ih=>
  intro w;simp only[Sem.bind,Sem.run]
  split<;>first|rfl|exact ih _
 |choose q k ih=>
  intro w;simp only[Sem.bind,Sem.run]
  split
  ·exact ih _ _
  ·exact ih _ _
 |sys c k ih=>intro w;exact ih _ _
 |program k ih=>intro w;exact ih _ _
 |mark m k ih=>intro w;exact ih _
 |halt h=>intro w;rfl
theorem ZT {α β:Type} (P:Program) (s:Sem α) (f:α->Sem β) (w:World):(s >>= f).run P w=match s.run P w with|.ok a w'=>(f a).run P w'|.halt h w'=>.halt h w':=Zm P s f w
theorem ZM {α:Type} (P:Program) (a:α) (w:World):(pure a:Sem α).run P w=.ok a w:=rfl
theorem Zg {P:Program} {t:TypeId} {d:TypeDesc} (h:P.underlying t=some d) (w:World):(underlying t).run P w=.ok d w:=by
 show(Sem.bind program _).run P w=_
 rw[Zm]
 show (match P.underlying t with | some d => (pure d : Sem TypeDesc) | none => stuck "no such type").run P w = _
 rw[h]
 rfl
theorem Zp {β:Type} {c:Prop} [Decidable c] {k:Option β} {y:β} (h:Zd c k=some y):c/\k=some y:=by
 unfold Zd at h
 split at h
 ·exact⟨‹c›,h⟩
 ·cases h
def Zav:D->Value
 |.bool b=>.bool b
 |.int k n=>.int k n
 |.str s=>.string s
 |_=>Go.undef
theorem RdD.scal {w:World} {I:Nat->Prop} {d:D} (h:Zag d=true):RdD w I d (Zav d):=by
 cases d<;>simp[Zag] at h<;>simp[RdD,Zav]
theorem Zb.scal {X:Fix} {w:World} {g:G} {fr:Bool} {d:D} (h:Zag d=true):Zb X w g (.d fr d) (Zav d):=by
 simp only[Zb];exact RdD.scal h
theorem Zb.scal_eq {X:Fix} {w:World} {g:G} {fr:Bool} {d:D} {v:Value} (h:Zag d=true) (r:Zb X w g (.d fr d) v):v=Zav d:=by
 simp only[Zb] at r
 cases d<;>simp[Zag] at h<;>simpa[RdD,Zav] using r
theorem binInt_sound {β:Type} {op:BinOp} {q:IntKind} {a b:Int} {k:D->Option β} {y:β} (h:binInt op q a b k=some y) (h1:op≠.shl) (h2:op≠.shr):
  ∃ d,k d=some y/\Zag d=true/\∀ (P:Program) (w:World) (t:TypeId),(binOp op t (.int q a) (.int q b)).run P w=.ok (Zav d) w:=by
 cases op with
 |quo=>
  simp only[binInt] at h
  obtain⟨hc,h⟩:=Zp h
  exact⟨_,h,rfl,λP w t=>by simp[binOp,Op.intDiv,hc,ZM,Zav]⟩
 |rem=>
  simp only[binInt] at h
  obtain⟨hc,h⟩:=Zp h
  exact⟨_,h,rfl,λP w t=>by simp[binOp,Op.intDiv,hc,ZM,Zav]⟩
 |shl=>exact absurd rfl h1
 |shr=>exact absurd rfl h2
 |add=>exact⟨_,h,rfl,λP w t=>by simp[binOp,Op.intArith,ZM,Zav]⟩
 |sub=>exact⟨_,h,rfl,λP w t=>by simp[binOp,Op.intArith,ZM,Zav]⟩
 |mul=>exact⟨_,h,rfl,λP w t=>by simp[binOp,Op.intArith,ZM,Zav]⟩
 |and=>exact⟨_,h,rfl,λP w t=>by simp[binOp,Op.intBits,ZM,Zav]⟩
 |or=>exact⟨_,h,rfl,λP w t=>by simp[binOp,Op.intBits,ZM,Zav]⟩
 |xor=>exact⟨_,h,rfl,λP w t=>by simp[binOp,Op.intBits,ZM,Zav]⟩
 |andNot=>exact⟨_,h,rfl,λP w t=>by simp[binOp,Op.intBits,ZM,Zav]⟩
 |eql=>exact⟨_,h,rfl,λP w t=>by simp[binOp,Op.intCmp,ZM,Zav]⟩
 |neq=>exact⟨_,h,rfl,λP w t=>by simp[binOp,Op.intCmp,ZM,Zav]⟩
 |lss=>exact⟨_,h,rfl,λP w t=>by simp[binOp,Op.intCmp,ZM,Zav]⟩
 |leq=>exact⟨_,h,rfl,λP w t=>by simp[binOp,Op.intCmp,ZM,Zav]⟩
 |gtr=>exact⟨_,h,rfl,λP w t=>by simp[binOp,Op.intCmp,ZM,Zav]⟩
 |geq=>exact⟨_,h,rfl,λP w t=>by simp[binOp,Op.intCmp,ZM,Zav]⟩
theorem binStr_sound {β:Type} {op:BinOp} {a b:ByteArray} {k:D->Option β} {y:β} (h:binStr op a b k=some y):
  ∃ d,k d=some y/\Zag d=true/\∀ (P:Program) (w:World) (t:TypeId),(binOp op t (.string a) (.string b)).run P w=.ok (Zav d) w:=by
 cases op with
 |add=>
  simp only[binStr] at h
  obtain⟨hc,h⟩:=Zp h
  refine⟨_,h,rfl,λP w t=>?_⟩
  have hm:¬ (((a.size+b.size:Nat):Int)>IntKind.i64.max):=by
   have:IntKind.i64.max=9223372036854775807:=by decide
   rw[this];omega
  simp only[binOp,Op.stringOp,hm,if_false,ZM,Zav]
 |eql=>exact⟨_,h,rfl,λP w t=>rfl⟩
 |neq=>exact⟨_,h,rfl,λP w t=>rfl⟩
 |lss=>exact⟨_,h,rfl,λP w t=>rfl⟩
 |leq=>exact⟨_,h,rfl,λP w t=>rfl⟩
 |gtr=>exact⟨_,h,rfl,λP w t=>rfl⟩
 |geq=>exact⟨_,h,rfl,λP w t=>rfl⟩
 |_=>simp[binStr] at h
theorem ZbW {op:BinOp} {t:TypeId} {x y:Operand} {a b:Value} (P:Program) (w:World)
  (ha:(∀ n cs,a≠.agg cs/\b≠.agg n)/\a≠.nilIface):(eqGuard op t x y a b).run P w=.ok () w:=by
 obtain⟨h1,h2⟩:=ha
 unfold eqGuard
 cases op<;>(try rfl)<;>cases a<;>cases b<;>first|rfl|exact absurd rfl h2|exact absurd rfl (h1 #[] _).1
theorem kind_int {P:Program} {t:TypeId} {q:IntKind} (h:Zam P t=.int q):P.underlying t=some (.int q):=by
 unfold Zam at h
 split at h<;>first|(injection h with h;subst h;assumption)|cases h
theorem part_int {P:Program} {t:TypeId} {q:IntKind} (h:Zam P t=.int q) {cs:Array Value} {off:Nat} {v:Value} (hv:cs[off]? = some v) (w:World):(part t cs off).run P w=.ok v w:=by
 simp[part,isAgg,Zg (kind_int h),hv]
theorem two_eq {P:Program} {t:TypeId} {q1 q2:IntKind} (h:twoInts P t q1 q2=true) (a1 a2 b1 b2:Int) (w:World):
  (Op.equalIn 10000 t (.agg #[.int q1 a1,.int q2 a2]) (.agg #[.int q1 b1,.int q2 b2])).run P w=.ok (a1==b1&&a2==b2) w/\P.eqGuardType P.depth t=false:=by
 unfold twoInts at h
 simp only[Bool.and_eq_true,Bool.not_eq_true'] at h
 obtain⟨⟨h1,h2⟩,h3⟩:=h
 refine⟨?_,h2⟩
 split at h3
 ·rename_i fs hu
  split at h3
  ·rename_i f1 f2 hfs
   simp only[Bool.and_eq_true,bne_iff_ne,ne_eq,decide_eq_true_eq] at h3
   obtain⟨⟨n1,n2⟩,o1,o2,k1,k2⟩:=h3
   have hf:P.fieldsOf t=fs:=by unfold Program.fieldsOf;rw[hu]
   rw[run_equalIn_struct w 9999 t _ _ (by rw[hf];exact hu) h1,hf,hfs]
   simp only[Op.eqFields,ne_eq,n1,n2,not_false_eq_true,if_true,o1,o2]
   rw[ZT,part_int k1 (v:=.int q1 a1) rfl]
   simp only[Result.andThen]
   rw[ZT,part_int k1 (v:=.int q1 b1) rfl]
   simp only[Result.andThen]
   rw[ZT,show(Op.equalIn 9999 f1.type (.int q1 a1) (.int q1 b1)).run P w=.ok (a1==b1) w from run_equalIn_int w 9998 f1.type q1 q1 a1 b1 (kind_int k1)]
   simp only[Result.andThen]
   cases hc:(a1==b1) with
   |false=>rfl
   |true=>
    simp only[Bool.not_true,Bool.false_eq_true,if_false]
    rw[ZT,part_int k2 (v:=.int q2 a2) rfl]
    simp only[Result.andThen]
    rw[ZT,part_int k2 (v:=.int q2 b2) rfl]
    simp only[Result.andThen]
    rw[ZT,show(Op.equalIn 9999 f2.type (.int q2 a2) (.int q2 b2)).run P w=.ok (a2==b2) w from run_equalIn_int w 9998 f2.type q2 q2 a2 b2 (kind_int k2)]
    simp only[Result.andThen]
    cases hc2:(a2==b2)<;>rfl
  ·cases h3
 ·cases h3
theorem bin_sound {β:Type} {P:Program} {op:BinOp} {t:TypeId} {x y:T} {k:T->Option β} {r:β} (h:binDen P op t x y k=some r):
  ∃ d,k (.d true d)=some r/\Zag d=true/\∀ (X:Fix) (g:G) (w:World) (xo yo:Operand) (vx vy:Value),Zb X w g x vx->Zb X w g y vy->
   ((do eqGuard op t xo yo vx vy;binOp op t vx vy:Sem Value)).run P w=.ok (Zav d) w:=by
 unfold binDen at h
 split at h
 ·rename_i f1 q1 a1 f2 q2 a2 f3 q1' b1 f4 q2' b2
  split at h
  ·rename_i hq
   obtain⟨h2,rfl,rfl⟩:=hq
   have rel:∀ (X:Fix) (g:G) (w:World) (f f':Bool) (u v:Int) (z:Value),Zb X w g (.agg [.d f (.int q1' u),.d f' (.int q2' v)]) z->z=.agg #[.int q1' u,.int q2' v]:=λX g w f f' u v z r=>by
    simp only[Zb,Zh,RdD] at r
    obtain⟨cs,rfl,v1,vs1,rfl,-,rfl,v2,vs2,rfl,-,rfl,rfl⟩:=r
    rfl
   split at h
   ·refine⟨_,h,rfl,λX g w xo yo vx vy rx ry=>?_⟩
    obtain⟨he,hg⟩:=two_eq h2 a1 a2 b1 b2 w
    rw[rel _ _ _ _ _ _ _ _ rx,rel _ _ _ _ _ _ _ _ ry,ZT,run_eqGuard_agg w _ _ _ _ _ _ hg]
    simp only[Result.andThen]
    rw[run_eql_struct,he]
    rfl
   ·refine⟨_,h,rfl,λX g w xo yo vx vy rx ry=>?_⟩
    obtain⟨he,hg⟩:=two_eq h2 a1 a2 b1 b2 w
    rw[rel _ _ _ _ _ _ _ _ rx,rel _ _ _ _ _ _ _ _ ry,ZT,run_eqGuard_agg w _ _ _ _ _ _ hg]
    simp only[Result.andThen]
    rw[run_neq_struct,he]
    rfl
   ·cases h
  ·cases h
 ·rename_i f q a f' q' b
  have key:∀ d,Zag d=true->(∀ w,(binOp op t (.int q a) (.int q' b)).run P w=.ok (Zav d) w)->∀ (X:Fix) (g:G) (w:World) (xo yo:Operand) (vx vy:Value),Zb X w g (.d f (.int q a)) vx->Zb X w g (.d f' (.int q' b)) vy->
   ((do eqGuard op t xo yo vx vy;binOp op t vx vy:Sem Value)).run P w=.ok (Zav d) w:=by
   intro d hd hrun X g w xo yo vx vy rx ry
   rw[Zb.scal_eq rfl rx,Zb.scal_eq rfl ry]
   rw[ZT,ZbW P w ⟨λ_ _=>⟨by simp[Zav],by simp[Zav]⟩,by simp[Zav]⟩]
   exact hrun w
  split at h
  ·obtain⟨hc,h⟩:=Zp h
   refine⟨_,h,rfl,key _ rfl λw=>?_⟩
   have:¬ b<0:=by omega
   simp[binOp,Op.shift,this,ZM,Zav]
  ·obtain⟨hc,h⟩:=Zp h
   refine⟨_,h,rfl,key _ rfl λw=>?_⟩
   have:¬ b<0:=by omega
   simp[binOp,Op.shift,this,ZM,Zav]
  ·rename_i h1 h2
   split at h
   ·rename_i hq
    subst hq
    obtain⟨d,hk,hd,hrun⟩:=binInt_sound h h1 h2
    exact⟨d,hk,hd,key d hd λw=>hrun P w t⟩
   ·cases h
 ·rename_i f a f' b
  obtain⟨d,hk,hd,hrun⟩:=binStr_sound h
  refine⟨d,hk,hd,λX g w xo yo vx vy rx ry=>?_⟩
  rw[Zb.scal_eq rfl rx,Zb.scal_eq rfl ry]
  rw[ZT,ZbW P w ⟨λ_ _=>⟨by simp[Zav],by simp[Zav]⟩,by simp[Zav]⟩]
  exact hrun P w t
 ·rename_i f a f' b
  split at h
  ·rename_i hk
   have hu:P.underlying t=some .bool:=by
    unfold Zam at hk
    split at hk<;>first|assumption|cases hk
   have heq:∀ w,(Op.equal t (.bool a) (.bool b)).run P w=.ok (a==b) w:=by
    intro w
    unfold Op.equal Op.maxDepth Op.equalIn
    rw[ZT,Zg hu]
    rfl
   split at h
   ·refine⟨_,h,rfl,λX g w xo yo vx vy rx ry=>?_⟩
    rw[Zb.scal_eq rfl rx,Zb.scal_eq rfl ry]
    rw[ZT,ZbW P w ⟨λ_ _=>⟨by simp[Zav],by simp[Zav]⟩,by simp[Zav]⟩]
    show((Op.equal t (.bool a) (.bool b)) >>= λr=>pure (.bool r):Sem Value).run P w=_
    rw[ZT,heq]
    rfl
   ·refine⟨_,h,rfl,λX g w xo yo vx vy rx ry=>?_⟩
    rw[Zb.scal_eq rfl rx,Zb.scal_eq rfl ry]
    rw[ZT,ZbW P w ⟨λ_ _=>⟨by simp[Zav],by simp[Zav]⟩,by simp[Zav]⟩]
    show((Op.equal t (.bool a) (.bool b)) >>= λr=>pure (.bool !r):Sem Value).run P w=_
    rw[ZT,heq]
    rfl
   ·cases h
  ·cases h
 ·cases h
theorem un_sound {β:Type} {op:UnOp} {x:T} {k:T->Option β} {r:β} (h:unDen op x k=some r):
  ∃ d,k (.d true d)=some r/\Zag d=true/\∀ (P:Program) (X:Fix) (g:G) (w:World) (v:Value),Zb X w g x v->(Op.unary op v).run P w=.ok (Zav d) w:=by
 unfold unDen at h
 split at h
 ·exact⟨_,h,rfl,λP X g w v rx=>by rw[Zb.scal_eq rfl rx];rfl⟩
 ·exact⟨_,h,rfl,λP X g w v rx=>by rw[Zb.scal_eq rfl rx];rfl⟩
 ·cases h
end Go.T
